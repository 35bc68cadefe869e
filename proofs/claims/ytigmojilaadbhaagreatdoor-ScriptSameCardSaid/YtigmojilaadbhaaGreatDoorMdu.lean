/-
  Texts of one claim, merged: 7 parts.
-/
import Derived.Test.YtigmojilaadbhaaGreatDoorMdt
import Derived.Test.YtigmojilaadbhaaGreatDoorMde
import Derived.Test.YtigmojilaadbhaaGreatDoorMdf
import Derived.Test.YtigmojilaadbhaaGreatDoorMdh
set_option maxHeartbeats 16000000
/- . -/
namespace Go.Proofs.YtigmojilaadbhaaGreatDoor
open Go Go.Eng Go.Pln Go.Lib
attribute [local irreducible] AWp AL DAL AOp TAL
instance i_members : FnC Tryz.prog 108 := ⟨Tryz.f108, Tryz.func108, by kernel_rfl, by kernel_rfl⟩
theorem qcX (w : Bytes) : I64 (numP w) := by
 unfold numP
 split
 ·
  rename_i n hn
  have := qeN hn
  split
  ·
   exact this
  ·
   exact ⟨by omega, by omega⟩
 ·
  exact ⟨by omega, by omega⟩
theorem iv64_app (l : List Int) (n : Int) : iv64 l ++ [Value.int .i64 n] = iv64 (l ++ [n]) := by simp
structure MbI (H1 : Heap) (rd : Nat) (s rest : Bytes) (acc : List Int) (H : Heap) (u : Value) : Prop where
 r : Rdr H1 rd rest H
 eq : membersV 4 s = acc ++ membersV (4 - acc.length) rest
 le : acc.length ≤ 4
 os : OS H1.next H 3 u (iv64 acc)
 num : ∀ n ∈ acc, I64 n
 len : rest.length ≤ s.length
theorem members_c (s : Bytes) (h : Heap) (t : Tabs h) (h8 : 8 ≤ h.next) (hl : s.length ≤ 1000000000) : ACalls Tryz.prog 108 [str s] h fun u h' => ∃ v, u = .tuple #[v, .bool (membersP s).2] ∧ OS h.next h' 3 v (iv64 (membersP s).1) ∧ Ext h h' := by
 refine ACalls.wf fun wf => ?_
 refine ACalls.body Tryz.func108 rfl rfl ?_
 repeat (first | refine W.w ?_ | (refine zz rfl ?_; first | refine qal rfl ?_ | refine qbl rfl ?_ | refine qaa rfl ?_ | refine qay (out := [str s]) rfl rfl ?_))
 refine zz rfl (qaI (v := .agg #[str s]) rfl (by intro e; cases e) ?_)
 refine AL.heap (h := h.alloc (rdB s)) rfl ?_
 generalize hH : h.alloc (rdB s) = H1
 have gr : H1.get h.next = some (rdB s) := hH ▸ Heap.alloc_new _ _
 have x1 : Ext h H1 := hH ▸ wf.ext _
 have w1 : WF H1 := hH ▸ wf.alloc _
 have n1 : h.next < H1.next := w1.lt gr
 clear hH
 have r1 : Rdr H1 h.next s H1 := ⟨by rw [qdN gr]; exact Ext.refl H1, w1, w1, n1, h8, Nat.le_refl _, t.ext x1⟩
 have xb : ∀ b, Ext h (H1.set h.next b) := fun b => wf.ext_set x1 (Nat.le_refl _) b
 generalize h.next = rd at gr n1 h8 r1 xb ⊢
 repeat (first | refine W.w ?_ | refine zz rfl (qaw rfl ?_) | refine zz rfl (qcD rfl ?_))
 refine zz rfl (qao (evs := [ptr rd]) rfl rfl ((qcS r1 hl).mono ?_))
 rintro _ H2 ⟨rfl, hH2⟩
 have r2 : Rdr H1 rd (cutS s).2 H2 := hH2 ▸ r1.set _
 clear hH2
 have hcl := (qbt s).2
 have hmp : membersP s = (membersV 4 (cutS s).2, decide (groupL (membersV 4 (cutS s).2) = s)) := rfl
 rw [hmp]
 generalize (cutS s).2 = s1 at r2 hcl ⊢
 repeat (first | refine W.w ?_ | refine zz rfl (qbl rfl ?_))
 refine AWp.loop (α := Bytes × List Int × Heap × Value) (fun d => [(0, str s), (4, ptr rd), (5, d.2.2.2)]) (fun d => d.2.2.1) (fun d => MbI H1 rd s1 d.1 d.2.1 d.2.2.1 d.2.2.2) (fun d => d.1.length) (s1, [], H2, .slice none 0 0) ⟨r2, rfl, Nat.zero_le _, OS.nil _ _ _, (fun n hn => by cases hn), Nat.le_refl _⟩
  (Weak.same (EW.cons rfl (EW.cons rfl (EW.cons rfl EW.nil)))) ?_
 rintro ⟨rest, acc, H, u⟩ k
 replace k : MbI H1 rd s1 rest acc H u := k
 show AWp _ _ _ _ [(0, str s), (4, ptr rd), (5, u)] H
 obtain ⟨kr, ke, kl, ko, kn, kq⟩ := k
 have hb := kr.box
 obtain ⟨ua, uc, hu⟩ := RS.slice ko.rs
 have hml : (iv64 acc).length = acc.length := List.length_map _
 have xH : Ext h H := (xb _).trans kr.ext
 have cg := group_c u acc H kr.tabs ko.rs kn (by omega)
 have fin : membersV 4 s1 = acc → ∀ b, b = decide (groupL acc = s) → ∃ v, Value.tuple #[u, .bool b] = .tuple #[v, .bool (decide (groupL (membersV 4 s1) = s))] ∧ OS rd H 3 v (iv64 (membersV 4 s1)) ∧ Ext h H := fun e b hb => by
  rw [e, hb]
  exact ⟨u, rfl, OS.low ko (Nat.le_of_lt n1), xH⟩
 by_cases h1 : rest = []
 ·
  have e0 : membersV 4 s1 = acc := by
   rw [ke, h1]
   cases 4 - acc.length <;> simp [membersV]
  by_cases hg : groupL acc = s
  ·
   repeat (first | refine AL.nil ?_ | refine AL.skip rfl rfl ?_ | refine AWp.seq ?_ | refine AWp.r9 ?_ | refine AWp.c9 rfl ?_ | refine AWp.ret ?_ | refine AWp.exit ?_ | (refine zz rfl ?_; first | refine qag rfl ?_ | refine qaw rfl ?_ | refine qal rfl ?_ | refine qaa rfl ?_ | refine qaA rfl ?_ | refine qap rfl ?_ | refine qae rfl rfl hb rfl ?_ | refine qbJ (a := rest) (b := []) rfl rfl h1 ?_ | refine qai (v := .bool _) rfl rfl ?_ | refine qan (v := u) rfl ?_ | refine qaq (v := u) rfl ?_ | refine qab rfl rfl cg ?_ | refine qaV rfl rfl hg ?_))
   exact ⟨_, ResV.tmp2 rfl, fin e0 _ (decide_eq_true hg).symm⟩
  ·
   repeat (first | refine AL.nil ?_ | refine AL.skip rfl rfl ?_ | refine AWp.seq ?_ | refine AWp.r9 ?_ | refine AWp.c9 rfl ?_ | refine AWp.ret ?_ | refine AWp.exit ?_ | (refine zz rfl ?_; first | refine qag rfl ?_ | refine qaw rfl ?_ | refine qal rfl ?_ | refine qaa rfl ?_ | refine qaA rfl ?_ | refine qap rfl ?_ | refine qae rfl rfl hb rfl ?_ | refine qbJ (a := rest) (b := []) rfl rfl h1 ?_ | refine qai (v := .bool _) rfl rfl ?_ | refine qan (v := u) rfl ?_ | refine qaq (v := u) rfl ?_ | refine qab rfl rfl cg ?_ | refine qbX rfl rfl hg ?_))
   exact ⟨_, ResV.tmp2 rfl, fin e0 _ (decide_eq_false hg).symm⟩
 ·
  by_cases h2 : acc.length ≤ 3
  ·
   repeat (first | refine W.w ?_ | refine AWp.c8 rfl ?_ | (refine zz rfl ?_; first | refine qag rfl ?_ | refine qaw rfl ?_ | refine qaA rfl ?_ | refine qap rfl ?_ | refine qae rfl rfl hb rfl ?_ | refine qbr (a := rest) (b := []) rfl rfl h1 ?_ | refine qai (v := .bool _) rfl rfl ?_ | refine qan (v := u) rfl ?_ | refine qaE ko.rs rfl ?_ | refine qaj rfl rfl rfl (by omega) ?_))
   refine zz rfl (qao (evs := [ptr rd]) rfl rfl ((qbh kr (by omega)).mono ?_))
   rintro _ H3 ⟨rfl, hH3⟩
   have r3 : Rdr H1 rd (numS rest).2 H3 := hH3 ▸ kr.set _
   have x3 : Ext (H.set rd (rdB (numS rest).2)) H3 := hH3 ▸ Ext.refl _
   have o3 := OS.over ko (by omega) x3
   have hc2 := cutS_lt h1
   have hc3 : (numS rest).2.length < rest.length := hc2
   clear hH3
   repeat (first | refine zz rfl (qa0 [.int .i64 (numS rest).1] rfl rfl rfl rfl (by intro w hw; rw [List.mem_singleton.1 hw]; rfl) ?_))
   obtain ⟨H4, hQ, gq, xr, wr, _⟩ := aq r3.wf ⟨[.int .i64 (numS rest).1], 3, true⟩
   rw [hQ]
   have r4 := r3.grow xr wr (by have := wr.lt gq; omega)
   have o4 := o3.ext xr
   have rn : RS H4 (.slice (some ⟨H3.next, 0, some 1⟩) 1 1) [.int .i64 (numS rest).1] := RS.own gq rfl
   refine zz rfl (qbj (by_ := 8) (z := .int .i64 0) (B := H1.next) (e := 3) rfl wr r4.nx o4 rfl rfl rn.src rfl rfl (by rw [hml]; simp only [maxLen, List.length_cons, List.length_nil]; omega) (by rw [hml]; simp only [List.length_cons, List.length_nil]; omega) ?_)
   intro u' H5 o5 k5 wf5 n5
   rw [iv64_app] at o5
   have r5 : Rdr H1 rd (numS rest).2 H5 := ⟨k5.ext o4 (w1.set n1 _) (Nat.le_refl _) r4.ext, wf5, w1, n1, h8, by have := r4.nx; omega, t.ext x1⟩
   repeat (first | refine AL.nil ?_ | refine zz rfl (qaq (v := u') rfl ?_))
   refine ⟨((numS rest).2, acc ++ [(numS rest).1], H5, u'), ⟨r5, ?_, by simp only [List.length_append, List.length_cons, List.length_nil]; omega, o5, ?_, by show (numS rest).2.length ≤ s1.length; omega⟩, hc3, Weak.same (EW.cons rfl (EW.cons rfl (EW.cons rfl EW.nil)))⟩
   ·
    show membersV 4 s1 = (acc ++ [(numS rest).1]) ++ membersV (4 - (acc ++ [(numS rest).1]).length) (numS rest).2
    rw [ke, List.length_append, show 4 - acc.length = (4 - (acc.length + [(numS rest).1].length)) + 1 by simp only [List.length_cons, List.length_nil]; omega, membersV, if_neg h1]
    simp
   ·
    intro n hn
    rcases List.mem_append.1 hn with hn | hn
    ·
     exact kn n hn
    ·
     rw [List.mem_singleton.1 hn]
     exact qcX _
  ·
   have e0 : membersV 4 s1 = acc := by rw [ke, show 4 - acc.length = 0 by omega, membersV, List.append_nil]
   by_cases hg : groupL acc = s
   ·
    repeat (first | refine AL.nil ?_ | refine AWp.seq ?_ | refine AWp.r9 ?_ | refine AWp.c9 rfl ?_ | refine AWp.ret ?_ | refine AWp.exit ?_ | (refine zz rfl ?_; first | refine qag rfl ?_ | refine qaw rfl ?_ | refine qal rfl ?_ | refine qaa rfl ?_ | refine qaA rfl ?_ | refine qap rfl ?_ | refine qae rfl rfl hb rfl ?_ | refine qbr (a := rest) (b := []) rfl rfl h1 ?_ | refine qai (v := .bool _) rfl rfl ?_ | refine qan (v := u) rfl ?_ | refine qaq (v := u) rfl ?_ | refine qaE ko.rs rfl ?_ | refine qak rfl rfl rfl (by omega) ?_ | refine qab rfl rfl cg ?_ | refine qaV rfl rfl hg ?_))
    exact ⟨_, ResV.tmp2 rfl, fin e0 _ (decide_eq_true hg).symm⟩
   ·
    repeat (first | refine AL.nil ?_ | refine AWp.seq ?_ | refine AWp.r9 ?_ | refine AWp.c9 rfl ?_ | refine AWp.ret ?_ | refine AWp.exit ?_ | (refine zz rfl ?_; first | refine qag rfl ?_ | refine qaw rfl ?_ | refine qal rfl ?_ | refine qaa rfl ?_ | refine qaA rfl ?_ | refine qap rfl ?_ | refine qae rfl rfl hb rfl ?_ | refine qbr (a := rest) (b := []) rfl rfl h1 ?_ | refine qai (v := .bool _) rfl rfl ?_ | refine qan (v := u) rfl ?_ | refine qaq (v := u) rfl ?_ | refine qaE ko.rs rfl ?_ | refine qak rfl rfl rfl (by omega) ?_ | refine qab rfl rfl cg ?_ | refine qbX rfl rfl hg ?_))
    exact ⟨_, ResV.tmp2 rfl, fin e0 _ (decide_eq_false hg).symm⟩
instance i_first : FnC Tryz.prog 60 := ⟨Tryz.f60, Tryz.func60, by kernel_rfl, by kernel_rfl⟩
instance i_StD_api_Setup : StD Tryz.prog 24 [(0, 1), (1, 1), (2, 1), (3, 1), (4, 1)] := ⟨_, Tryz.underlying24, by kernel_rfl⟩
abbrev nilS : Value := .slice none 0 0
abbrev setB (x : SetM) : Blk := ⟨setC nilS x, 24, true⟩
theorem first_c (s : Bytes) (h : Heap) (t : Tabs h) (h8 : 8 ≤ h.next) (hl : s.length ≤ 1000000000) : ACalls Tryz.prog 60 [str s] h fun u h' => u = .tuple #[.agg (setC nilS (firstP s).1).toArray, .bool (firstP s).2] ∧ Ext h h' := by
 refine ACalls.wf fun wf => ?_
 refine ACalls.body Tryz.func60 rfl rfl ?_
 repeat (first | refine W.w ?_)
 refine zz rfl (qat ?_)
 refine AL.heap (h := h.alloc (setB set0)) rfl ?_
 generalize hH : h.alloc (setB set0) = H0
 have g0 : H0.get h.next = some (setB set0) := hH ▸ Heap.alloc_new _ _
 have x0 : Ext h H0 := hH ▸ wf.ext _
 have w0 : WF H0 := hH ▸ wf.alloc _
 have n0' : h.next < H0.next := w0.lt g0
 clear hH
 repeat (first | refine W.w ?_ | (refine zz rfl ?_; first | refine qal rfl ?_ | refine qaa rfl ?_ | refine qay (out := [str s]) rfl rfl ?_))
 refine zz rfl (qaI (v := .agg #[str s]) rfl (by intro e; cases e) ?_)
 refine AL.heap (h := H0.alloc (rdB s)) rfl ?_
 generalize hH : H0.alloc (rdB s) = H1
 have gr : H1.get H0.next = some (rdB s) := hH ▸ Heap.alloc_new _ _
 have x1 : Ext H0 H1 := hH ▸ w0.ext _
 have w1 : WF H1 := hH ▸ w0.alloc _
 have n1 : H0.next < H1.next := w1.lt gr
 clear hH
 have r1 : Rdr H1 H0.next s H1 := ⟨by rw [qdN gr]; exact Ext.refl H1, w1, w1, n1, by omega, Nat.le_refl _, t.ext (x0.trans x1)⟩
 have g1 := x1.c _ _ g0
 have xb : ∀ b, Ext h (H1.set H0.next b) := fun b => wf.ext_set (x0.trans x1) (by omega) b
 have hne : h.next ≠ H0.next := by omega
 have lr : h.next ≤ H1.next := by omega
 have lx : h.next < H1.next := by omega
 generalize H0.next = rd at gr n1 r1 xb hne ⊢
 repeat (first | refine W.w ?_ | refine zz rfl (qaw rfl ?_) | refine zz rfl (qcD rfl ?_))
 refine zz rfl (qao (evs := [ptr rd]) rfl rfl ((qcS r1 hl).mono ?_))
 rintro _ H2 ⟨rfl, hH2⟩
 have r2 : Rdr H1 rd (cutS s).2 H2 := hH2 ▸ r1.set _
 clear hH2
 have hcl := (qbt s).2
 have hfp : firstP s = (firstV (cutS s).2, sizesM (firstV (cutS s).2) && decide (firstL (firstV (cutS s).2) = s)) := rfl
 rw [hfp]
 generalize (cutS s).2 = s1 at r2 hcl ⊢
 have l1 := qck s1
 have l2 := qck (numS s1).2
 have l3 := qck (numS (numS s1).2).2
 repeat (first | refine W.w ?_ | refine zz rfl (qaw rfl ?_))
 refine zz rfl (qao (evs := [ptr rd]) rfl rfl ((qbh r2 (by omega)).mono ?_))
 rintro _ H3 ⟨rfl, hH3⟩
 have r3 : Rdr H1 rd (numS s1).2 H3 := hH3 ▸ r2.set _
 clear hH3
 repeat (first | refine zz rfl (qaw rfl ?_))
 refine zz rfl (qao (evs := [ptr rd]) rfl rfl ((qbh r3 (by omega)).mono ?_))
 rintro _ H4 ⟨rfl, hH4⟩
 have r4 : Rdr H1 rd (numS (numS s1).2).2 H4 := hH4 ▸ r3.set _
 clear hH4
 repeat (first | refine zz rfl (qaw rfl ?_))
 refine zz rfl (qao (evs := [ptr rd]) rfl rfl ((qbh r4 (by omega)).mono ?_))
 rintro _ H5 ⟨rfl, hH5⟩
 have r5 : Rdr H1 rd (numS (numS (numS s1).2).2).2 H5 := hH5 ▸ r4.set _
 clear hH5
 repeat (first | refine zz rfl (qaw rfl ?_))
 refine zz rfl (qao (evs := [ptr rd]) rfl rfl ((qbh r5 (by omega)).mono ?_))
 rintro _ H6 ⟨rfl, hH6⟩
 have r6 : Rdr H1 rd (numS (numS (numS (numS s1).2).2).2).2 H6 := hH6 ▸ r5.set _
 clear hH6
 obtain ⟨x, hx⟩ : ∃ x, x = firstV s1 := ⟨_, rfl⟩
 have hI : I64 x.nodes ∧ I64 x.disk ∧ I64 x.memory ∧ I64 x.level := by rw [hx]; exact ⟨qcX _, qcX _, qcX _, qcX _⟩
 rw [← hx]
 repeat (first | refine W.w ?_ | refine zz rfl (qay (out := setC nilS x) rfl (by rw [hx]; rfl) ?_) | refine zz rfl (qat ?_) | refine AL.eff rfl (qaC (vs := setC nilS x) rfl rfl rfl rfl rfl ?_))
 have g5 := Heap.alloc_new H6 (setB x)
 have x6 := r6.wf.ext (setB x)
 have w6 := r6.wf.alloc (setB x)
 have g2 := x6.c _ _ (r6.ext.c _ _ ((Heap.set_other hne).trans g1))
 have xh := (xb _).trans (r6.ext.trans x6)
 have th := r6.tabs.ext x6
 have nb : h.next < (H6.alloc (setB x)).next := by
  have := r6.nx
  show h.next < H6.next + 1
  omega
 refine AWp.heap (h := H6.alloc (setB x)) rfl ?_
 have nc : h.next ≠ H6.next := by have := r6.nx; omega
 generalize H6.alloc (setB x) = H7 at g5 w6 g2 xh th nb ⊢
 generalize H6.next = b5 at g5 nc ⊢
 have cs := sizes_c x nilS (by intro e; cases e) 
 cases hs : sizesM x with
 | false =>
  rw [hs] at cs
  refine AWp.tree (t := OT.seq [(0, .R), (1, .R), (2, .R), (3, .R), (19, .P), (4, .R), (5, .R), (6, .R), (7, .R), (8, .R), (9, .R), (10, .R), (11, .R), (12, .R), (13, .R), (14, .R), (15, .R), (16, .R), (17, .X), (18, .R), (20, .P), (21, .P), (22, .W), (23, .P)] .nil) mixed (by kernel_rfl) ?_
  repeat' (first | refine TAL.skip rfl rfl rfl ?_ | refine TAL.r rfl rfl rfl (fun h' hx hn => qag rfl ⟨rfl, rfl⟩) ?_ | refine TAL.r rfl rfl rfl (fun h' hx hn => qaf (sz := 5) rfl rfl (hx.c _ _ g5) (Nat.le_refl _) ⟨rfl, rfl⟩) ?_ | refine TAL.r rfl rfl rfl (fun h' hx hn => qab rfl rfl (cs h') ⟨rfl, rfl⟩) ?_ | refine TAL.p rfl rfl rfl (fun h' hn => qai (v := .bool _) rfl rfl ⟨rfl, rfl⟩) ?_)
  refine TAL.w0 rfl rfl (qas (vs := setC nilS x) rfl rfl rfl rfl g2 rfl ?_)
  repeat' (first | refine TAL.nil ?_ | refine TAL.p rfl rfl rfl (fun h' hn => qaa rfl ⟨rfl, rfl⟩) ?_)
  repeat (first | refine AWp.ret ?_)
  exact ⟨_, ResV.cell2 rfl rfl rfl (Heap.set_at _ _ _) (Nat.le_refl _), rfl, wf.ext_set xh (Nat.le_refl _) _⟩
 | true =>
  rw [hs] at cs
  have ct := qhc [.txt wSetup, .num x.nodes, .num x.disk, .num x.memory, .num x.level] H7 5 rfl w6 th ⟨⟨trivial, Nat.le_of_ble_eq_true rfl⟩, ⟨hI.1, trivial⟩, ⟨hI.2.1, trivial⟩, ⟨hI.2.2.1, trivial⟩, ⟨hI.2.2.2, trivial⟩, trivial⟩ (by show 5 ≤ 1000; omega)
  have ct' : ∀ h', Ext (H7.alloc (rowA [.txt wSetup, .num x.nodes, .num x.disk, .num x.memory, .num x.level])) h' → ACalls Tryz.prog 43 [.slice (some ⟨H7.next, 0, some 1⟩) 5 5] h' fun u h'' => u = str (firstL x) ∧ h'' = h' := ct
  refine AWp.tree (t := OT.seq [(0, .R), (1, .R), (2, .R), (3, .R), (19, .P), (4, .R), (5, .R), (6, .R), (7, .R), (8, .R), (9, .R), (10, .R), (11, .R), (12, .R), (13, .R), (14, .R), (15, .R), (16, .R), (17, .X), (18, .R), (20, .P), (21, .P), (22, .W), (23, .P)] .nil) mixed (by kernel_rfl) ?_
  repeat' (first | refine TAL.r rfl rfl rfl (fun h' hx hn => qag rfl ⟨rfl, rfl⟩) ?_ | refine TAL.p rfl rfl rfl (fun h' hn => qal rfl ⟨rfl, rfl⟩) ?_ | refine TAL.r rfl rfl rfl (fun h' hx hn => qaf (sz := 5) rfl rfl (hx.c _ _ g5) (Nat.le_refl _) ⟨rfl, rfl⟩) ?_ | refine TAL.r rfl rfl rfl (fun h' hx hn => qab rfl rfl (cs h') ⟨rfl, rfl⟩) ?_ | refine TAL.r rfl rfl rfl (fun h' hx hn => qap rfl ⟨rfl, rfl⟩) ?_ | refine TAL.r rfl rfl rfl (fun h' hx hn => qae rfl rfl (hx.c _ _ g5) rfl ⟨rfl, rfl⟩) ?_ | refine TAL.r rfl rfl rfl (fun h' hx hn => qa1 rfl rfl ⟨rfl, rfl⟩) ?_)
  refine TAL.x rfl rfl rfl (qa0 (([.txt wSetup, .num x.nodes, .num x.disk, .num x.memory, .num x.level] : List WArg).map argV) rfl rfl rfl rfl (qaS _) ⟨w6.ext _, ?_⟩)
  have x8 := w6.ext (rowA [.txt wSetup, .num x.nodes, .num x.disk, .num x.memory, .num x.level])
  have g28 := x8.c _ _ g2
  by_cases he : firstL x = s
  ·
   repeat' (first | refine TAL.r rfl rfl rfl (fun h' hx hn => qab rfl rfl (ct' h' hx) ⟨rfl, rfl⟩) ?_ | refine TAL.p rfl rfl rfl (fun h' hn => qaV rfl rfl he ⟨rfl, rfl⟩) ?_ | refine TAL.p rfl rfl rfl (fun h' hn => qai (v := .bool _) rfl rfl ⟨rfl, rfl⟩) ?_)
   refine TAL.w0 rfl rfl (qas (vs := setC nilS x) rfl rfl rfl rfl g28 rfl ?_)
   repeat' (first | refine TAL.nil ?_ | refine TAL.p rfl rfl rfl (fun h' hn => qaa rfl ⟨rfl, rfl⟩) ?_)
   repeat (first | refine AWp.ret ?_)
   exact ⟨_, ResV.cell2 rfl rfl rfl (Heap.set_at _ _ _) (Nat.le_refl _), by rw [decide_eq_true he]; rfl, wf.ext_set (xh.trans x8) (Nat.le_refl _) _⟩
  ·
   repeat' (first | refine TAL.r rfl rfl rfl (fun h' hx hn => qab rfl rfl (ct' h' hx) ⟨rfl, rfl⟩) ?_ | refine TAL.p rfl rfl rfl (fun h' hn => qbX rfl rfl he ⟨rfl, rfl⟩) ?_ | refine TAL.p rfl rfl rfl (fun h' hn => qai (v := .bool _) rfl rfl ⟨rfl, rfl⟩) ?_)
   refine TAL.w0 rfl rfl (qas (vs := setC nilS x) rfl rfl rfl rfl g28 rfl ?_)
   repeat' (first | refine TAL.nil ?_ | refine TAL.p rfl rfl rfl (fun h' hn => qaa rfl ⟨rfl, rfl⟩) ?_)
   repeat (first | refine AWp.ret ?_)
   exact ⟨_, ResV.cell2 rfl rfl rfl (Heap.set_at _ _ _) (Nat.le_refl _), by rw [decide_eq_false he]; rfl, wf.ext_set (xh.trans x8) (Nat.le_refl _) _⟩
instance i_chk : FnC Tryz.prog 34 := ⟨Tryz.f34, Tryz.func34, by kernel_rfl, by kernel_rfl⟩
instance i_chk1 : FnC Tryz.prog 81 := ⟨Tryz.f81, Tryz.func81, by kernel_rfl, by kernel_rfl⟩
instance i_idxA : FnC Tryz.prog 80 := ⟨Tryz.f80, Tryz.func80, by kernel_rfl, by kernel_rfl⟩
instance i_TyD_api_Script : TyD Tryz.prog 44 (.struct #[fd "Setup" 24 0 "" 0, fd "Acts" 42 5 "" 56]) := ⟨Tryz.underlying44⟩
instance i_TyI_api_Script : TyI Tryz.prog 44 6 80 (.agg #[.int .i64 0, .slice none 0 0, .int .i64 0, .int .i64 0, .int .i64 0, .slice none 0 0]) := ⟨qaK (by kernel_rfl), rfl, rfl⟩
instance qgR : FAd Tryz.prog 44 0 0 := FAd.mk' (ft := 24) Tryz.underlying44 rfl rfl rfl rfl
instance qgT : FAd Tryz.prog 44 1 5 := FAd.mk' (ft := 42) Tryz.underlying44 rfl rfl rfl rfl
structure RA (h : Heap) (v : Value) (l : List ActM) : Prop where
 ex : ∃ rows, RN 33 h v rows ∧ rows.length = l.length ∧ ∀ (k : Nat) row a, rows[k]? = some row → l[k]? = some a → ∃ q, row = actC q a ∧ ActR h q a
 len : l.length ≤ 140737488351232
theorem RA.ext {h h' : Heap} {v : Value} {l : List ActM} (r : RA h v l) (hx : Ext h h') : RA h' v l := by
 obtain ⟨rows, h1, h2, h3⟩ := r.ex
 exact ⟨⟨rows, h1.ext hx, h2, fun k row a e1 e2 => by
  obtain ⟨q, e, hq⟩ := h3 k row a e1 e2
  exact ⟨q, e, hq.ext hx⟩⟩, r.len⟩
def scrC (vg va : Value) (x : SetM) : List Value := [.int .i64 x.nodes, vg, .int .i64 x.disk, .int .i64 x.memory, .int .i64 x.level, va]
abbrev scrB (vg va : Value) (x : SetM) : Blk := ⟨scrC vg va x, 44, true⟩
theorem fi_some {α : Type} {p : α → Bool} : ∀ {l : List α} {k : Nat} {a : α}, l[k]? = some a → p a = true → (l.take k).all (fun a => !p a) = true → l.findIdx? p = some k
 | [], k, a, h, _, _ => by simp at h
 | b :: l, 0, a, h, hp, _ => by
  cases h
  simp [List.findIdx?_cons, hp]
 | b :: l, k + 1, a, h, hp, ha => by
  rw [List.take_succ_cons, List.all_cons, Bool.and_eq_true] at ha
  have ih := fi_some (l := l) (k := k) (by simpa using h) hp ha.2
  have hb : p b = false := by simpa using ha.1
  simp [List.findIdx?_cons, hb, ih]
theorem fi_none {α : Type} {p : α → Bool} {l : List α} (h : l.all (fun a => !p a) = true) : l.findIdx? p = none := by
 rw [List.findIdx?_eq_none_iff]
 intro a ha
 simpa using List.all_eq_true.1 h a ha
theorem chk1_c (b : Nat) (vg va : Value) (x : SetM) (q : ActV) (a : ActM) (h : Heap) (hb : h.get b = some (scrB vg va x)) (rg : RG h vg x.groups) (r : ActR h q a) : ACalls Tryz.prog 81 [.agg (actC q a).toArray, ptr b] h fun u h' => u = .bool (!mayIn x a) ∧ h' = h := by
 refine ACalls.wf fun wf => ACalls.reset ?_
 refine ACalls.body Tryz.func81 rfl rfl ?_
 repeat (first | refine W.w ?_ | refine zz rfl (qaa rfl ?_) | refine zz rfl (qaI rfl (by intro e; cases e) ?_))
 generalize hH : h.alloc _ = H
 have hg : H.get h.next = some ⟨actC q a, 40, true⟩ := hH ▸ Heap.alloc_new _ _
 have hx : Ext h H := hH ▸ wf.ext _
 clear hH
 have cm := mayIn_c x vg q a H (rg.ext hx) (r.ext hx)
 repeat (first | refine W.w ?_ | (refine zz rfl ?_; first | refine qaa rfl ?_ | refine qap rfl ?_ | refine qaf (sz := 5) rfl rfl (hx.c _ _ hb) (Nat.le_of_ble_eq_true rfl) ?_ | refine qaf (sz := 33) rfl rfl hg (Nat.le_refl _) ?_ | refine qab rfl rfl cm ?_ | refine qaD rfl ?_))
 exact ⟨_, ResV.tmp rfl, rfl, hx, rfl, rfl⟩
abbrev chkV (b : Nat) : Value := .func (.func 81) #[] #[ptr b]
def idxM (o : Option Nat) : Int := match o with
 | some i => (i : Int)
 | none => -1
theorem idxA_c (b : Nat) (vg va : Value) (x : SetM) (l : List ActM) (h : Heap) (hb : h.get b = some (scrB vg va x)) (rg : RG h vg x.groups) (r : RA h va l) : ACalls Tryz.prog 80 [va, chkV b] h fun u h' => u = .int .i64 (idxM (l.findIdx? fun a => !mayIn x a)) ∧ h' = h := by
 refine ACalls.body Tryz.func80 rfl rfl ?_
 obtain ⟨rows, r1, r2, r3⟩ := r.ex
 obtain ⟨ua, uc, hu⟩ := r1.slice
 have hlen := r.len
 repeat (first | refine W.w ?_ | (refine zz rfl ?_; first | refine qad rfl ?_ | refine qac rfl ?_ | refine qan (v := va) rfl ?_ | refine qau r1 rfl ?_))
 refine AWp.loop (α := Nat) (fun k => [(0, va), (1, chkV b), (7, .int .i64 (rows.length : Nat)), (8, .int .i64 (k : Nat))]) (fun _ => h) (fun k => k ≤ l.length ∧ (l.take k).all (fun a => !!mayIn x a) = true) (fun k => l.length - k) 0 ⟨Nat.zero_le _, rfl⟩ (Weak.same (EW.cons rfl (EW.cons rfl (EW.cons rfl (EW.cons rfl EW.nil))))) ?_
 rintro k ⟨hk, ha⟩
 by_cases hlt : k < l.length
 ·
  obtain ⟨a, hla⟩ : ∃ a, l[k]? = some a := ⟨_, List.getElem?_eq_getElem hlt⟩
  obtain ⟨row, hrow⟩ : ∃ row, rows[k]? = some row := ⟨_, List.getElem?_eq_getElem (by omega)⟩
  obtain ⟨q, rfl, hq⟩ := r3 k row a hrow hla
  have cb := chk1_c b vg va x q a h hb rg hq
  have hst := qep (p := fun a => !!mayIn x a) hla
  rw [ha, Bool.true_and] at hst
  repeat (first | refine W.w ?_ | refine AWp.c8 rfl ?_ | (refine zz rfl ?_; first | refine qad rfl ?_ | refine qaN rfl ?_ | refine qac rfl ?_ | refine qaj rfl rfl rfl (by omega) ?_ | refine qan (v := va) rfl ?_ | refine qcu r1 rfl rfl (by omega) (show rows[((k : Nat) : Int).toNat]? = some _ from hrow) ?_))
  intro p hp
  cases hm : mayIn x a with
  | true =>
   rw [hm] at cb hst
   repeat (first | refine W.w ?_ | refine AWp.c9 rfl ?_ | (refine zz rfl ?_; first | refine qad rfl ?_ | refine qaJ hp rfl rfl rfl ?_ | refine qab rfl rfl cb ?_ | refine qav rfl rfl (by omega) ?_))
   exact ⟨k + 1, ⟨hlt, hst⟩, by omega, Weak.same (EW.cons rfl (EW.cons rfl (EW.cons rfl (EW.cons rfl EW.nil))))⟩
  | false =>
   rw [hm] at cb
   repeat (first | refine W.w ?_ | refine AWp.c8 rfl ?_ | (refine zz rfl ?_; first | refine qad rfl ?_ | refine qac rfl ?_ | refine qaJ hp rfl rfl rfl ?_ | refine qab rfl rfl cb ?_))
   refine ⟨_, ResV.tmp rfl, ?_, rfl⟩
   rw [fi_some (p := fun a => !mayIn x a) hla (by simp [hm]) ha]
   rfl
 ·
  obtain rfl : k = l.length := by omega
  rw [List.take_length] at ha
  repeat (first | refine AL.nil ?_ | refine AWp.seq ?_ | refine AWp.r9 ?_ | refine AWp.c9 rfl ?_ | refine AWp.ret ?_ | refine AWp.exit ?_ | refine zz rfl (qac rfl ?_) | refine zz rfl (qak rfl rfl rfl (by omega) ?_))
  refine ⟨_, ResV.tmp rfl, ?_, rfl⟩
  rw [fi_none (p := fun a => !mayIn x a) ha]
  rfl
theorem check_c (s : ScrM) (vg va : Value) (h : Heap) (rg : RG h vg s.setup.groups) (r : RA h va s.acts) : ACalls Tryz.prog 34 [.agg (scrC vg va s.setup).toArray] h fun u h' => u = .tuple #[.int .i64 (checkM s).1, .int .i64 (checkM s).2] ∧ h' = h := by
 refine ACalls.wf fun wf => ACalls.resetB ?_
 have hB : ∀ a b : Int, Bdd h.next (.tuple #[.int .i64 a, .int .i64 b]) := fun a b => Bdd.plain (by simp [plainV, scalar])
 refine ACalls.body Tryz.func34 rfl rfl ?_
 repeat (first | refine W.w ?_ | refine zz rfl (qac rfl ?_) | refine zz rfl (qaI rfl (by intro e; cases e) ?_))
 generalize hH : h.alloc _ = H
 have hg : H.get h.next = some (scrB vg va s.setup) := hH ▸ Heap.alloc_new _ _
 have hx : Ext h H := hH ▸ wf.ext _
 clear hH
 have cs := qfv s.setup vg H (rg.ext hx)
 cases hs : maySet s.setup with
 | false =>
  rw [hs] at cs
  repeat (first | refine W.w ?_ | refine AWp.c8 rfl ?_ | (refine zz rfl ?_; first | refine qac rfl ?_ | refine qap rfl ?_ | refine qaf (sz := 5) rfl rfl hg (Nat.le_of_ble_eq_true rfl) ?_ | refine qab rfl rfl cs ?_ | refine qaD rfl ?_))
  exact ⟨_, ResV.tmp2 rfl, hB _ _, hx, by unfold checkM; rw [hs]; rfl, rfl⟩
 | true =>
  rw [hs] at cs
  have ci := idxA_c h.next vg va s.setup s.acts H hg (rg.ext hx) (r.ext hx)
  obtain ⟨rows, r1, r2, _⟩ := (r.ext hx).ex
  have hlen := r.len
  cases hf : s.acts.findIdx? (fun a => !mayIn s.setup a) with
  | some i =>
   rw [hf] at ci
   repeat (first | refine W.w ?_ | refine AWp.c8 rfl ?_ | refine AWp.c9 rfl ?_ | (refine zz rfl ?_; first | refine qad rfl ?_ | refine qac rfl ?_ | refine qap rfl ?_ | refine qaf (sz := 5) rfl rfl hg (Nat.le_of_ble_eq_true rfl) ?_ | refine qab rfl rfl cs ?_ | refine qae rfl rfl hg rfl ?_ | refine qaL rfl rfl ?_ | refine qab rfl rfl ci ?_ | refine qaj rfl rfl rfl (by show (0 : Int) ≤ (i : Int); omega) ?_ | refine qaD rfl ?_))
   exact ⟨_, ResV.tmp2 rfl, hB _ _, hx, by unfold checkM; rw [hs, hf]; rfl, rfl⟩
  | none =>
   rw [hf] at ci
   by_cases hl : 65536 < s.acts.length
   ·
    repeat (first | refine W.w ?_ | refine AWp.c8 rfl ?_ | refine AWp.c9 rfl ?_ | (refine zz rfl ?_; first | refine qad rfl ?_ | refine qac rfl ?_ | refine qap rfl ?_ | refine qaf (sz := 5) rfl rfl hg (Nat.le_of_ble_eq_true rfl) ?_ | refine qab rfl rfl cs ?_ | refine qae rfl rfl hg rfl ?_ | refine qaL rfl rfl ?_ | refine qab rfl rfl ci ?_ | refine qak rfl rfl rfl (by show ¬ (0 : Int) ≤ -1; omega) ?_ | refine qau r1 rfl ?_ | refine qaj rfl rfl rfl (by omega) ?_ | refine qaD rfl ?_))
    exact ⟨_, ResV.tmp2 rfl, hB _ _, hx, by rw [show checkM s = (0, 3) by unfold checkM; rw [hs, hf]; simp [hl]]; rfl, rfl⟩
   ·
    repeat (first | refine W.w ?_ | refine AWp.c9 rfl ?_ | (refine zz rfl ?_; first | refine qad rfl ?_ | refine qac rfl ?_ | refine qap rfl ?_ | refine qaf (sz := 5) rfl rfl hg (Nat.le_of_ble_eq_true rfl) ?_ | refine qab rfl rfl cs ?_ | refine qae rfl rfl hg rfl ?_ | refine qaL rfl rfl ?_ | refine qab rfl rfl ci ?_ | refine qak rfl rfl rfl (by show ¬ (0 : Int) ≤ -1; omega) ?_ | refine qau r1 rfl ?_ | refine qak rfl rfl rfl (by omega) ?_ | refine qaD rfl ?_))
    exact ⟨_, ResV.tmp2 rfl, hB _ _, hx, by rw [show checkM s = (0, 0) by unfold checkM; rw [hs, hf]; simp [hl]]; rfl, rfl⟩
end Go.Proofs.YtigmojilaadbhaaGreatDoor
/- . -/
namespace Go.Eng
open Go
section
variable {P : Program} {h : Heap} {n : Nat} {t e : TypeId} {cs : List Value}
theorem Rd.int {k : IntKind} (hu : P.underlying t = some (.int k)) (r : Rd P h (n + 1) t cs) : ∃ a, cs = [.int k a] ∧ (Lit.int k a).wf = true := by
 unfold Rd at r
 rw [hu] at r
 exact r
theorem Rd.str (hu : P.underlying t = some .string) (r : Rd P h (n + 1) t cs) : ∃ s, cs = [.string (bstr s)] ∧ s.length ≤ reachBytes := by
 unfold Rd at r
 rw [hu] at r
 exact r
theorem Rd.bool (hu : P.underlying t = some .bool) (r : Rd P h (n + 1) t cs) : ∃ b, cs = [.bool b] := by
 unfold Rd at r
 rw [hu] at r
 exact r
theorem Rd.strc {fs : Array Field} (hu : P.underlying t = some (.struct fs)) (r : Rd P h (n + 1) t cs) : cs.length = P.cellsOf t ∧ ∀ f ∈ fs.toList, Rd P h n f.type ((cs.drop f.offset).take (P.cellsOf f.type)) := by
 unfold Rd at r
 rw [hu] at r
 exact r
theorem qil {α : Type} {Q : Nat → α → Prop} : ∀ m : Nat, (∀ k, k < m → ∃ x, Q k x) → ∃ L : List α, L.length = m ∧ ∀ (k : Nat) x, L[k]? = some x → Q k x
 | 0, _ => ⟨[], rfl, fun k x h => by simp at h⟩
 | m + 1, p => by
  obtain ⟨L, h1, h2⟩ := qil m fun k hk => p k (by omega)
  obtain ⟨x, hx⟩ := p m (by omega)
  refine ⟨L ++ [x], by simp [h1], fun k y hy => ?_⟩
  rw [List.getElem?_append] at hy
  split at hy
  ·
   exact h2 k y hy
  ·
   rename_i hk
   have : k = m := by
    have := (List.getElem?_eq_some_iff.1 hy).1
    simp at this
    omega
   subst this
   simp only [h1, Nat.sub_self, List.getElem?_cons_zero, Option.some.injEq] at hy
   subst hy
   exact hx
theorem Rd.rows {α : Type} {row : α → List Value} {Q : α → Prop} {c : Nat} (hu : P.underlying t = some (.slice e)) (hc : P.cellsOf e = c) (h0 : 0 < c) (r : Rd P h (n + 1) t cs) (hq : ∀ cs, Rd P h n e cs → ∃ x, cs = row x ∧ (row x).length = c ∧ Q x) :
  ∃ (v : Value) (L : List α), cs = [v] ∧ RN c h v (L.map row) ∧ (∀ x ∈ L, Q x) ∧ L.length * P.bytesOf e ≤ reachBytes := by
 unfold Rd at r
 rw [hu] at r
 subst hc
 rcases r with rfl | ⟨i, len, cap, cells, rfl, hb, hl, hg, ha⟩
 ·
  exact ⟨_, [], rfl, RN.nil _ _, by simp, by simp⟩
 ·
  obtain ⟨L, h1, h2⟩ := qil (Q := fun k x => (cells.drop (k * P.cellsOf e)).take (P.cellsOf e) = row x ∧ (row x).length = P.cellsOf e ∧ Q x) len fun k hk => hq _ (ha k hk)
  have hflat : (L.map row).flatten = cells := by
   have : L.map row = (List.range len).map fun k => (cells.drop (k * P.cellsOf e)).take (P.cellsOf e) := by
    apply List.ext_getElem?
    intro k
    rw [List.getElem?_map, List.getElem?_map]
    by_cases hk : k < len
    ·
     have hkl : k < L.length := by omega
     rw [List.getElem?_eq_getElem hkl, List.getElem?_range hk]
     simp only [Option.map_some]
     rw [(h2 k _ (List.getElem?_eq_getElem hkl)).1]
    ·
     rw [List.getElem?_eq_none (by omega), List.getElem?_eq_none (by simp; omega)]
     rfl
   rw [this]
   exact qcH hl
  have hmem : ∀ x ∈ L, (row x).length = P.cellsOf e ∧ Q x := fun x hx => by
   obtain ⟨k, hk⟩ := List.getElem?_of_mem hx
   exact (h2 k x hk).2
  refine ⟨_, L, rfl, ⟨fun r hr => by obtain ⟨x, hx, rfl⟩ := List.mem_map.1 hr; exact (hmem x hx).1, .inr ⟨i, 0, none, cap, by rw [List.length_map, h1], .inl rfl, fun hne => ?_⟩⟩, fun x hx => (hmem x hx).2, by rw [h1]; exact hb⟩
  rw [hflat, List.length_map, h1]
  by_cases hz : cells = []
  ·
   subst hz
   have h3 : len * P.cellsOf e = 0 := by simpa using hl.symm
   rw [h3]
   have : len ≠ 0 := fun e0 => hne (by rw [List.eq_nil_of_length_eq_zero (h1.trans e0)]; rfl)
   rcases Nat.mul_eq_zero.1 h3 with h4 | h4
   ·
    exact absurd h4 this
   ·
    omega
  ·
   exact ⟨_, hg hz, by simp only [Nat.zero_add]; omega, by simp only [List.drop_zero]; rw [List.take_of_length_le (by omega)]⟩
theorem RN.rs1 {α : Type} {f : α → Value} {v : Value} {L : List α} (r : RN 1 h v (L.map fun x => [f x])) : RS h v (L.map f) := by
 have hf : ∀ L : List α, (L.map fun x => [f x]).flatten = L.map f := fun L => by
  induction L with
  | nil => rfl
  | cons x L ih => simp only [List.map_cons, List.flatten_cons, ih]; rfl
 rcases r.at_ with ⟨h1, h2⟩ | ⟨i, o, s, cap, h1, h2, h3⟩
 ·
  refine .inl ⟨h1, ?_⟩
  have : L = [] := by simpa using h2
  rw [this]; rfl
 ·
  refine .inr ⟨i, o, s, cap, by simpa using h1, h2, fun hne => ?_⟩
  obtain ⟨b, b1, b2, b3⟩ := h3 (fun e => hne (by have h6 : L = [] := (by simpa using e); rw [h6]; rfl))
  rw [hf] at b3
  exact ⟨b, b1, by simpa using b2, by simpa using b3⟩
theorem Rd.bytes (hu : P.underlying t = some (.slice e)) (hv : P.underlying e = some (.int .u8)) (hc : P.cellsOf e = 1) (hb : P.bytesOf e = 1) (r : Rd P h (n + 2) t cs) : ∃ v b, cs = [v] ∧ RB h v b ∧ b.length ≤ reachBytes := by
 obtain ⟨v, L, h1, h2, _, h4⟩ := r.rows (row := fun x : UInt8 => [.int .u8 (x.toNat : Nat)]) (Q := fun _ => True) hu hc (by decide) fun cs rc => by
  obtain ⟨a, h1, h2⟩ := rc.int hv
  have h3 : 0 ≤ a ∧ a < 256 := by
   have h4 : (decide (IntKind.u8.min ≤ a) && decide (a ≤ IntKind.u8.max)) = true := h2
   simp only [Bool.and_eq_true, decide_eq_true_iff] at h4
   have h5 : IntKind.u8.min = 0 := rfl
   have h6 : IntKind.u8.max = 255 := rfl
   omega
  exact ⟨UInt8.ofNat a.toNat, by rw [h1]; simp; omega, rfl, trivial⟩
 exact ⟨v, L, h1, h2.rs1, by rw [hb] at h4; omega⟩
theorem RdV.cell {v : Value} (hw : wholeB (P.underlying t) = false) (r : RdV P h n t v) : Rd P h n t [v] := by
 unfold RdV at r
 rw [hw] at r
 exact r
theorem RdV.whole {v : Value} (hw : wholeB (P.underlying t) = true) (r : RdV P h n t v) : ∃ cs : Array Value, v = .agg cs ∧ Rd P h n t cs.toList := by
 unfold RdV at r
 rw [hw] at r
 exact r
end
end Go.Eng
/- . -/
namespace Go.Proofs.YtigmojilaadbhaaGreatDoor
open Go Go.Eng Go.Pln Go.Lib
attribute [local irreducible] Rd RdV AWp AL DAL AOp TAL
theorem qax {cs p r : List Value} {o n : Nat} (h1 : (cs.drop o).take n = p) (h2 : cs.drop (o + n) = r) : cs.drop o = p ++ r := by
 rw [← h1, ← h2, ← List.drop_drop, List.take_append_drop]
theorem qbC {cs : List Value} {n : Nat} (h : cs.length = n) : cs.drop n = [] := List.drop_of_length_le (by omega)
theorem qbv : Tryz.prog.cellsOf 3 = 1 := by kernel_rfl
theorem rc_i64 : Tryz.prog.cellsOf 2 = 1 := by kernel_rfl
theorem rc_str : Tryz.prog.cellsOf 9 = 1 := by kernel_rfl
theorem rc_bool : Tryz.prog.cellsOf 4 = 1 := by kernel_rfl
theorem qeE : Tryz.prog.cellsOf 5 = 1 := by kernel_rfl
theorem qeC : Tryz.prog.cellsOf 27 = 1 := by kernel_rfl
theorem rc_ak : Tryz.prog.cellsOf 26 = 1 := by kernel_rfl
theorem rc_ck : Tryz.prog.cellsOf 30 = 1 := by kernel_rfl
theorem rc_kd : Tryz.prog.cellsOf 169 = 1 := by kernel_rfl
theorem rc_atk : Tryz.prog.cellsOf 25 = 1 := by kernel_rfl
theorem rc_ask : Tryz.prog.cellsOf 29 = 7 := by kernel_rfl
theorem rc_req : Tryz.prog.cellsOf 32 = 9 := by kernel_rfl
theorem rc_move : Tryz.prog.cellsOf 34 = 6 := by kernel_rfl
theorem rc_ent : Tryz.prog.cellsOf 171 = 4 := by kernel_rfl
theorem rc_ents : Tryz.prog.cellsOf 35 = 1 := by kernel_rfl
theorem rc_cmd : Tryz.prog.cellsOf 37 = 20 := by kernel_rfl
theorem rc_kept : Tryz.prog.cellsOf 79 = 2 := by kernel_rfl
theorem rc_kepts : Tryz.prog.cellsOf 38 = 1 := by kernel_rfl
theorem rc_act : Tryz.prog.cellsOf 40 = 33 := by kernel_rfl
theorem rc_acts : Tryz.prog.cellsOf 42 = 1 := by kernel_rfl
theorem rc_ints : Tryz.prog.cellsOf 77 = 1 := by kernel_rfl
theorem rc_grps : Tryz.prog.cellsOf 22 = 1 := by kernel_rfl
theorem qik : Tryz.prog.cellsOf 24 = 5 := by kernel_rfl
theorem rc_scr : Tryz.prog.cellsOf 44 = 6 := by kernel_rfl
theorem rb_int : Tryz.prog.bytesOf 3 = 8 := by kernel_rfl
theorem qeD : Tryz.prog.bytesOf 5 = 1 := by kernel_rfl
theorem rb_ints : Tryz.prog.bytesOf 77 = 24 := by kernel_rfl
theorem rb_ent : Tryz.prog.bytesOf 171 = 64 := by kernel_rfl
theorem rb_kept : Tryz.prog.bytesOf 79 = 24 := by kernel_rfl
theorem rb_act : Tryz.prog.bytesOf 40 = 488 := by kernel_rfl
theorem ask_in (n : Nat) (h : Heap) (cs : List Value) (r : Rd Tryz.prog h (n + 3) 29 cs) : ∃ (q : AskV) (a : AskM), cs = askC q a ∧ AskR h q a := by
 obtain ⟨hl, hf⟩ := r.strc Tryz.underlying29
 rw [rc_ask] at hl
 have f0 : Rd Tryz.prog h (n + 2) 26 ((cs.drop 0).take (Tryz.prog.cellsOf 26)) := hf _ (List.mem_of_getElem? (i := 0) rfl)
 rw [rc_ak] at f0
 obtain ⟨x0, e0, _⟩ := f0.int Tryz.underlying26
 have f1 : Rd Tryz.prog h (n + 2) 27 ((cs.drop 1).take (Tryz.prog.cellsOf 27)) := hf _ (List.mem_of_getElem? (i := 1) rfl)
 rw [qeC] at f1
 obtain ⟨v1, x1, e1, b1, _⟩ := f1.bytes Tryz.underlying27 Tryz.underlying5 qeE qeD
 have f2 : Rd Tryz.prog h (n + 2) 27 ((cs.drop 2).take (Tryz.prog.cellsOf 27)) := hf _ (List.mem_of_getElem? (i := 2) rfl)
 rw [qeC] at f2
 obtain ⟨v2, x2, e2, b2, _⟩ := f2.bytes Tryz.underlying27 Tryz.underlying5 qeE qeD
 have f3 : Rd Tryz.prog h (n + 2) 27 ((cs.drop 3).take (Tryz.prog.cellsOf 27)) := hf _ (List.mem_of_getElem? (i := 3) rfl)
 rw [qeC] at f3
 obtain ⟨v3, x3, e3, b3, _⟩ := f3.bytes Tryz.underlying27 Tryz.underlying5 qeE qeD
 have f4 : Rd Tryz.prog h (n + 2) 27 ((cs.drop 4).take (Tryz.prog.cellsOf 27)) := hf _ (List.mem_of_getElem? (i := 4) rfl)
 rw [qeC] at f4
 obtain ⟨v4, x4, e4, b4, _⟩ := f4.bytes Tryz.underlying27 Tryz.underlying5 qeE qeD
 have f5 : Rd Tryz.prog h (n + 2) 4 ((cs.drop 5).take (Tryz.prog.cellsOf 4)) := hf _ (List.mem_of_getElem? (i := 5) rfl)
 rw [rc_bool] at f5
 obtain ⟨x5, e5⟩ := f5.bool Tryz.underlying4
 have f6 : Rd Tryz.prog h (n + 2) 3 ((cs.drop 6).take (Tryz.prog.cellsOf 3)) := hf _ (List.mem_of_getElem? (i := 6) rfl)
 rw [qbv] at f6
 obtain ⟨x6, e6, _⟩ := f6.int Tryz.underlying3
 have e := (qax e0 (qax e1 (qax e2 (qax e3 (qax e4 (qax e5 (qax e6 (qbC hl))))))))
 rw [List.drop_zero] at e
 exact ⟨⟨v1, v2, v3, v4⟩, ⟨x0, x1, x2, x3, x4, x5, x6⟩, e, ⟨b1, b2, b3, b4⟩⟩
theorem req_in (n : Nat) (h : Heap) (cs : List Value) (r : Rd Tryz.prog h (n + 4) 32 cs) : ∃ (q : AskV) (a : ReqM), cs = .int .i64 a.client :: .int .i64 a.number :: askC q a.ask ∧ AskR h q a.ask := by
 obtain ⟨hl, hf⟩ := r.strc Tryz.underlying32
 rw [rc_req] at hl
 have f0 : Rd Tryz.prog h (n + 3) 3 ((cs.drop 0).take (Tryz.prog.cellsOf 3)) := hf _ (List.mem_of_getElem? (i := 0) rfl)
 rw [qbv] at f0
 obtain ⟨x0, e0, _⟩ := f0.int Tryz.underlying3
 have f1 : Rd Tryz.prog h (n + 3) 2 ((cs.drop 1).take (Tryz.prog.cellsOf 2)) := hf _ (List.mem_of_getElem? (i := 1) rfl)
 rw [rc_i64] at f1
 obtain ⟨x1, e1, _⟩ := f1.int Tryz.underlying2
 have f2 : Rd Tryz.prog h (n + 3) 29 ((cs.drop 2).take (Tryz.prog.cellsOf 29)) := hf _ (List.mem_of_getElem? (i := 2) rfl)
 rw [rc_ask] at f2
 obtain ⟨q2, x2, e2, b2⟩ := ask_in _ h _ f2
 have e := (qax e0 (qax e1 (qax e2 (qbC hl))))
 rw [List.drop_zero] at e
 exact ⟨q2, ⟨x0, x1, x2⟩, e.trans (by simp), b2⟩
theorem move_in (n : Nat) (h : Heap) (cs : List Value) (r : Rd Tryz.prog h (n + 3) 34 cs) : ∃ (q : MoveV) (a : MoveM), cs = moveC q a ∧ MoveR h q a := by
 obtain ⟨hl, hf⟩ := r.strc Tryz.underlying34
 rw [rc_move] at hl
 have f0 : Rd Tryz.prog h (n + 2) 2 ((cs.drop 0).take (Tryz.prog.cellsOf 2)) := hf _ (List.mem_of_getElem? (i := 0) rfl)
 rw [rc_i64] at f0
 obtain ⟨x0, e0, _⟩ := f0.int Tryz.underlying2
 have f1 : Rd Tryz.prog h (n + 2) 27 ((cs.drop 1).take (Tryz.prog.cellsOf 27)) := hf _ (List.mem_of_getElem? (i := 1) rfl)
 rw [qeC] at f1
 obtain ⟨v1, x1, e1, b1, _⟩ := f1.bytes Tryz.underlying27 Tryz.underlying5 qeE qeD
 have f2 : Rd Tryz.prog h (n + 2) 27 ((cs.drop 2).take (Tryz.prog.cellsOf 27)) := hf _ (List.mem_of_getElem? (i := 2) rfl)
 rw [qeC] at f2
 obtain ⟨v2, x2, e2, b2, _⟩ := f2.bytes Tryz.underlying27 Tryz.underlying5 qeE qeD
 have f3 : Rd Tryz.prog h (n + 2) 4 ((cs.drop 3).take (Tryz.prog.cellsOf 4)) := hf _ (List.mem_of_getElem? (i := 3) rfl)
 rw [rc_bool] at f3
 obtain ⟨x3, e3⟩ := f3.bool Tryz.underlying4
 have f4 : Rd Tryz.prog h (n + 2) 3 ((cs.drop 4).take (Tryz.prog.cellsOf 3)) := hf _ (List.mem_of_getElem? (i := 4) rfl)
 rw [qbv] at f4
 obtain ⟨x4, e4, _⟩ := f4.int Tryz.underlying3
 have f5 : Rd Tryz.prog h (n + 2) 3 ((cs.drop 5).take (Tryz.prog.cellsOf 3)) := hf _ (List.mem_of_getElem? (i := 5) rfl)
 rw [qbv] at f5
 obtain ⟨x5, e5, _⟩ := f5.int Tryz.underlying3
 have e := (qax e0 (qax e1 (qax e2 (qax e3 (qax e4 (qax e5 (qbC hl)))))))
 rw [List.drop_zero] at e
 exact ⟨⟨v1, v2⟩, ⟨x0, x1, x2, x3, x4, x5⟩, e, ⟨b1, b2⟩⟩
def entX (x : EntM × Value × Value) : List Value := [x.2.1, .int .i64 x.1.seq, .int .i64 x.1.kind, x.2.2]
theorem ent_in (n : Nat) (h : Heap) (cs : List Value) (r : Rd Tryz.prog h (n + 3) 171 cs) : ∃ x : EntM × Value × Value, cs = entX x ∧ (entX x).length = 4 ∧ (RB h x.2.1 x.1.key ∧ RB h x.2.2 x.1.value) := by
 obtain ⟨hl, hf⟩ := r.strc Tryz.underlying171
 rw [rc_ent] at hl
 have f0 : Rd Tryz.prog h (n + 2) 27 ((cs.drop 0).take (Tryz.prog.cellsOf 27)) := hf _ (List.mem_of_getElem? (i := 0) rfl)
 rw [qeC] at f0
 obtain ⟨v0, x0, e0, b0, _⟩ := f0.bytes Tryz.underlying27 Tryz.underlying5 qeE qeD
 have f1 : Rd Tryz.prog h (n + 2) 2 ((cs.drop 1).take (Tryz.prog.cellsOf 2)) := hf _ (List.mem_of_getElem? (i := 1) rfl)
 rw [rc_i64] at f1
 obtain ⟨x1, e1, _⟩ := f1.int Tryz.underlying2
 have f2 : Rd Tryz.prog h (n + 2) 169 ((cs.drop 2).take (Tryz.prog.cellsOf 169)) := hf _ (List.mem_of_getElem? (i := 2) rfl)
 rw [rc_kd] at f2
 obtain ⟨x2, e2, _⟩ := f2.int Tryz.underlying169
 have f3 : Rd Tryz.prog h (n + 2) 27 ((cs.drop 3).take (Tryz.prog.cellsOf 27)) := hf _ (List.mem_of_getElem? (i := 3) rfl)
 rw [qeC] at f3
 obtain ⟨v3, x3, e3, b3, _⟩ := f3.bytes Tryz.underlying27 Tryz.underlying5 qeE qeD
 have e := (qax e0 (qax e1 (qax e2 (qax e3 (qbC hl)))))
 rw [List.drop_zero] at e
 exact ⟨(⟨x0, x1, x2, x3⟩, v0, v3), e, rfl, b0, b3⟩
theorem ents_in (n : Nat) (h : Heap) (cs : List Value) (r : Rd Tryz.prog h (n + 4) 35 cs) : ∃ v l, cs = [v] ∧ RE h v l := by
 obtain ⟨v, L, h1, h2, h3, h4⟩ := r.rows (row := entX) (Q := fun x => RB h x.2.1 x.1.key ∧ RB h x.2.2 x.1.value) Tryz.underlying35 rc_ent (by decide) (ent_in n h)
 rw [rb_ent] at h4
 unfold reachBytes at h4
 refine ⟨v, L.map (·.1), h1, ⟨⟨_, h2, by simp, fun k row e hr he => ?_⟩, by rw [List.length_map]; omega⟩⟩
 rw [List.getElem?_map] at hr he
 obtain ⟨x, hx, rfl⟩ := Option.map_eq_some_iff.1 hr
 rw [hx] at he
 cases he
 obtain ⟨b1, b2⟩ := h3 x (List.mem_of_getElem? hx)
 exact ⟨x.2.1, x.2.2, rfl, b1, b2⟩
theorem cmd_in (n : Nat) (h : Heap) (cs : List Value) (r : Rd Tryz.prog h (n + 5) 37 cs) : ∃ (q : CmdV) (a : CmdM), cs = cmdC q a ∧ CmdR h q a := by
 obtain ⟨hl, hf⟩ := r.strc Tryz.underlying37
 rw [rc_cmd] at hl
 have f0 : Rd Tryz.prog h (n + 4) 30 ((cs.drop 0).take (Tryz.prog.cellsOf 30)) := hf _ (List.mem_of_getElem? (i := 0) rfl)
 rw [rc_ck] at f0
 obtain ⟨x0, e0, _⟩ := f0.int Tryz.underlying30
 have f1 : Rd Tryz.prog h (n + 4) 32 ((cs.drop 1).take (Tryz.prog.cellsOf 32)) := hf _ (List.mem_of_getElem? (i := 1) rfl)
 rw [rc_req] at f1
 obtain ⟨q1, x1, e1, b1⟩ := req_in _ h _ f1
 have f2 : Rd Tryz.prog h (n + 4) 34 ((cs.drop 10).take (Tryz.prog.cellsOf 34)) := hf _ (List.mem_of_getElem? (i := 2) rfl)
 rw [rc_move] at f2
 obtain ⟨q2, x2, e2, b2⟩ := move_in _ h _ f2
 have f3 : Rd Tryz.prog h (n + 4) 35 ((cs.drop 16).take (Tryz.prog.cellsOf 35)) := hf _ (List.mem_of_getElem? (i := 3) rfl)
 rw [rc_ents] at f3
 obtain ⟨v3, x3, e3, b3⟩ := ents_in _ h _ f3
 have f4 : Rd Tryz.prog h (n + 4) 27 ((cs.drop 17).take (Tryz.prog.cellsOf 27)) := hf _ (List.mem_of_getElem? (i := 4) rfl)
 rw [qeC] at f4
 obtain ⟨v4, x4, e4, b4, _⟩ := f4.bytes Tryz.underlying27 Tryz.underlying5 qeE qeD
 have f5 : Rd Tryz.prog h (n + 4) 27 ((cs.drop 18).take (Tryz.prog.cellsOf 27)) := hf _ (List.mem_of_getElem? (i := 5) rfl)
 rw [qeC] at f5
 obtain ⟨v5, x5, e5, b5, _⟩ := f5.bytes Tryz.underlying27 Tryz.underlying5 qeE qeD
 have f6 : Rd Tryz.prog h (n + 4) 3 ((cs.drop 19).take (Tryz.prog.cellsOf 3)) := hf _ (List.mem_of_getElem? (i := 6) rfl)
 rw [qbv] at f6
 obtain ⟨x6, e6, _⟩ := f6.int Tryz.underlying3
 have e := (qax e0 (qax e1 (qax e2 (qax e3 (qax e4 (qax e5 (qax e6 (qbC hl))))))))
 rw [List.drop_zero] at e
 exact ⟨⟨q1, q2, v3, v4, v5⟩, ⟨x0, x1, x2, x3, x4, x5, x6⟩, e, ⟨b1, b2, b3, b4, b5⟩⟩
theorem kept_in (n : Nat) (h : Heap) (cs : List Value) (r : Rd Tryz.prog h (n + 2) 79 cs) : ∃ x : Bytes × Int, cs = keptR x ∧ (keptR x).length = 2 ∧ x.1.length ≤ reachBytes := by
 obtain ⟨hl, hf⟩ := r.strc Tryz.underlying79
 rw [rc_kept] at hl
 have f0 : Rd Tryz.prog h (n + 1) 9 ((cs.drop 0).take (Tryz.prog.cellsOf 9)) := hf _ (List.mem_of_getElem? (i := 0) rfl)
 rw [rc_str] at f0
 obtain ⟨x0, e0, l0⟩ := f0.str Tryz.underlying9
 have f1 : Rd Tryz.prog h (n + 1) 3 ((cs.drop 1).take (Tryz.prog.cellsOf 3)) := hf _ (List.mem_of_getElem? (i := 1) rfl)
 rw [qbv] at f1
 obtain ⟨x1, e1, _⟩ := f1.int Tryz.underlying3
 have e := (qax e0 (qax e1 (qbC hl)))
 rw [List.drop_zero] at e
 exact ⟨(x0, x1), e, rfl, l0⟩
theorem kepts_in (n : Nat) (h : Heap) (cs : List Value) (r : Rd Tryz.prog h (n + 3) 38 cs) : ∃ v l, cs = [v] ∧ RK h v l := by
 obtain ⟨v, L, h1, h2, h3, h4⟩ := r.rows (row := keptR) (Q := fun x => x.1.length ≤ reachBytes) Tryz.underlying38 rc_kept (by decide) (kept_in n h)
 rw [rb_kept] at h4
 unfold reachBytes at h4
 exact ⟨v, L, h1, h2, by omega⟩
theorem act_in (n : Nat) (h : Heap) (cs : List Value) (r : Rd Tryz.prog h (n + 6) 40 cs) : ∃ x : ActV × ActM, cs = actC x.1 x.2 ∧ (actC x.1 x.2).length = 33 ∧ ActR h x.1 x.2 := by
 obtain ⟨hl, hf⟩ := r.strc Tryz.underlying40
 rw [rc_act] at hl
 have f0 : Rd Tryz.prog h (n + 5) 25 ((cs.drop 0).take (Tryz.prog.cellsOf 25)) := hf _ (List.mem_of_getElem? (i := 0) rfl)
 rw [rc_atk] at f0
 obtain ⟨x0, e0, _⟩ := f0.int Tryz.underlying25
 have f1 : Rd Tryz.prog h (n + 5) 3 ((cs.drop 1).take (Tryz.prog.cellsOf 3)) := hf _ (List.mem_of_getElem? (i := 1) rfl)
 rw [qbv] at f1
 obtain ⟨x1, e1, _⟩ := f1.int Tryz.underlying3
 have f2 : Rd Tryz.prog h (n + 5) 3 ((cs.drop 2).take (Tryz.prog.cellsOf 3)) := hf _ (List.mem_of_getElem? (i := 2) rfl)
 rw [qbv] at f2
 obtain ⟨x2, e2, _⟩ := f2.int Tryz.underlying3
 have f3 : Rd Tryz.prog h (n + 5) 3 ((cs.drop 3).take (Tryz.prog.cellsOf 3)) := hf _ (List.mem_of_getElem? (i := 3) rfl)
 rw [qbv] at f3
 obtain ⟨x3, e3, _⟩ := f3.int Tryz.underlying3
 have f4 : Rd Tryz.prog h (n + 5) 3 ((cs.drop 4).take (Tryz.prog.cellsOf 3)) := hf _ (List.mem_of_getElem? (i := 4) rfl)
 rw [qbv] at f4
 obtain ⟨x4, e4, _⟩ := f4.int Tryz.underlying3
 have f5 : Rd Tryz.prog h (n + 5) 29 ((cs.drop 5).take (Tryz.prog.cellsOf 29)) := hf _ (List.mem_of_getElem? (i := 5) rfl)
 rw [rc_ask] at f5
 obtain ⟨q5, x5, e5, b5⟩ := ask_in _ h _ f5
 have f6 : Rd Tryz.prog h (n + 5) 37 ((cs.drop 12).take (Tryz.prog.cellsOf 37)) := hf _ (List.mem_of_getElem? (i := 6) rfl)
 rw [rc_cmd] at f6
 obtain ⟨q6, x6, e6, b6⟩ := cmd_in _ h _ f6
 have f7 : Rd Tryz.prog h (n + 5) 38 ((cs.drop 32).take (Tryz.prog.cellsOf 38)) := hf _ (List.mem_of_getElem? (i := 7) rfl)
 rw [rc_kepts] at f7
 obtain ⟨v7, x7, e7, b7⟩ := kepts_in _ h _ f7
 have e := (qax e0 (qax e1 (qax e2 (qax e3 (qax e4 (qax e5 (qax e6 (qax e7 (qbC hl)))))))))
 rw [List.drop_zero] at e
 exact ⟨(⟨q5, q6, v7⟩, ⟨x0, x1, x2, x3, x4, x5, x6, x7⟩), e, rfl, ⟨b5, b6, b7⟩⟩
theorem acts_in (n : Nat) (h : Heap) (cs : List Value) (r : Rd Tryz.prog h (n + 7) 42 cs) : ∃ v l, cs = [v] ∧ RA h v l := by
 obtain ⟨v, L, h1, h2, h3, h4⟩ := r.rows (row := fun x : ActV × ActM => actC x.1 x.2) (Q := fun x => ActR h x.1 x.2) Tryz.underlying42 rc_act (by decide) (act_in n h)
 rw [rb_act] at h4
 unfold reachBytes at h4
 refine ⟨v, L.map (·.2), h1, ⟨⟨_, h2, by simp, fun k row a hr ha => ?_⟩, by rw [List.length_map]; omega⟩⟩
 rw [List.getElem?_map] at hr ha
 obtain ⟨x, hx, rfl⟩ := Option.map_eq_some_iff.1 hr
 rw [hx] at ha
 cases ha
 exact ⟨x.1, rfl, h3 x (List.mem_of_getElem? hx)⟩
theorem ints_in (n : Nat) (h : Heap) (cs : List Value) (r : Rd Tryz.prog h (n + 2) 77 cs) : ∃ x : Value × List Int, cs = [x.1] ∧ [x.1].length = 1 ∧ (RS h x.1 (iv64 x.2) ∧ x.2.length ≤ 140737488351232) := by
 obtain ⟨v, L, h1, h2, _, h4⟩ := r.rows (row := fun x : Int => [.int .i64 x]) (Q := fun _ => True) Tryz.underlying77 qbv (by decide) fun cs rc => by
  obtain ⟨a, h1, _⟩ := rc.int Tryz.underlying3
  exact ⟨a, h1, rfl, trivial⟩
 rw [rb_int] at h4
 unfold reachBytes at h4
 exact ⟨(v, L), h1, rfl, h2.rs1, by show L.length ≤ _; omega⟩
theorem grps_in (n : Nat) (h : Heap) (cs : List Value) (r : Rd Tryz.prog h (n + 3) 22 cs) : ∃ v l, cs = [v] ∧ RG h v l := by
 obtain ⟨v, L, h1, h2, h3, h4⟩ := r.rows (row := fun x : Value × List Int => [x.1]) (Q := fun x => RS h x.1 (iv64 x.2) ∧ x.2.length ≤ 140737488351232) Tryz.underlying22 rc_ints (by decide) (ints_in n h)
 rw [rb_ints] at h4
 unfold reachBytes at h4
 refine ⟨v, L.map (·.2), h1, ⟨_, h2.rs1, by simp, by rw [List.length_map]; omega, fun k w g hw hg => ?_⟩⟩
 rw [List.getElem?_map] at hw hg
 obtain ⟨x, hx, rfl⟩ := Option.map_eq_some_iff.1 hw
 rw [hx] at hg
 cases hg
 exact h3 x (List.mem_of_getElem? hx)
theorem set_in (n : Nat) (h : Heap) (cs : List Value) (r : Rd Tryz.prog h (n + 4) 24 cs) : ∃ (vg : Value) (x : SetM), cs = setC vg x ∧ RG h vg x.groups := by
 obtain ⟨hl, hf⟩ := r.strc Tryz.underlying24
 rw [qik] at hl
 have f0 : Rd Tryz.prog h (n + 3) 3 ((cs.drop 0).take (Tryz.prog.cellsOf 3)) := hf _ (List.mem_of_getElem? (i := 0) rfl)
 rw [qbv] at f0
 obtain ⟨x0, e0, _⟩ := f0.int Tryz.underlying3
 have f1 : Rd Tryz.prog h (n + 3) 22 ((cs.drop 1).take (Tryz.prog.cellsOf 22)) := hf _ (List.mem_of_getElem? (i := 1) rfl)
 rw [rc_grps] at f1
 obtain ⟨v1, x1, e1, b1⟩ := grps_in _ h _ f1
 have f2 : Rd Tryz.prog h (n + 3) 3 ((cs.drop 2).take (Tryz.prog.cellsOf 3)) := hf _ (List.mem_of_getElem? (i := 2) rfl)
 rw [qbv] at f2
 obtain ⟨x2, e2, _⟩ := f2.int Tryz.underlying3
 have f3 : Rd Tryz.prog h (n + 3) 3 ((cs.drop 3).take (Tryz.prog.cellsOf 3)) := hf _ (List.mem_of_getElem? (i := 3) rfl)
 rw [qbv] at f3
 obtain ⟨x3, e3, _⟩ := f3.int Tryz.underlying3
 have f4 : Rd Tryz.prog h (n + 3) 3 ((cs.drop 4).take (Tryz.prog.cellsOf 3)) := hf _ (List.mem_of_getElem? (i := 4) rfl)
 rw [qbv] at f4
 obtain ⟨x4, e4, _⟩ := f4.int Tryz.underlying3
 have e := (qax e0 (qax e1 (qax e2 (qax e3 (qax e4 (qbC hl))))))
 rw [List.drop_zero] at e
 exact ⟨v1, ⟨x0, x1, x2, x3, x4⟩, e, b1⟩
theorem scr_in (n : Nat) (h : Heap) (cs : List Value) (r : Rd Tryz.prog h (n + 8) 44 cs) : ∃ (vg va : Value) (x : ScrM), cs = scrC vg va x.setup ∧ RG h vg x.setup.groups ∧ RA h va x.acts := by
 obtain ⟨hl, hf⟩ := r.strc Tryz.underlying44
 rw [rc_scr] at hl
 have f0 : Rd Tryz.prog h (n + 7) 24 ((cs.drop 0).take (Tryz.prog.cellsOf 24)) := hf _ (List.mem_of_getElem? (i := 0) rfl)
 rw [qik] at f0
 obtain ⟨v0, x0, e0, b0⟩ := set_in _ h _ f0
 have f1 : Rd Tryz.prog h (n + 7) 42 ((cs.drop 5).take (Tryz.prog.cellsOf 42)) := hf _ (List.mem_of_getElem? (i := 1) rfl)
 rw [rc_acts] at f1
 obtain ⟨v1, x1, e1, b1⟩ := acts_in _ h _ f1
 have e := (qax e0 (qax e1 (qbC hl)))
 rw [List.drop_zero] at e
 exact ⟨v0, v1, ⟨x0, x1⟩, e, b0, b1⟩
theorem str_in {h : Heap} {v : Value} (r : RdV Tryz.prog h 9 9 v) : ∃ s : Bytes, v = str s ∧ s.length ≤ reachBytes := by
 obtain ⟨a, h1, h2⟩ := (r.cell (by rw [Tryz.underlying9]; rfl)).str Tryz.underlying9
 cases h1
 exact ⟨a, rfl, h2⟩
theorem scrv_in {h : Heap} {v : Value} (r : RdV Tryz.prog h 9 44 v) : ∃ (vg va : Value) (x : ScrM), v = .agg (scrC vg va x.setup).toArray ∧ RG h vg x.setup.groups ∧ RA h va x.acts := by
 obtain ⟨cs, rfl, h1⟩ := r.whole (by rw [Tryz.underlying44]; rfl)
 obtain ⟨vg, va, x, h2, h3, h4⟩ := scr_in 1 h _ h1
 exact ⟨vg, va, x, by rw [← h2], h3, h4⟩
end Go.Proofs.YtigmojilaadbhaaGreatDoor
/- . -/
namespace Go.Pln
open Go Go.Lib
def In64 (n : Int) : Prop := -9223372036854775808 ≤ n ∧ n ≤ 9223372036854775807
structure SetJ (x : SetM) : Prop where
 n : In64 x.nodes
 d : In64 x.disk
 m : In64 x.memory
 l : In64 x.level
 g : ∀ l ∈ x.groups, (∀ n ∈ l, In64 n) ∧ l.length ≤ 100000000000
theorem qgE : ∀ {a b : List Int}, (∀ n ∈ a, In64 n) → (∀ n ∈ b, In64 n) → a.map itoa = b.map itoa → a = b
 | [], [], _, _, _ => rfl
 | [], _ :: _, _, _, h => by cases h
 | _ :: _, [], _, _, h => by cases h
 | x :: a, y :: b, ha, hb, h => by
  simp only [List.map_cons, List.cons.injEq] at h
  rw [qc1 (ha x List.mem_cons_self) (hb y List.mem_cons_self) h.1, qgE (fun n hn => ha n (List.mem_cons_of_mem _ hn)) (fun n hn => hb n (List.mem_cons_of_mem _ hn)) h.2]
theorem groupL_inj {a b : List Int} (ha : ∀ n ∈ a, In64 n) (hb : ∀ n ∈ b, In64 n) (h : groupL a = groupL b) : a = b := by
 have e := congrArg wordsS h
 rw [qcO, qcO, List.cons.injEq] at e
 exact qgE ha hb e.2
theorem firstL_inj {a b : SetM} (ha : SetJ a) (hb : SetJ b) (h : firstL a = firstL b) : a.nodes = b.nodes ∧ a.disk = b.disk ∧ a.memory = b.memory ∧ a.level = b.level := by
 have e := congrArg wordsS h
 rw [qd3, qd3] at e
 simp only [List.cons.injEq, and_true, true_and] at e
 exact ⟨qc1 ha.n hb.n e.1, qc1 ha.d hb.d e.2.1, qc1 ha.m hb.m e.2.2.1, qc1 ha.l hb.l e.2.2.2⟩
theorem set_ext {a b : SetM} (h : firstL a = firstL b) (ha : SetJ a) (hb : SetJ b) (hg : a.groups = b.groups) : a = b := by
 obtain ⟨h1, h2, h3, h4⟩ := firstL_inj ha hb h
 cases a; cases b
 simp only at h1 h2 h3 h4 hg
 subst h1 h2 h3 h4 hg
 rfl
theorem qgK {α : Type} {l m : List α} {k : Nat} {x y : α} (h : l.take k = m.take k) (hx : l[k]? = some x) (hy : m[k]? = some y) (e : x = y) : l.take (k + 1) = m.take (k + 1) := by
 rw [List.take_add_one, List.take_add_one, hx, hy, h, e]
end Go.Pln
/- . -/
namespace Go.Proofs.YtigmojilaadbhaaGreatDoor
open Go Go.Eng Go.Pln Go.Lib
attribute [local irreducible] Rd RdV AWp AL DAL AOp TAL
theorem in64 {a : Int} (h : (Lit.int .i64 a).wf = true) : In64 a := by
 simp only [Lit.wf, Bool.and_eq_true, decide_eq_true_iff] at h
 exact h
def SetW (x : SetM) : Prop := In64 x.nodes ∧ In64 x.disk ∧ In64 x.memory ∧ In64 x.level ∧ ∀ g ∈ x.groups, ∀ n ∈ g, In64 n
theorem intsW_in (n : Nat) (h : Heap) (cs : List Value) (r : Rd Tryz.prog h (n + 2) 77 cs) : ∃ x : Value × List Int, cs = [x.1] ∧ [x.1].length = 1 ∧ ((RS h x.1 (iv64 x.2) ∧ x.2.length ≤ 140737488351232) ∧ ∀ n ∈ x.2, In64 n) := by
 obtain ⟨v, L, h1, h2, h3, h4⟩ := r.rows (row := fun x : Int => [.int .i64 x]) (Q := fun x => In64 x) Tryz.underlying77 qbv (by decide) fun cs rc => by
  obtain ⟨a, h1, h2⟩ := rc.int Tryz.underlying3
  exact ⟨a, h1, rfl, in64 h2⟩
 rw [rb_int] at h4
 unfold reachBytes at h4
 exact ⟨(v, L), h1, rfl, ⟨h2.rs1, by show L.length ≤ _; omega⟩, h3⟩
theorem grpsW_in (n : Nat) (h : Heap) (cs : List Value) (r : Rd Tryz.prog h (n + 3) 22 cs) : ∃ v l, cs = [v] ∧ RG h v l ∧ ∀ g ∈ l, ∀ n ∈ g, In64 n := by
 obtain ⟨v, L, h1, h2, h3, h4⟩ := r.rows (row := fun x : Value × List Int => [x.1]) (Q := fun x => (RS h x.1 (iv64 x.2) ∧ x.2.length ≤ 140737488351232) ∧ ∀ n ∈ x.2, In64 n) Tryz.underlying22 rc_ints (by decide) (intsW_in n h)
 rw [rb_ints] at h4
 unfold reachBytes at h4
 refine ⟨v, L.map (·.2), h1, ⟨_, h2.rs1, by simp, by rw [List.length_map]; omega, fun k w g hw hg => ?_⟩, fun g hg => ?_⟩
 ·
  rw [List.getElem?_map] at hw hg
  obtain ⟨x, hx, rfl⟩ := Option.map_eq_some_iff.1 hw
  rw [hx] at hg
  cases hg
  exact (h3 x (List.mem_of_getElem? hx)).1
 ·
  obtain ⟨x, hx, rfl⟩ := List.mem_map.1 hg
  exact (h3 x hx).2
theorem setW_in (n : Nat) (h : Heap) (cs : List Value) (r : Rd Tryz.prog h (n + 4) 24 cs) : ∃ (vg : Value) (x : SetM), cs = setC vg x ∧ RG h vg x.groups ∧ SetW x := by
 obtain ⟨hl, hf⟩ := r.strc Tryz.underlying24
 rw [qik] at hl
 have f0 : Rd Tryz.prog h (n + 3) 3 ((cs.drop 0).take (Tryz.prog.cellsOf 3)) := hf _ (List.mem_of_getElem? (i := 0) rfl)
 rw [qbv] at f0
 obtain ⟨x0, e0, w0⟩ := f0.int Tryz.underlying3
 have f1 : Rd Tryz.prog h (n + 3) 22 ((cs.drop 1).take (Tryz.prog.cellsOf 22)) := hf _ (List.mem_of_getElem? (i := 1) rfl)
 rw [rc_grps] at f1
 obtain ⟨v1, x1, e1, b1, w1⟩ := grpsW_in _ h _ f1
 have f2 : Rd Tryz.prog h (n + 3) 3 ((cs.drop 2).take (Tryz.prog.cellsOf 3)) := hf _ (List.mem_of_getElem? (i := 2) rfl)
 rw [qbv] at f2
 obtain ⟨x2, e2, w2⟩ := f2.int Tryz.underlying3
 have f3 : Rd Tryz.prog h (n + 3) 3 ((cs.drop 3).take (Tryz.prog.cellsOf 3)) := hf _ (List.mem_of_getElem? (i := 3) rfl)
 rw [qbv] at f3
 obtain ⟨x3, e3, w3⟩ := f3.int Tryz.underlying3
 have f4 : Rd Tryz.prog h (n + 3) 3 ((cs.drop 4).take (Tryz.prog.cellsOf 3)) := hf _ (List.mem_of_getElem? (i := 4) rfl)
 rw [qbv] at f4
 obtain ⟨x4, e4, w4⟩ := f4.int Tryz.underlying3
 have e := (qax e0 (qax e1 (qax e2 (qax e3 (qax e4 (qbC hl))))))
 rw [List.drop_zero] at e
 exact ⟨v1, ⟨x0, x1, x2, x3, x4⟩, e, b1, in64 w0, in64 w2, in64 w3, in64 w4, w1⟩
theorem scrW_in (n : Nat) (h : Heap) (cs : List Value) (r : Rd Tryz.prog h (n + 8) 44 cs) : ∃ (vg va : Value) (x : ScrM), cs = scrC vg va x.setup ∧ RG h vg x.setup.groups ∧ RA h va x.acts ∧ SetW x.setup := by
 obtain ⟨hl, hf⟩ := r.strc Tryz.underlying44
 rw [rc_scr] at hl
 have f0 : Rd Tryz.prog h (n + 7) 24 ((cs.drop 0).take (Tryz.prog.cellsOf 24)) := hf _ (List.mem_of_getElem? (i := 0) rfl)
 rw [qik] at f0
 obtain ⟨v0, x0, e0, b0, w0⟩ := setW_in _ h _ f0
 have f1 : Rd Tryz.prog h (n + 7) 42 ((cs.drop 5).take (Tryz.prog.cellsOf 42)) := hf _ (List.mem_of_getElem? (i := 1) rfl)
 rw [rc_acts] at f1
 obtain ⟨v1, x1, e1, b1⟩ := acts_in _ h _ f1
 have e := (qax e0 (qax e1 (qbC hl)))
 rw [List.drop_zero] at e
 exact ⟨v0, v1, ⟨x0, x1⟩, e, b0, b1, w0⟩
theorem qis {h : Heap} {v : Value} (r : RdV Tryz.prog h 9 44 v) : ∃ (vg va : Value) (x : ScrM), v = .agg (scrC vg va x.setup).toArray ∧ RG h vg x.setup.groups ∧ RA h va x.acts ∧ SetW x.setup := by
 obtain ⟨cs, rfl, h1⟩ := r.whole (by rw [Tryz.underlying44]; rfl)
 obtain ⟨vg, va, x, h2, h3, h4, h5⟩ := scrW_in 1 h _ h1
 exact ⟨vg, va, x, by rw [← h2], h3, h4, h5⟩
end Go.Proofs.YtigmojilaadbhaaGreatDoor
