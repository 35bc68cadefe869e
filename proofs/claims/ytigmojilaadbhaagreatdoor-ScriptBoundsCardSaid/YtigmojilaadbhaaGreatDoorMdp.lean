/-
  Texts of one claim, merged: 7 parts.
-/
import Derived.Test.YtigmojilaadbhaaGreatDoorMdk
import Derived.Test.YtigmojilaadbhaaGreatDoorMdo
import Derived.Test.YtigmojilaadbhaaGreatDoorMdh
import Derived.Test.YtigmojilaadbhaaGreatDoorMdn
import Derived.Test.YtigmojilaadbhaaGreatDoorMdl
import Derived.Test.YtigmojilaadbhaaGreatDoorMdi
import Derived.Test.YtigmojilaadbhaaGreatDoorMdf
import Derived.Test.YtigmojilaadbhaaGreatDoorMdj
set_option maxHeartbeats 16000000
/- . -/
namespace Go.Proofs.YtigmojilaadbhaaGreatDoor
open Go Go.Eng Go.Pln Go.Lib
attribute [local irreducible] AWp AL DAL AOp TAL
instance i_plan1 : FnC Tryz.prog 130 := ⟨Tryz.f130, Tryz.func130, by kernel_rfl, by kernel_rfl⟩
instance i_plan2 : FnC Tryz.prog 132 := ⟨Tryz.f132, Tryz.func132, by kernel_rfl, by kernel_rfl⟩
instance i_plan3 : FnC Tryz.prog 133 := ⟨Tryz.f133, Tryz.func133, by kernel_rfl, by kernel_rfl⟩
instance i_ask1 : FnC Tryz.prog 134 := ⟨Tryz.f134, Tryz.func134, by kernel_rfl, by kernel_rfl⟩
instance i_ask2 : FnC Tryz.prog 135 := ⟨Tryz.f135, Tryz.func135, by kernel_rfl, by kernel_rfl⟩
instance i_ask3 : FnC Tryz.prog 136 := ⟨Tryz.f136, Tryz.func136, by kernel_rfl, by kernel_rfl⟩
instance i_ask4 : FnC Tryz.prog 137 := ⟨Tryz.f137, Tryz.func137, by kernel_rfl, by kernel_rfl⟩
instance i_ask5 : FnC Tryz.prog 138 := ⟨Tryz.f138, Tryz.func138, by kernel_rfl, by kernel_rfl⟩
instance i_ask6 : FnC Tryz.prog 139 := ⟨Tryz.f139, Tryz.func139, by kernel_rfl, by kernel_rfl⟩
instance i_rnum : FnC Tryz.prog 97 := ⟨Tryz.f97, Tryz.func97, by kernel_rfl, by kernel_rfl⟩
instance qfV : TyD Tryz.prog 87 (.pointer 89) := ⟨Tryz.underlying87⟩
instance qgF : TyI Tryz.prog 87 1 8 (.pointer none) := ⟨qaK (by kernel_rfl), rfl, rfl⟩
structure Rdr (h0 : Heap) (i : Nat) (s : Bytes) (h : Heap) : Prop where
 ext : Ext (h0.set i (rdB s)) h
 wf : WF h
 wf0 : WF h0
 lt : i < h0.next
 ge : 8 ≤ i
 nx : h0.next ≤ h.next
 tab : Tabs h0
theorem Rdr.box {h0 h : Heap} {i : Nat} {s : Bytes} (r : Rdr h0 i s h) : h.get i = some (rdB s) := r.ext.c _ _ (Heap.set_at _ _ _)
theorem Rdr.tabs {h0 h : Heap} {i : Nat} {s : Bytes} (r : Rdr h0 i s h) : Tabs h := (r.tab.set r.ge).ext r.ext
theorem ext_over {a b c : Heap} {i : Nat} {x y : Blk} (h1 : Ext (a.set i x) b) (h2 : Ext (b.set i y) c) : Ext (a.set i y) c := by
 refine ⟨fun j z hj => h2.c j z ?_, fun j z hj => h2.o j z (h1.o j z hj)⟩
 by_cases e : j = i
 ·
  subst e
  rw [Heap.set_at] at hj ⊢
  exact hj
 ·
  rw [Heap.set_other e] at hj ⊢
  exact h1.c j z (by rw [Heap.set_other e]; exact hj)
theorem Rdr.next {h0 h h' : Heap} {i : Nat} {s s' : Bytes} (r : Rdr h0 i s h) (hx : Ext (h.set i (rdB s')) h') (wf : WF h') (hn : h.next ≤ h'.next) : Rdr h0 i s' h' := ⟨ext_over r.ext hx, wf, r.wf0, r.lt, r.ge, Nat.le_trans r.nx hn, r.tab⟩
theorem Rdr.grow {h0 h h' : Heap} {i : Nat} {s : Bytes} (r : Rdr h0 i s h) (hx : Ext h h') (wf : WF h') (hn : h.next ≤ h'.next) : Rdr h0 i s h' := ⟨r.ext.trans hx, wf, r.wf0, r.lt, r.ge, Nat.le_trans r.nx hn, r.tab⟩
theorem Rdr.set {h0 h : Heap} {i : Nat} {s : Bytes} (r : Rdr h0 i s h) (s' : Bytes) : Rdr h0 i s' (h.set i (rdB s')) := r.next (Ext.refl _) (r.wf.set (r.wf.lt r.box) _) (Nat.le_refl _)
theorem Rdr.put {h0 h : Heap} {i j : Nat} {s : Bytes} (r : Rdr h0 i s h) (hj : h0.next ≤ j) (hl : j < h.next) (b : Blk) : Rdr h0 i s (h.set j b) := by
 refine ⟨(WF.set r.wf0 r.lt _).ext_set r.ext (by exact hj) b, r.wf.set hl b, r.wf0, r.lt, r.ge, r.nx, r.tab⟩
theorem OS.over {B : Nat} {h h' : Heap} {e : TypeId} {u : Value} {vs : List Value} {i : Nat} {b : Blk} (o : OS B h e u vs) (hi : i < B) (hx : Ext (h.set i b) h') : OS B h' e u vs := by
 rcases o with ⟨rfl, rfl⟩ | ⟨j, c, h1, rfl, h2⟩
 ·
  exact .inl ⟨rfl, rfl⟩
 ·
  exact .inr ⟨j, c, h1, rfl, hx.c _ _ ((Heap.set_other (by omega)).trans h2)⟩
theorem OS.put {B : Nat} {h : Heap} {e : TypeId} {u : Value} {vs : List Value} {i : Nat} {x : Blk} (o : OS B h e u vs) (hb : h.get i = some x) (hx : x.elem ≠ e) (b : Blk) : OS B (h.set i b) e u vs := by
 rcases o with ⟨rfl, rfl⟩ | ⟨j, c, h1, rfl, h2⟩
 ·
  exact .inl ⟨rfl, rfl⟩
 ·
  refine .inr ⟨j, c, h1, rfl, (Heap.set_other fun e2 => ?_).trans h2⟩
  subst e2
  rw [hb] at h2
  cases h2
  exact hx rfl
theorem qbE {h0 h : Heap} {i : Nat} {s : Bytes} (r : Rdr h0 i s h) (hl : s.length ≤ 1000000000) : ACalls Tryz.prog 131 [ptr i] h fun u h' => OS h.next h' 5 u (bv (rawS s).1) ∧ Ext (h.set i (rdB (rawS s).2)) h' ∧ Rdr h0 i (rawS s).2 h' ∧ h.next ≤ h'.next := by
 refine (raw_c i s h r.box hl r.tabs r.ge).wf_post.mono ?_
 rintro u h' ⟨⟨a, b⟩, c, d⟩
 exact ⟨a, b, r.next b c d, d⟩
theorem qbh {h0 h : Heap} {i : Nat} {s : Bytes} (r : Rdr h0 i s h) (hl : s.length ≤ 1000000000) : ACalls Tryz.prog 97 [ptr i] h fun u h' => u = .int .i64 (numS s).1 ∧ h' = h.set i (rdB (numS s).2) := num_c i s h r.box hl r.tabs r.ge
theorem qaQ (s : Bytes) : (rawS s).2.length ≤ s.length := (qbt s).2
theorem qck (s : Bytes) : (numS s).2.length ≤ s.length := (qbt s).2
abbrev pB (i : Nat) : Blk := ⟨[ptr i], 87, true⟩
theorem OS.low {B B' : Nat} {h : Heap} {e : TypeId} {u : Value} {vs : List Value} (o : OS B h e u vs) (hb : B' ≤ B) : OS B' h e u vs := o.imp id fun ⟨j, c, h1, h2, h3⟩ => ⟨j, c, Nat.le_trans hb h1, h2, h3⟩
structure AskO (B : Nat) (h : Heap) (q : AskV) (a : AskM) : Prop where
 k : OS B h 5 q.k (bv a.key)
 t : OS B h 5 q.t (bv a.to)
 v : OS B h 5 q.v (bv a.value)
 w : OS B h 5 q.w (bv a.was)
structure CmdO (B : Nat) (h : Heap) (q : CmdV) (c : CmdM) : Prop where
 hq : q = { cmdV0 with k := q.k }
 hk : OS B h 5 q.k (bv c.key)
 hc : c = { cmd0 with kind := c.kind, key := c.key, group := c.group }
theorem cmdR_k {h : Heap} {u : Value} {c : CmdM} (hc : c = { cmd0 with kind := c.kind, key := c.key, group := c.group }) (hk : RB h u c.key) : CmdR h { cmdV0 with k := u } c := by
 rw [hc]
 exact ⟨(CmdR.nil h).r, (CmdR.nil h).m, RE.nil h, RB.nil h, hk⟩
theorem cmdO {u : Value} {c : CmdM} (h : oneB u = true) : (cmdC { cmdV0 with k := u } c).all oneB = true := by
 unfold cmdC
 simp only [List.all_cons, h]
 rfl
theorem plan1_c {h0 h : Heap} {i b : Nat} {s : Bytes} (r : Rdr h0 i s h) (hb : h.get b = some (pB i)) (_hib : b ≠ i) (hl : s.length ≤ 1000000000) : ACalls Tryz.prog 130 [ptr b] h fun u h' => ∃ q s', u = .agg (cmdC q { cmd0 with kind := 6, key := (rawS s).1 }).toArray ∧ CmdO h0.next h' q { cmd0 with kind := 6, key := (rawS s).1 } ∧ Rdr h0 i s' h' := by
 refine ACalls.body Tryz.func130 rfl rfl ?_
 repeat (first | refine W.w ?_ | refine zz rfl (qat ?_))
 refine AL.heap (h := h.alloc ⟨cmdC cmdV0 cmd0, 37, true⟩) rfl ?_
 have hne : h.next ≠ i := fun e => by have := r.lt; have := r.nx; omega
 have hbj : b ≠ h.next := Nat.ne_of_lt (r.wf.lt hb)
 have g1 := Heap.alloc_new h ⟨cmdC cmdV0 cmd0, 37, true⟩
 have x1 := r.wf.ext ⟨cmdC cmdV0 cmd0, 37, true⟩
 have w1 := r.wf.alloc ⟨cmdC cmdV0 cmd0, 37, true⟩
 have r1 := r.grow x1 w1 (Nat.le_succ _)
 have b1 := x1.c _ _ hb
 generalize h.alloc ⟨cmdC cmdV0 cmd0, 37, true⟩ = H1 at g1 x1 w1 r1 b1 ⊢
 have hi := r.lt
 have hj := r.nx
 have l1 := qaQ s
 have l2 := qaQ (rawS s).2
 have l3 := qaQ (rawS (rawS s).2).2
 have k1 : h.next < H1.next := w1.lt g1
 repeat (first | refine zz rfl (qae rfl rfl b1 rfl ?_))
 refine zz rfl (qao (evs := [ptr i]) rfl rfl ((qbE r1 (by omega)).mono ?_))
 rintro u2 H2 ⟨o2, x2, r2, n2⟩
 obtain ⟨a2, c2, hu2⟩ := RS.slice (OS.rs o2)
 have g2 := x2.c _ _ ((Heap.set_other hne).trans g1)
 repeat (first | refine W.w ?_ | refine zz rfl (qay (out := cmdC { cmdV0 with k := u2 } { cmd0 with kind := 6, key := (rawS s).1 }) (by rw [hu2]; rfl) (by rw [hu2]; rfl) ?_) | refine AL.eff rfl (qas (vs := cmdC { cmdV0 with k := u2 } { cmd0 with kind := 6, key := (rawS s).1 }) rfl rfl rfl (cmdO (OS.rs o2).one.1) g2 rfl ?_))
 exact ⟨_, ResV.cellA rfl rfl rfl (Heap.set_at _ _ _) (Nat.le_refl _), { cmdV0 with k := u2 }, _, rfl, ⟨rfl, OS.low (OS.put o2 g2 (Nat.ne_of_beq_eq_false rfl) _) (by omega), rfl⟩, r2.put hj (by omega) _⟩
theorem plan2_c {h0 h : Heap} {i b : Nat} {s : Bytes} (r : Rdr h0 i s h) (hb : h.get b = some (pB i)) (_hib : b ≠ i) (hl : s.length ≤ 1000000000) : ACalls Tryz.prog 132 [ptr b] h fun u h' => ∃ q s', u = .agg (cmdC q { cmd0 with kind := 7, key := (rawS s).1 }).toArray ∧ CmdO h0.next h' q { cmd0 with kind := 7, key := (rawS s).1 } ∧ Rdr h0 i s' h' := by
 refine ACalls.body Tryz.func132 rfl rfl ?_
 repeat (first | refine W.w ?_ | refine zz rfl (qat ?_))
 refine AL.heap (h := h.alloc ⟨cmdC cmdV0 cmd0, 37, true⟩) rfl ?_
 have hne : h.next ≠ i := fun e => by have := r.lt; have := r.nx; omega
 have hbj : b ≠ h.next := Nat.ne_of_lt (r.wf.lt hb)
 have g1 := Heap.alloc_new h ⟨cmdC cmdV0 cmd0, 37, true⟩
 have x1 := r.wf.ext ⟨cmdC cmdV0 cmd0, 37, true⟩
 have w1 := r.wf.alloc ⟨cmdC cmdV0 cmd0, 37, true⟩
 have r1 := r.grow x1 w1 (Nat.le_succ _)
 have b1 := x1.c _ _ hb
 generalize h.alloc ⟨cmdC cmdV0 cmd0, 37, true⟩ = H1 at g1 x1 w1 r1 b1 ⊢
 have hi := r.lt
 have hj := r.nx
 have l1 := qaQ s
 have l2 := qaQ (rawS s).2
 have l3 := qaQ (rawS (rawS s).2).2
 have k1 : h.next < H1.next := w1.lt g1
 repeat (first | refine zz rfl (qae rfl rfl b1 rfl ?_))
 refine zz rfl (qao (evs := [ptr i]) rfl rfl ((qbE r1 (by omega)).mono ?_))
 rintro u2 H2 ⟨o2, x2, r2, n2⟩
 obtain ⟨a2, c2, hu2⟩ := RS.slice (OS.rs o2)
 have g2 := x2.c _ _ ((Heap.set_other hne).trans g1)
 repeat (first | refine W.w ?_ | refine zz rfl (qay (out := cmdC { cmdV0 with k := u2 } { cmd0 with kind := 7, key := (rawS s).1 }) (by rw [hu2]; rfl) (by rw [hu2]; rfl) ?_) | refine AL.eff rfl (qas (vs := cmdC { cmdV0 with k := u2 } { cmd0 with kind := 7, key := (rawS s).1 }) rfl rfl rfl (cmdO (OS.rs o2).one.1) g2 rfl ?_))
 exact ⟨_, ResV.cellA rfl rfl rfl (Heap.set_at _ _ _) (Nat.le_refl _), { cmdV0 with k := u2 }, _, rfl, ⟨rfl, OS.low (OS.put o2 g2 (Nat.ne_of_beq_eq_false rfl) _) (by omega), rfl⟩, r2.put hj (by omega) _⟩
theorem plan3_c {h0 h : Heap} {i b : Nat} {s : Bytes} (r : Rdr h0 i s h) (hb : h.get b = some (pB i)) (hib : b ≠ i) (hl : s.length ≤ 1000000000) : ACalls Tryz.prog 133 [ptr b] h fun u h' => ∃ q s', u = .agg (cmdC q { cmd0 with kind := 8, key := (rawS s).1, group := (numS (rawS s).2).1 }).toArray ∧ CmdO h0.next h' q { cmd0 with kind := 8, key := (rawS s).1, group := (numS (rawS s).2).1 } ∧ Rdr h0 i s' h' := by
 refine ACalls.body Tryz.func133 rfl rfl ?_
 repeat (first | refine W.w ?_ | refine zz rfl (qat ?_))
 refine AWp.heap (h := h.alloc ⟨cmdC cmdV0 cmd0, 37, true⟩) rfl ?_
 have hne : h.next ≠ i := fun e => by have := r.lt; have := r.nx; omega
 have hbj : b ≠ h.next := Nat.ne_of_lt (r.wf.lt hb)
 have g1 := Heap.alloc_new h ⟨cmdC cmdV0 cmd0, 37, true⟩
 have x1 := r.wf.ext ⟨cmdC cmdV0 cmd0, 37, true⟩
 have w1 := r.wf.alloc ⟨cmdC cmdV0 cmd0, 37, true⟩
 have r1 := r.grow x1 w1 (Nat.le_succ _)
 have b1 := x1.c _ _ hb
 generalize h.alloc ⟨cmdC cmdV0 cmd0, 37, true⟩ = H1 at g1 x1 w1 r1 b1 ⊢
 have hi := r.lt
 have hj := r.nx
 have l1 := qaQ s
 have l2 := qaQ (rawS s).2
 have l3 := qaQ (rawS (rawS s).2).2
 have k1 : h.next < H1.next := w1.lt g1
 refine AWp.treeJ (fun H => H.get b = some (pB i)) (fun _ _ a b => b.c _ _ a) (t := OT.seq [(0, .S), (2, .S), (1, .W), (3, .W), (4, .P), (5, .W)] .nil) mixed (by kernel_rfl) b1 ?_
 repeat (first | refine TAL.s rfl rfl rfl (fun h' hn hx => qae rfl rfl hx rfl ⟨rfl, rfl⟩) ?_)
 refine TAL.wj rfl rfl rfl ?_
 refine qao (evs := [ptr i]) rfl rfl ((qbE r1 (by omega)).mono ?_)
 rintro u2 H2 ⟨o2, x2, r2, n2⟩
 obtain ⟨a2, c2, hu2⟩ := RS.slice (OS.rs o2)
 have g2 := x2.c _ _ ((Heap.set_other hne).trans g1)
 have b2 := x2.c _ _ ((Heap.set_other hib).trans b1)
 refine ⟨b2, ?_⟩
 skip
 refine TAL.wj rfl rfl rfl ?_
 refine qao (evs := [ptr i]) rfl rfl ((qbh r2 (by omega)).mono ?_)
 rintro _ _ ⟨rfl, rfl⟩
 generalize hH3 : H2.set i (rdB (numS (rawS s).2).2) = H3
 have x3 : Ext (H2.set i (rdB (numS (rawS s).2).2)) H3 := hH3 ▸ Ext.refl _
 have r3 : Rdr h0 i (numS (rawS s).2).2 H3 := hH3 ▸ r2.set _
 have n3 : H2.next ≤ H3.next := hH3 ▸ Nat.le_refl _
 have g3 := x3.c _ _ ((Heap.set_other hne).trans g2)
 have b3 := x3.c _ _ ((Heap.set_other hib).trans b2)
 refine ⟨b3, ?_⟩
 have o23 := OS.over o2 (by omega) x3
 repeat (first | refine TAL.p rfl rfl rfl (fun h' hn => qay (out := cmdC { cmdV0 with k := u2 } { cmd0 with kind := 8, key := (rawS s).1, group := (numS (rawS s).2).1 }) (by rw [hu2]; rfl) (by rw [hu2]; rfl) ⟨rfl, rfl⟩) ?_)
 refine TAL.wj0 rfl rfl (qas (vs := cmdC { cmdV0 with k := u2 } { cmd0 with kind := 8, key := (rawS s).1, group := (numS (rawS s).2).1 }) rfl rfl rfl (cmdO (OS.rs o2).one.1) g3 rfl ⟨(Heap.set_other hbj).trans b3, ?_⟩)
 refine TAL.nil ?_
 repeat (first | refine AWp.ret ?_)
 exact ⟨_, ResV.cellA rfl rfl rfl (Heap.set_at _ _ _) (Nat.le_refl _), { cmdV0 with k := u2 }, _, rfl, ⟨rfl, OS.low (OS.put o23 g3 (Nat.ne_of_beq_eq_false rfl) _) (by omega), rfl⟩, r3.put hj (by omega) _⟩
theorem askO {k t v w : Value} {a : AskM} (h1 : oneB k = true) (h2 : oneB t = true) (h3 : oneB v = true) (h4 : oneB w = true) : (askC ⟨k, t, v, w⟩ a).all oneB = true := by
 unfold askC
 simp only [List.all_cons, h1, h2, h3, h4]
 rfl
instance i_StD_api_Ask : StD Tryz.prog 29 [(0, 1), (1, 1), (2, 1), (3, 1), (4, 1), (5, 1), (6, 1)] := ⟨_, Tryz.underlying29, by kernel_rfl⟩
abbrev n0 : Value := .slice none 0 0
theorem ask1_c {h0 h : Heap} {i b : Nat} {s : Bytes} (r : Rdr h0 i s h) (hb : h.get b = some (pB i)) (_hib : b ≠ i) (hl : s.length ≤ 1000000000) : ACalls Tryz.prog 134 [ptr b] h fun u h' => ∃ q s', u = .agg (askC q { ask0 with kind := 1, key := (rawS s).1 }).toArray ∧ AskO h0.next h' q { ask0 with kind := 1, key := (rawS s).1 } ∧ Rdr h0 i s' h' := by
 refine ACalls.body Tryz.func134 rfl rfl ?_
 repeat (first | refine W.w ?_ | refine zz rfl (qat ?_))
 refine AL.heap (h := h.alloc ⟨askC askV0 ask0, 29, true⟩) rfl ?_
 have hne : h.next ≠ i := fun e => by have := r.lt; have := r.nx; omega
 have hbj : b ≠ h.next := Nat.ne_of_lt (r.wf.lt hb)
 have g1 := Heap.alloc_new h ⟨askC askV0 ask0, 29, true⟩
 have x1 := r.wf.ext ⟨askC askV0 ask0, 29, true⟩
 have w1 := r.wf.alloc ⟨askC askV0 ask0, 29, true⟩
 have r1 := r.grow x1 w1 (Nat.le_succ _)
 have b1 := x1.c _ _ hb
 generalize h.alloc ⟨askC askV0 ask0, 29, true⟩ = H1 at g1 x1 w1 r1 b1 ⊢
 have hi := r.lt
 have hj := r.nx
 have l1 := qaQ s
 have l2 := qaQ (rawS s).2
 have l3 := qaQ (rawS (rawS s).2).2
 have k1 : h.next < H1.next := w1.lt g1
 repeat (first | refine zz rfl (qae rfl rfl b1 rfl ?_))
 refine zz rfl (qao (evs := [ptr i]) rfl rfl ((qbE r1 (by omega)).mono ?_))
 rintro u2 H2 ⟨o2, x2, r2, n2⟩
 obtain ⟨a2, c2, hu2⟩ := RS.slice (OS.rs o2)
 have g2 := x2.c _ _ ((Heap.set_other hne).trans g1)
 repeat (first | refine W.w ?_ | refine zz rfl (qay (out := askC ⟨u2, n0, n0, n0⟩ { ask0 with kind := 1, key := (rawS s).1 }) (by rw [hu2]; rfl) (by rw [hu2]; rfl) ?_) | refine AL.eff rfl (qas (vs := askC ⟨u2, n0, n0, n0⟩ { ask0 with kind := 1, key := (rawS s).1 }) rfl rfl rfl (askO (OS.rs o2).one.1 rfl rfl rfl) g2 rfl ?_))
 exact ⟨_, ResV.cellA rfl rfl rfl (Heap.set_at _ _ _) (Nat.le_refl _), ⟨u2, n0, n0, n0⟩, _, rfl, ⟨(OS.low (OS.put o2 g2 (Nat.ne_of_beq_eq_false rfl) _) (by omega)), OS.nil _ _ _, OS.nil _ _ _, OS.nil _ _ _⟩, r2.put hj (by omega) _⟩
theorem ask2_c {h0 h : Heap} {i b : Nat} {s : Bytes} (r : Rdr h0 i s h) (hb : h.get b = some (pB i)) (_hib : b ≠ i) (hl : s.length ≤ 1000000000) : ACalls Tryz.prog 135 [ptr b] h fun u h' => ∃ q s', u = .agg (askC q { ask0 with kind := 3, key := (rawS s).1 }).toArray ∧ AskO h0.next h' q { ask0 with kind := 3, key := (rawS s).1 } ∧ Rdr h0 i s' h' := by
 refine ACalls.body Tryz.func135 rfl rfl ?_
 repeat (first | refine W.w ?_ | refine zz rfl (qat ?_))
 refine AL.heap (h := h.alloc ⟨askC askV0 ask0, 29, true⟩) rfl ?_
 have hne : h.next ≠ i := fun e => by have := r.lt; have := r.nx; omega
 have hbj : b ≠ h.next := Nat.ne_of_lt (r.wf.lt hb)
 have g1 := Heap.alloc_new h ⟨askC askV0 ask0, 29, true⟩
 have x1 := r.wf.ext ⟨askC askV0 ask0, 29, true⟩
 have w1 := r.wf.alloc ⟨askC askV0 ask0, 29, true⟩
 have r1 := r.grow x1 w1 (Nat.le_succ _)
 have b1 := x1.c _ _ hb
 generalize h.alloc ⟨askC askV0 ask0, 29, true⟩ = H1 at g1 x1 w1 r1 b1 ⊢
 have hi := r.lt
 have hj := r.nx
 have l1 := qaQ s
 have l2 := qaQ (rawS s).2
 have l3 := qaQ (rawS (rawS s).2).2
 have k1 : h.next < H1.next := w1.lt g1
 repeat (first | refine zz rfl (qae rfl rfl b1 rfl ?_))
 refine zz rfl (qao (evs := [ptr i]) rfl rfl ((qbE r1 (by omega)).mono ?_))
 rintro u2 H2 ⟨o2, x2, r2, n2⟩
 obtain ⟨a2, c2, hu2⟩ := RS.slice (OS.rs o2)
 have g2 := x2.c _ _ ((Heap.set_other hne).trans g1)
 repeat (first | refine W.w ?_ | refine zz rfl (qay (out := askC ⟨u2, n0, n0, n0⟩ { ask0 with kind := 3, key := (rawS s).1 }) (by rw [hu2]; rfl) (by rw [hu2]; rfl) ?_) | refine AL.eff rfl (qas (vs := askC ⟨u2, n0, n0, n0⟩ { ask0 with kind := 3, key := (rawS s).1 }) rfl rfl rfl (askO (OS.rs o2).one.1 rfl rfl rfl) g2 rfl ?_))
 exact ⟨_, ResV.cellA rfl rfl rfl (Heap.set_at _ _ _) (Nat.le_refl _), ⟨u2, n0, n0, n0⟩, _, rfl, ⟨(OS.low (OS.put o2 g2 (Nat.ne_of_beq_eq_false rfl) _) (by omega)), OS.nil _ _ _, OS.nil _ _ _, OS.nil _ _ _⟩, r2.put hj (by omega) _⟩
theorem ask3_c {h0 h : Heap} {i b : Nat} {s : Bytes} (r : Rdr h0 i s h) (hb : h.get b = some (pB i)) (hib : b ≠ i) (hl : s.length ≤ 1000000000) : ACalls Tryz.prog 136 [ptr b] h fun u h' => ∃ q s', u = .agg (askC q { ask0 with kind := 2, key := (rawS s).1, value := (rawS (rawS s).2).1 }).toArray ∧ AskO h0.next h' q { ask0 with kind := 2, key := (rawS s).1, value := (rawS (rawS s).2).1 } ∧ Rdr h0 i s' h' := by
 refine ACalls.body Tryz.func136 rfl rfl ?_
 repeat (first | refine W.w ?_ | refine zz rfl (qat ?_))
 refine AWp.heap (h := h.alloc ⟨askC askV0 ask0, 29, true⟩) rfl ?_
 have hne : h.next ≠ i := fun e => by have := r.lt; have := r.nx; omega
 have hbj : b ≠ h.next := Nat.ne_of_lt (r.wf.lt hb)
 have g1 := Heap.alloc_new h ⟨askC askV0 ask0, 29, true⟩
 have x1 := r.wf.ext ⟨askC askV0 ask0, 29, true⟩
 have w1 := r.wf.alloc ⟨askC askV0 ask0, 29, true⟩
 have r1 := r.grow x1 w1 (Nat.le_succ _)
 have b1 := x1.c _ _ hb
 generalize h.alloc ⟨askC askV0 ask0, 29, true⟩ = H1 at g1 x1 w1 r1 b1 ⊢
 have hi := r.lt
 have hj := r.nx
 have l1 := qaQ s
 have l2 := qaQ (rawS s).2
 have l3 := qaQ (rawS (rawS s).2).2
 have k1 : h.next < H1.next := w1.lt g1
 refine AWp.treeJ (fun H => H.get b = some (pB i)) (fun _ _ a b => b.c _ _ a) (t := OT.seq [(0, .S), (2, .S), (1, .W), (3, .W), (4, .P), (5, .W)] .nil) mixed (by kernel_rfl) b1 ?_
 repeat (first | refine TAL.s rfl rfl rfl (fun h' hn hx => qae rfl rfl hx rfl ⟨rfl, rfl⟩) ?_)
 refine TAL.wj rfl rfl rfl ?_
 refine qao (evs := [ptr i]) rfl rfl ((qbE r1 (by omega)).mono ?_)
 rintro u2 H2 ⟨o2, x2, r2, n2⟩
 obtain ⟨a2, c2, hu2⟩ := RS.slice (OS.rs o2)
 have g2 := x2.c _ _ ((Heap.set_other hne).trans g1)
 have b2 := x2.c _ _ ((Heap.set_other hib).trans b1)
 refine ⟨b2, ?_⟩
 skip
 refine TAL.wj rfl rfl rfl ?_
 refine qao (evs := [ptr i]) rfl rfl ((qbE r2 (by omega)).mono ?_)
 rintro u3 H3 ⟨o3, x3, r3, n3⟩
 obtain ⟨a3, c3, hu3⟩ := RS.slice (OS.rs o3)
 have g3 := x3.c _ _ ((Heap.set_other hne).trans g2)
 have b3 := x3.c _ _ ((Heap.set_other hib).trans b2)
 refine ⟨b3, ?_⟩
 repeat (first | refine TAL.p rfl rfl rfl (fun h' hn => qay (out := askC ⟨u2, n0, u3, n0⟩ { ask0 with kind := 2, key := (rawS s).1, value := (rawS (rawS s).2).1 }) (by rw [hu2, hu3]; rfl) (by rw [hu2, hu3]; rfl) ⟨rfl, rfl⟩) ?_)
 refine TAL.wj0 rfl rfl (qas (vs := askC ⟨u2, n0, u3, n0⟩ { ask0 with kind := 2, key := (rawS s).1, value := (rawS (rawS s).2).1 }) rfl rfl rfl (askO (OS.rs o2).one.1 rfl (OS.rs o3).one.1 rfl) g3 rfl ⟨(Heap.set_other hbj).trans b3, ?_⟩)
 refine TAL.nil ?_
 repeat (first | refine AWp.ret ?_)
 exact ⟨_, ResV.cellA rfl rfl rfl (Heap.set_at _ _ _) (Nat.le_refl _), ⟨u2, n0, u3, n0⟩, _, rfl, ⟨(OS.low (OS.put (OS.over o2 (by omega) x3) g3 (Nat.ne_of_beq_eq_false rfl) _) (by omega)), OS.nil _ _ _, (OS.low (OS.put o3 g3 (Nat.ne_of_beq_eq_false rfl) _) (by omega)), OS.nil _ _ _⟩, r3.put hj (by omega) _⟩
theorem ask4_c {h0 h : Heap} {i b : Nat} {s : Bytes} (r : Rdr h0 i s h) (hb : h.get b = some (pB i)) (hib : b ≠ i) (hl : s.length ≤ 1000000000) : ACalls Tryz.prog 137 [ptr b] h fun u h' => ∃ q s', u = .agg (askC q { ask0 with kind := 4, key := (rawS s).1, value := (rawS (rawS s).2).1, was := (rawS (rawS (rawS s).2).2).1 }).toArray ∧ AskO h0.next h' q { ask0 with kind := 4, key := (rawS s).1, value := (rawS (rawS s).2).1, was := (rawS (rawS (rawS s).2).2).1 } ∧ Rdr h0 i s' h' := by
 refine ACalls.body Tryz.func137 rfl rfl ?_
 repeat (first | refine W.w ?_ | refine zz rfl (qat ?_))
 refine AWp.heap (h := h.alloc ⟨askC askV0 ask0, 29, true⟩) rfl ?_
 have hne : h.next ≠ i := fun e => by have := r.lt; have := r.nx; omega
 have hbj : b ≠ h.next := Nat.ne_of_lt (r.wf.lt hb)
 have g1 := Heap.alloc_new h ⟨askC askV0 ask0, 29, true⟩
 have x1 := r.wf.ext ⟨askC askV0 ask0, 29, true⟩
 have w1 := r.wf.alloc ⟨askC askV0 ask0, 29, true⟩
 have r1 := r.grow x1 w1 (Nat.le_succ _)
 have b1 := x1.c _ _ hb
 generalize h.alloc ⟨askC askV0 ask0, 29, true⟩ = H1 at g1 x1 w1 r1 b1 ⊢
 have hi := r.lt
 have hj := r.nx
 have l1 := qaQ s
 have l2 := qaQ (rawS s).2
 have l3 := qaQ (rawS (rawS s).2).2
 have k1 : h.next < H1.next := w1.lt g1
 refine AWp.treeJ (fun H => H.get b = some (pB i)) (fun _ _ a b => b.c _ _ a) (t := OT.seq [(0, .S), (2, .S), (4, .S), (1, .W), (3, .W), (5, .W), (6, .P), (7, .W)] .nil) mixed (by kernel_rfl) b1 ?_
 repeat (first | refine TAL.s rfl rfl rfl (fun h' hn hx => qae rfl rfl hx rfl ⟨rfl, rfl⟩) ?_)
 refine TAL.wj rfl rfl rfl ?_
 refine qao (evs := [ptr i]) rfl rfl ((qbE r1 (by omega)).mono ?_)
 rintro u2 H2 ⟨o2, x2, r2, n2⟩
 obtain ⟨a2, c2, hu2⟩ := RS.slice (OS.rs o2)
 have g2 := x2.c _ _ ((Heap.set_other hne).trans g1)
 have b2 := x2.c _ _ ((Heap.set_other hib).trans b1)
 refine ⟨b2, ?_⟩
 skip
 refine TAL.wj rfl rfl rfl ?_
 refine qao (evs := [ptr i]) rfl rfl ((qbE r2 (by omega)).mono ?_)
 rintro u3 H3 ⟨o3, x3, r3, n3⟩
 obtain ⟨a3, c3, hu3⟩ := RS.slice (OS.rs o3)
 have g3 := x3.c _ _ ((Heap.set_other hne).trans g2)
 have b3 := x3.c _ _ ((Heap.set_other hib).trans b2)
 refine ⟨b3, ?_⟩
 skip
 refine TAL.wj rfl rfl rfl ?_
 refine qao (evs := [ptr i]) rfl rfl ((qbE r3 (by omega)).mono ?_)
 rintro u4 H4 ⟨o4, x4, r4, n4⟩
 obtain ⟨a4, c4, hu4⟩ := RS.slice (OS.rs o4)
 have g4 := x4.c _ _ ((Heap.set_other hne).trans g3)
 have b4 := x4.c _ _ ((Heap.set_other hib).trans b3)
 refine ⟨b4, ?_⟩
 repeat (first | refine TAL.p rfl rfl rfl (fun h' hn => qay (out := askC ⟨u2, n0, u3, u4⟩ { ask0 with kind := 4, key := (rawS s).1, value := (rawS (rawS s).2).1, was := (rawS (rawS (rawS s).2).2).1 }) (by rw [hu2, hu3, hu4]; rfl) (by rw [hu2, hu3, hu4]; rfl) ⟨rfl, rfl⟩) ?_)
 refine TAL.wj0 rfl rfl (qas (vs := askC ⟨u2, n0, u3, u4⟩ { ask0 with kind := 4, key := (rawS s).1, value := (rawS (rawS s).2).1, was := (rawS (rawS (rawS s).2).2).1 }) rfl rfl rfl (askO (OS.rs o2).one.1 rfl (OS.rs o3).one.1 (OS.rs o4).one.1) g4 rfl ⟨(Heap.set_other hbj).trans b4, ?_⟩)
 refine TAL.nil ?_
 repeat (first | refine AWp.ret ?_)
 exact ⟨_, ResV.cellA rfl rfl rfl (Heap.set_at _ _ _) (Nat.le_refl _), ⟨u2, n0, u3, u4⟩, _, rfl, ⟨(OS.low (OS.put (OS.over (OS.over o2 (by omega) x3) (by omega) x4) g4 (Nat.ne_of_beq_eq_false rfl) _) (by omega)), OS.nil _ _ _, (OS.low (OS.put (OS.over o3 (by omega) x4) g4 (Nat.ne_of_beq_eq_false rfl) _) (by omega)), (OS.low (OS.put o4 g4 (Nat.ne_of_beq_eq_false rfl) _) (by omega))⟩, r4.put hj (by omega) _⟩
theorem ask5_c {h0 h : Heap} {i b : Nat} {s : Bytes} (r : Rdr h0 i s h) (hb : h.get b = some (pB i)) (hib : b ≠ i) (hl : s.length ≤ 1000000000) : ACalls Tryz.prog 138 [ptr b] h fun u h' => ∃ q s', u = .agg (askC q { ask0 with kind := 4, key := (rawS s).1, value := (rawS (rawS s).2).1, none := true }).toArray ∧ AskO h0.next h' q { ask0 with kind := 4, key := (rawS s).1, value := (rawS (rawS s).2).1, none := true } ∧ Rdr h0 i s' h' := by
 refine ACalls.body Tryz.func138 rfl rfl ?_
 repeat (first | refine W.w ?_ | refine zz rfl (qat ?_))
 refine AWp.heap (h := h.alloc ⟨askC askV0 ask0, 29, true⟩) rfl ?_
 have hne : h.next ≠ i := fun e => by have := r.lt; have := r.nx; omega
 have hbj : b ≠ h.next := Nat.ne_of_lt (r.wf.lt hb)
 have g1 := Heap.alloc_new h ⟨askC askV0 ask0, 29, true⟩
 have x1 := r.wf.ext ⟨askC askV0 ask0, 29, true⟩
 have w1 := r.wf.alloc ⟨askC askV0 ask0, 29, true⟩
 have r1 := r.grow x1 w1 (Nat.le_succ _)
 have b1 := x1.c _ _ hb
 generalize h.alloc ⟨askC askV0 ask0, 29, true⟩ = H1 at g1 x1 w1 r1 b1 ⊢
 have hi := r.lt
 have hj := r.nx
 have l1 := qaQ s
 have l2 := qaQ (rawS s).2
 have l3 := qaQ (rawS (rawS s).2).2
 have k1 : h.next < H1.next := w1.lt g1
 refine AWp.treeJ (fun H => H.get b = some (pB i)) (fun _ _ a b => b.c _ _ a) (t := OT.seq [(0, .S), (2, .S), (1, .W), (3, .W), (4, .P), (5, .W)] .nil) mixed (by kernel_rfl) b1 ?_
 repeat (first | refine TAL.s rfl rfl rfl (fun h' hn hx => qae rfl rfl hx rfl ⟨rfl, rfl⟩) ?_)
 refine TAL.wj rfl rfl rfl ?_
 refine qao (evs := [ptr i]) rfl rfl ((qbE r1 (by omega)).mono ?_)
 rintro u2 H2 ⟨o2, x2, r2, n2⟩
 obtain ⟨a2, c2, hu2⟩ := RS.slice (OS.rs o2)
 have g2 := x2.c _ _ ((Heap.set_other hne).trans g1)
 have b2 := x2.c _ _ ((Heap.set_other hib).trans b1)
 refine ⟨b2, ?_⟩
 skip
 refine TAL.wj rfl rfl rfl ?_
 refine qao (evs := [ptr i]) rfl rfl ((qbE r2 (by omega)).mono ?_)
 rintro u3 H3 ⟨o3, x3, r3, n3⟩
 obtain ⟨a3, c3, hu3⟩ := RS.slice (OS.rs o3)
 have g3 := x3.c _ _ ((Heap.set_other hne).trans g2)
 have b3 := x3.c _ _ ((Heap.set_other hib).trans b2)
 refine ⟨b3, ?_⟩
 repeat (first | refine TAL.p rfl rfl rfl (fun h' hn => qay (out := askC ⟨u2, n0, u3, n0⟩ { ask0 with kind := 4, key := (rawS s).1, value := (rawS (rawS s).2).1, none := true }) (by rw [hu2, hu3]; rfl) (by rw [hu2, hu3]; rfl) ⟨rfl, rfl⟩) ?_)
 refine TAL.wj0 rfl rfl (qas (vs := askC ⟨u2, n0, u3, n0⟩ { ask0 with kind := 4, key := (rawS s).1, value := (rawS (rawS s).2).1, none := true }) rfl rfl rfl (askO (OS.rs o2).one.1 rfl (OS.rs o3).one.1 rfl) g3 rfl ⟨(Heap.set_other hbj).trans b3, ?_⟩)
 refine TAL.nil ?_
 repeat (first | refine AWp.ret ?_)
 exact ⟨_, ResV.cellA rfl rfl rfl (Heap.set_at _ _ _) (Nat.le_refl _), ⟨u2, n0, u3, n0⟩, _, rfl, ⟨(OS.low (OS.put (OS.over o2 (by omega) x3) g3 (Nat.ne_of_beq_eq_false rfl) _) (by omega)), OS.nil _ _ _, (OS.low (OS.put o3 g3 (Nat.ne_of_beq_eq_false rfl) _) (by omega)), OS.nil _ _ _⟩, r3.put hj (by omega) _⟩
theorem ask6_c {h0 h : Heap} {i b : Nat} {s : Bytes} (r : Rdr h0 i s h) (hb : h.get b = some (pB i)) (hib : b ≠ i) (hl : s.length ≤ 1000000000) : ACalls Tryz.prog 139 [ptr b] h fun u h' => ∃ q s', u = .agg (askC q { ask0 with kind := 5, key := (rawS s).1, «to» := (rawS (rawS s).2).1, most := (numS (rawS (rawS s).2).2).1 }).toArray ∧ AskO h0.next h' q { ask0 with kind := 5, key := (rawS s).1, «to» := (rawS (rawS s).2).1, most := (numS (rawS (rawS s).2).2).1 } ∧ Rdr h0 i s' h' := by
 refine ACalls.body Tryz.func139 rfl rfl ?_
 repeat (first | refine W.w ?_ | refine zz rfl (qat ?_))
 refine AWp.heap (h := h.alloc ⟨askC askV0 ask0, 29, true⟩) rfl ?_
 have hne : h.next ≠ i := fun e => by have := r.lt; have := r.nx; omega
 have hbj : b ≠ h.next := Nat.ne_of_lt (r.wf.lt hb)
 have g1 := Heap.alloc_new h ⟨askC askV0 ask0, 29, true⟩
 have x1 := r.wf.ext ⟨askC askV0 ask0, 29, true⟩
 have w1 := r.wf.alloc ⟨askC askV0 ask0, 29, true⟩
 have r1 := r.grow x1 w1 (Nat.le_succ _)
 have b1 := x1.c _ _ hb
 generalize h.alloc ⟨askC askV0 ask0, 29, true⟩ = H1 at g1 x1 w1 r1 b1 ⊢
 have hi := r.lt
 have hj := r.nx
 have l1 := qaQ s
 have l2 := qaQ (rawS s).2
 have l3 := qaQ (rawS (rawS s).2).2
 have k1 : h.next < H1.next := w1.lt g1
 refine AWp.treeJ (fun H => H.get b = some (pB i)) (fun _ _ a b => b.c _ _ a) (t := OT.seq [(0, .S), (2, .S), (4, .S), (1, .W), (3, .W), (5, .W), (6, .P), (7, .W)] .nil) mixed (by kernel_rfl) b1 ?_
 repeat (first | refine TAL.s rfl rfl rfl (fun h' hn hx => qae rfl rfl hx rfl ⟨rfl, rfl⟩) ?_)
 refine TAL.wj rfl rfl rfl ?_
 refine qao (evs := [ptr i]) rfl rfl ((qbE r1 (by omega)).mono ?_)
 rintro u2 H2 ⟨o2, x2, r2, n2⟩
 obtain ⟨a2, c2, hu2⟩ := RS.slice (OS.rs o2)
 have g2 := x2.c _ _ ((Heap.set_other hne).trans g1)
 have b2 := x2.c _ _ ((Heap.set_other hib).trans b1)
 refine ⟨b2, ?_⟩
 skip
 refine TAL.wj rfl rfl rfl ?_
 refine qao (evs := [ptr i]) rfl rfl ((qbE r2 (by omega)).mono ?_)
 rintro u3 H3 ⟨o3, x3, r3, n3⟩
 obtain ⟨a3, c3, hu3⟩ := RS.slice (OS.rs o3)
 have g3 := x3.c _ _ ((Heap.set_other hne).trans g2)
 have b3 := x3.c _ _ ((Heap.set_other hib).trans b2)
 refine ⟨b3, ?_⟩
 skip
 refine TAL.wj rfl rfl rfl ?_
 refine qao (evs := [ptr i]) rfl rfl ((qbh r3 (by omega)).mono ?_)
 rintro _ _ ⟨rfl, rfl⟩
 generalize hH4 : H3.set i (rdB (numS (rawS (rawS s).2).2).2) = H4
 have x4 : Ext (H3.set i (rdB (numS (rawS (rawS s).2).2).2)) H4 := hH4 ▸ Ext.refl _
 have r4 : Rdr h0 i (numS (rawS (rawS s).2).2).2 H4 := hH4 ▸ r3.set _
 have n4 : H3.next ≤ H4.next := hH4 ▸ Nat.le_refl _
 have g4 := x4.c _ _ ((Heap.set_other hne).trans g3)
 have b4 := x4.c _ _ ((Heap.set_other hib).trans b3)
 refine ⟨b4, ?_⟩
 repeat (first | refine TAL.p rfl rfl rfl (fun h' hn => qay (out := askC ⟨u2, u3, n0, n0⟩ { ask0 with kind := 5, key := (rawS s).1, «to» := (rawS (rawS s).2).1, most := (numS (rawS (rawS s).2).2).1 }) (by rw [hu2, hu3]; rfl) (by rw [hu2, hu3]; rfl) ⟨rfl, rfl⟩) ?_)
 refine TAL.wj0 rfl rfl (qas (vs := askC ⟨u2, u3, n0, n0⟩ { ask0 with kind := 5, key := (rawS s).1, «to» := (rawS (rawS s).2).1, most := (numS (rawS (rawS s).2).2).1 }) rfl rfl rfl (askO (OS.rs o2).one.1 (OS.rs o3).one.1 rfl rfl) g4 rfl ⟨(Heap.set_other hbj).trans b4, ?_⟩)
 refine TAL.nil ?_
 repeat (first | refine AWp.ret ?_)
 exact ⟨_, ResV.cellA rfl rfl rfl (Heap.set_at _ _ _) (Nat.le_refl _), ⟨u2, u3, n0, n0⟩, _, rfl, ⟨(OS.low (OS.put (OS.over (OS.over o2 (by omega) x3) (by omega) x4) g4 (Nat.ne_of_beq_eq_false rfl) _) (by omega)), (OS.low (OS.put (OS.over o3 (by omega) x4) g4 (Nat.ne_of_beq_eq_false rfl) _) (by omega)), OS.nil _ _ _, OS.nil _ _ _⟩, r4.put hj (by omega) _⟩
end Go.Proofs.YtigmojilaadbhaaGreatDoor
/- . -/
namespace Go.Pln
open Go Go.Lib
theorem qei {nodes : Int} : ∀ (k : Nat) (l : List Int) (p q n : Int), l[k]? = some n → (k = 0 → q = p) → (∀ j, k = j + 1 → l[j]? = some q) → riseM nodes p (l.take (k + 1)) = (riseM nodes p (l.take k) && decide (q < n ∧ n < nodes))
 | 0, m :: l, p, q, n, hn, h0, _ => by
  have e : m = n := by simpa using hn
  rw [e, h0 rfl]
  show (decide (p < n ∧ n < nodes) && true) = (true && _)
  simp
 | k + 1, m :: l, p, q, n, hn, _, h1 => by
  have a0 : k = 0 → q = m := fun e => by
   subst e
   have := h1 0 rfl
   simpa using this.symm
  have a1 : ∀ j, k = j + 1 → l[j]? = some q := fun j e => by
   have := h1 (j + 1) (by omega)
   simpa using this
  have ih := qei (nodes := nodes) k l m q n (by simpa using hn) a0 a1
  show (decide (p < m ∧ m < nodes) && riseM nodes m (l.take (k + 1))) = ((decide (p < m ∧ m < nodes) && riseM nodes m (l.take k)) && _)
  rw [ih, Bool.and_assoc]
theorem qh0 {nodes : Int} : ∀ (k : Nat) (l : List Int) (p : Int), riseM nodes p l = true → riseM nodes p (l.take k) = true
 | 0, _, _, _ => rfl
 | _ + 1, [], _, _ => rfl
 | k + 1, m :: l, p, h => by
  unfold riseM at h
  rw [Bool.and_eq_true] at h
  show (decide (p < m ∧ m < nodes) && riseM nodes m (l.take k)) = true
  rw [h.1, qh0 k l m h.2]
  rfl
theorem qhm {nodes : Int} {k : Nat} {l : List Int} {p : Int} (h : riseM nodes p (l.take k) = false) : riseM nodes p l = false := by
 cases hr : riseM nodes p l with
 | false => rfl
 | true => rw [qh0 k l p hr] at h; cases h
theorem rise_first {nodes : Int} {l : List Int} {n : Int} (hn : l[0]? = some n) : riseM nodes (-1) (l.take 1) = decide (0 ≤ n ∧ n < nodes) := by
 rw [qei 0 l (-1) (-1) n hn (fun _ => rfl) (fun j e => by omega)]
 show (true && _) = _
 rw [Bool.true_and]
 exact decide_eq_decide.2 ⟨fun ⟨h1, h2⟩ => ⟨by omega, h2⟩, fun ⟨h1, h2⟩ => ⟨by omega, h2⟩⟩
theorem rise_next {nodes : Int} {k : Nat} {l : List Int} {q n : Int} (hg : riseM nodes (-1) (l.take (k + 1)) = true) (hq : l[k]? = some q) (hn : l[k + 1]? = some n) :
  riseM nodes (-1) (l.take (k + 2)) = decide ((0 ≤ n ∧ n < nodes) ∧ q < n) := by
 have h0 := qdi (by decide) hg q (List.mem_of_getElem? (i := k) (by rw [List.getElem?_take_of_lt (by omega)]; exact hq))
 have a1 : ∀ j, k + 1 = j + 1 → l[j]? = some q := fun j e => by
  obtain rfl : j = k := by omega
  exact hq
 rw [qei (k + 1) l (-1) q n hn (fun e => by omega) a1, hg, Bool.true_and]
 exact decide_eq_decide.2 ⟨fun ⟨h1, h2⟩ => ⟨⟨by omega, h2⟩, h1⟩, fun ⟨⟨h1, h2⟩, h3⟩ => ⟨h3, h2⟩⟩
end Go.Pln
/- . -/
namespace Go.Proofs.YtigmojilaadbhaaGreatDoor
open Go Go.Eng Go.Pln Go.Lib
attribute [local irreducible] AWp AL DAL AOp
abbrev iv64 (l : List Int) : List Value := l.map fun n => .int .i64 n
theorem iv64_at {l : List Int} {k : Nat} {n : Int} (hn : l[k]? = some n) {a : Int} (ha : a = (k : Nat)) : (iv64 l)[a.toNat]? = some (.int .i64 n) := by
 subst ha
 show (iv64 l)[k]? = _
 rw [List.getElem?_map, hn]
 rfl
theorem qe4 (nodes : Int) (v : Value) (l : List Int) (h : Heap) (r : RS h v (iv64 l)) (hn : 1 ≤ nodes ∧ nodes ≤ 5) (hl : l.length ≤ 140737488351232) : ACalls Tryz.prog 73 [.int .i64 nodes, v] h fun u h' => u = .bool (mayGroup nodes l) ∧ h' = h := by
 refine ACalls.body Tryz.func73 rfl rfl ?_
 have hlen : (iv64 l).length = l.length := by simp
 repeat (first | refine W.w ?_ | (refine zz rfl ?_; first | refine qad rfl ?_ | refine qaa rfl ?_ | refine qaE r rfl ?_ | refine qan (by conv => lhs; whnf) ?_))
 refine AWp.loop (α := Nat) (fun k => [(0, .int .i64 nodes), (1, v), (7, v), (8, .int .i64 ((iv64 l).length : Nat)), (9, .int .i64 (k : Nat))]) (fun _ => h) (fun k => k ≤ l.length ∧ riseM nodes (-1) (l.take k) = true) (fun k => l.length - k) 0 ⟨Nat.zero_le _, rfl⟩ (Weak.same (EW.cons rfl (EW.cons rfl (EW.cons rfl (EW.cons rfl (EW.cons rfl EW.nil)))))) ?_
 rintro k ⟨hk, hg⟩
 by_cases hlt : k < l.length
 ·
  obtain ⟨n, hn1⟩ : ∃ n, l[k]? = some n := ⟨_, List.getElem?_eq_getElem hlt⟩
  have hx := iv64_at hn1 (a := (k : Nat)) rfl
  repeat (first | refine W.w ?_ | refine AWp.c8 rfl ?_ | (refine zz rfl ?_; first | refine qad rfl ?_ | refine qaj rfl rfl rfl (by rw [hlen]; omega) ?_ | refine qa7 r rfl rfl (by omega) hx ?_))
  intro p hp
  cases k with
  | zero =>
   have hf := rise_first (nodes := nodes) hn1
   by_cases c1 : 0 ≤ n ∧ n ≤ nodes - 1
   ·
    repeat (first | refine W.w ?_ | refine AL.skip rfl rfl ?_ | refine AWp.c9 rfl ?_ | (refine zz rfl ?_; first | refine qad rfl ?_ | refine qag rfl ?_ | refine qac rfl ?_ | refine qaB hp rfl rfl ?_ | refine qab rfl rfl (qbm h c1) ?_ | refine qak rfl rfl rfl (by omega) ?_ | refine qai (v := .bool _) rfl rfl ?_ | refine qav rfl rfl (by omega) ?_ | refine qcg rfl rfl (by omega) ?_ | refine qaD rfl ?_))
    exact ⟨0 + 1, ⟨hlt, hf.trans (decide_eq_true (by omega))⟩, by omega, Weak.same (EW.cons rfl (EW.cons rfl (EW.cons rfl (EW.cons rfl (EW.cons rfl EW.nil)))))⟩
   ·
    repeat (first | refine W.w ?_ | refine AL.skip rfl rfl ?_ | refine AWp.c8 rfl ?_ | (refine zz rfl ?_; first | refine qad rfl ?_ | refine qag rfl ?_ | refine qac rfl ?_ | refine qaa rfl ?_ | refine qaB hp rfl rfl ?_ | refine qab rfl rfl (qce h c1) ?_ | refine qai (v := .bool _) rfl rfl ?_ | refine qcg rfl rfl (by omega) ?_ | refine qaD rfl ?_))
    refine ⟨_, ResV.tmp rfl, ?_, rfl⟩
    rw [Pln.mayGroup, qhm (hf.trans (decide_eq_false (by omega)))]
    rfl
  | succ k =>
   obtain ⟨q, hq⟩ : ∃ q, l[k]? = some q := ⟨_, List.getElem?_eq_getElem (by omega)⟩
   have hf := rise_next hg hq hn1
   have hx2 := iv64_at hq (a := ((k + 1 : Nat) : Int) - 1) (by omega)
   by_cases c1 : 0 ≤ n ∧ n ≤ nodes - 1
   ·
    by_cases c2 : q < n
    ·
     repeat (first | refine W.w ?_ | (refine zz rfl ?_; first | refine qad rfl ?_ | refine qag rfl ?_ | refine qac rfl ?_ | refine qaB hp rfl rfl ?_ | refine qab rfl rfl (qbm h c1) ?_ | refine qaj rfl rfl rfl (by omega) ?_ | refine qa7 r rfl rfl (by omega) hx2 ?_ | refine qcg rfl rfl (by omega) ?_ | refine qaD rfl ?_ | refine qan (by conv => lhs; whnf) ?_))
     intro p2 hp2
     repeat (first | refine W.w ?_ | refine AWp.c9 rfl ?_ | (refine zz rfl ?_; first | refine qad rfl ?_ | refine qaB hp2 rfl rfl ?_ | refine qak rfl rfl rfl (by omega) ?_ | refine qai (v := .bool _) rfl rfl ?_ | refine qav rfl rfl (by omega) ?_))
     exact ⟨k + 1 + 1, ⟨hlt, hf.trans (decide_eq_true (by omega))⟩, by omega, Weak.same (EW.cons rfl (EW.cons rfl (EW.cons rfl (EW.cons rfl (EW.cons rfl EW.nil)))))⟩
    ·
     repeat (first | refine W.w ?_ | (refine zz rfl ?_; first | refine qad rfl ?_ | refine qag rfl ?_ | refine qac rfl ?_ | refine qaB hp rfl rfl ?_ | refine qab rfl rfl (qbm h c1) ?_ | refine qaj rfl rfl rfl (by omega) ?_ | refine qa7 r rfl rfl (by omega) hx2 ?_ | refine qcg rfl rfl (by omega) ?_ | refine qaD rfl ?_ | refine qan (by conv => lhs; whnf) ?_))
     intro p2 hp2
     repeat (first | refine W.w ?_ | refine AWp.c8 rfl ?_ | (refine zz rfl ?_; first | refine qad rfl ?_ | refine qaa rfl ?_ | refine qaB hp2 rfl rfl ?_ | refine qaj rfl rfl rfl (by omega) ?_ | refine qai (v := .bool _) rfl rfl ?_))
     refine ⟨_, ResV.tmp rfl, ?_, rfl⟩
     rw [Pln.mayGroup, qhm (hf.trans (decide_eq_false (by omega)))]
     rfl
   ·
    repeat (first | refine W.w ?_ | refine AL.skip rfl rfl ?_ | refine AWp.c8 rfl ?_ | (refine zz rfl ?_; first | refine qad rfl ?_ | refine qag rfl ?_ | refine qac rfl ?_ | refine qaa rfl ?_ | refine qaB hp rfl rfl ?_ | refine qab rfl rfl (qce h c1) ?_ | refine qai (v := .bool _) rfl rfl ?_ | refine qcg rfl rfl (by omega) ?_ | refine qaD rfl ?_))
    refine ⟨_, ResV.tmp rfl, ?_, rfl⟩
    rw [Pln.mayGroup, qhm (hf.trans (decide_eq_false (by omega)))]
    rfl
 ·
  obtain rfl : k = l.length := by omega
  rw [List.take_length] at hg
  have cw := qcx ((iv64 l).length : Nat) 1 3 h
  repeat (first | refine AL.nil ?_ | refine AWp.seq ?_ | refine AWp.r9 ?_ | refine AWp.c9 rfl ?_ | refine AWp.ret ?_ | refine AWp.exit ?_ | (refine zz rfl ?_; first | refine qaa rfl ?_ | refine qak rfl rfl rfl (by rw [hlen]; omega) ?_ | refine qaE r rfl ?_ | refine qab rfl rfl cw ?_ | refine qan (by conv => lhs; whnf) ?_))
  refine ⟨_, ResV.tmp rfl, ?_, rfl⟩
  show Value.bool _ = _
  rw [Pln.mayGroup, hg, Bool.true_and, hlen]
  exact congrArg Value.bool (decide_eq_decide.2 ⟨fun e => by omega, fun e => by omega⟩)
instance qdh : FnC Tryz.prog 72 := ⟨Tryz.f72, Tryz.func72, by kernel_rfl, by kernel_rfl⟩
instance qch : FnC Tryz.prog 76 := ⟨Tryz.f76, Tryz.func76, by kernel_rfl, by kernel_rfl⟩
instance qco : FnC Tryz.prog 114 := ⟨Tryz.f114, Tryz.func114, by kernel_rfl, by kernel_rfl⟩
def RG (h : Heap) (vg : Value) (gs : List (List Int)) : Prop :=
 ∃ vs, RS h vg vs ∧ vs.length = gs.length ∧ gs.length ≤ 140737488351232 ∧ ∀ (k : Nat) v g, vs[k]? = some v → gs[k]? = some g → RS h v (iv64 g) ∧ g.length ≤ 140737488351232
theorem RG.ext {h h' : Heap} {vg : Value} {gs : List (List Int)} (r : RG h vg gs) (hx : Ext h h') : RG h' vg gs := by
 obtain ⟨vs, h1, h2, h3, h4⟩ := r
 exact ⟨vs, h1.ext hx, h2, h3, fun k v g hv hg => ⟨(h4 k v g hv hg).1.ext hx, (h4 k v g hv hg).2⟩⟩
theorem bad_c (b : Nat) (vg : Value) (x : SetM) (v : Value) (l : List Int) (h : Heap) (hb : h.get b = some ⟨setC vg x, 24, true⟩) (hn : 1 ≤ x.nodes ∧ x.nodes ≤ 5) (r : RS h v (iv64 l)) (hl : l.length ≤ 140737488351232) :
  ACalls Tryz.prog 72 [v, ptr b] h fun u h' => u = .bool (!mayGroup x.nodes l) ∧ h' = h := by
 refine ACalls.body Tryz.func72 rfl rfl ?_
 repeat (first | refine W.w ?_ | (refine zz rfl ?_; first | refine qaa rfl ?_ | refine qap rfl ?_ | refine qae rfl rfl hb rfl ?_ | refine qab rfl rfl (qe4 x.nodes v l h r hn hl) ?_ | refine qaD rfl ?_ | refine qan (by conv => lhs; whnf) ?_))
 exact ⟨_, ResV.tmp rfl, rfl, rfl⟩
abbrev badV (b : Nat) : Value := .func (.func 72) #[] #[ptr b]
theorem qep {α : Type} {p : α → Bool} {l : List α} {k : Nat} {x : α} (hx : l[k]? = some x) : (l.take (k + 1)).all p = ((l.take k).all p && p x) := by
 rw [List.take_add_one, hx, List.all_append]
 simp
theorem qfS {α : Type} {p : α → Bool} {l : List α} {k : Nat} {x : α} (hx : l[k]? = some x) (hp : p x = false) : l.all p = false := by
 cases ha : l.all p with
 | false => rfl
 | true =>
  have := List.all_eq_true.1 ha x (List.mem_of_getElem? hx)
  rw [hp] at this
  cases this
theorem index_f (b : Nat) (vg : Value) (x : SetM) (gs : List (List Int)) (h : Heap) (hb : h.get b = some ⟨setC vg x, 24, true⟩) (hn : 1 ≤ x.nodes ∧ x.nodes ≤ 5) (r : RG h vg gs) :
  ACalls Tryz.prog 114 [vg, badV b] h fun u h' => ∃ z : Int, u = .int .i64 z ∧ decide (0 ≤ z) = !gs.all (mayGroup x.nodes) ∧ h' = h := by
 refine ACalls.body Tryz.func114 rfl rfl ?_
 obtain ⟨vs, r1, r2, r3, r4⟩ := r
 repeat (first | refine W.w ?_ | (refine zz rfl ?_; first | refine qad rfl ?_ | refine qac rfl ?_ | refine qaE r1 rfl ?_ | refine qan (by conv => lhs; whnf) ?_))
 refine AWp.loop (α := Nat) (fun k => [(0, vg), (1, badV b), (7, .int .i64 (vs.length : Nat)), (8, .int .i64 (k : Nat))]) (fun _ => h) (fun k => k ≤ gs.length ∧ (gs.take k).all (mayGroup x.nodes) = true) (fun k => gs.length - k) 0 ⟨Nat.zero_le _, rfl⟩ (Weak.same (EW.cons rfl (EW.cons rfl (EW.cons rfl (EW.cons rfl EW.nil))))) ?_
 rintro k ⟨hk, ha⟩
 by_cases hlt : k < gs.length
 ·
  obtain ⟨g, hg⟩ : ∃ g, gs[k]? = some g := ⟨_, List.getElem?_eq_getElem hlt⟩
  obtain ⟨v, hv⟩ : ∃ v, vs[k]? = some v := ⟨_, List.getElem?_eq_getElem (by omega)⟩
  obtain ⟨q1, q2⟩ := r4 k v g hv hg
  have hst := qep (p := mayGroup x.nodes) hg
  rw [ha, Bool.true_and] at hst
  have cb := bad_c b vg x v g h hb hn q1 q2
  repeat (first | refine W.w ?_ | refine AWp.c8 rfl ?_ | (refine zz rfl ?_; first | refine qad rfl ?_ | refine qaN rfl ?_ | refine qac rfl ?_ | refine qaj rfl rfl rfl (by omega) ?_ | refine qa7 r1 rfl rfl (by omega) (show vs[((k : Nat) : Int).toNat]? = some v from hv) ?_ | refine qan (by conv => lhs; whnf) ?_))
  intro p hp
  cases hm : mayGroup x.nodes g with
  | true =>
   rw [hm] at cb hst
   repeat (first | refine W.w ?_ | refine AWp.c9 rfl ?_ | (refine zz rfl ?_; first | refine qad rfl ?_ | refine qaB hp rfl rfl ?_ | refine qab rfl rfl cb ?_ | refine qav rfl rfl (by omega) ?_))
   exact ⟨k + 1, ⟨hlt, hst⟩, by omega, Weak.same (EW.cons rfl (EW.cons rfl (EW.cons rfl (EW.cons rfl EW.nil))))⟩
  | false =>
   rw [hm] at cb
   repeat (first | refine W.w ?_ | refine AWp.c8 rfl ?_ | (refine zz rfl ?_; first | refine qad rfl ?_ | refine qac rfl ?_ | refine qaB hp rfl rfl ?_ | refine qab rfl rfl cb ?_))
   refine ⟨_, ResV.tmp rfl, (k : Nat), rfl, ?_, rfl⟩
   rw [qfS hg hm]
   exact decide_eq_true (by omega)
 ·
  obtain rfl : k = gs.length := by omega
  rw [List.take_length] at ha
  repeat (first | refine AL.nil ?_ | refine AWp.seq ?_ | refine AWp.r9 ?_ | refine AWp.c9 rfl ?_ | refine AWp.ret ?_ | refine AWp.exit ?_ | refine zz rfl (qac rfl ?_) | refine zz rfl (qak rfl rfl rfl (by omega) ?_))
  refine ⟨_, ResV.tmp rfl, -1, rfl, ?_, rfl⟩
  rw [ha]
  rfl
theorem contains_f (b : Nat) (vg : Value) (x : SetM) (gs : List (List Int)) (h : Heap) (hb : h.get b = some ⟨setC vg x, 24, true⟩) (hn : 1 ≤ x.nodes ∧ x.nodes ≤ 5) (r : RG h vg gs) :
  ACalls Tryz.prog 76 [vg, badV b] h fun u h' => u = .bool (!gs.all (mayGroup x.nodes)) ∧ h' = h := by
 refine ACalls.body Tryz.func76 rfl rfl ?_
 repeat (first | refine W.w ?_ | (refine zz rfl ?_; first | refine qaN rfl ?_ | refine qaa rfl ?_ | refine qan (by conv => lhs; whnf) ?_))
 refine zz rfl (qao rfl rfl ((index_f b vg x gs h hb hn r).mono ?_))
 rintro _ H1 ⟨z, rfl, hz, hH1⟩
 cases hH1.symm
 by_cases h0 : 0 ≤ z
 ·
  repeat (first | refine W.w ?_ | refine zz rfl (qaa rfl ?_) | refine zz rfl (qaj rfl rfl rfl (by omega) ?_))
  exact ⟨_, ResV.tmp rfl, by rw [← hz, decide_eq_true h0]; rfl, rfl⟩
 ·
  repeat (first | refine W.w ?_ | refine zz rfl (qaa rfl ?_) | refine zz rfl (qak rfl rfl rfl (by omega) ?_))
  exact ⟨_, ResV.tmp rfl, by rw [← hz, decide_eq_false h0]; rfl, rfl⟩
instance qdz : FnC Tryz.prog 31 := ⟨Tryz.f31, Tryz.func31, by kernel_rfl, by kernel_rfl⟩
theorem qfv (x : SetM) (vg : Value) (h : Heap) (r : RG h vg x.groups) : ACalls Tryz.prog 31 [.agg (setC vg x).toArray] h fun u h' => u = .bool (maySet x) ∧ h' = h := by
 refine ACalls.wf fun wf => ACalls.reset ?_
 refine ACalls.body Tryz.func31 rfl rfl ?_
 repeat (first | refine W.w ?_ | refine zz rfl (qaa rfl ?_) | refine zz rfl (qaI rfl (by intro e; cases e) ?_))
 generalize hH : h.alloc _ = H
 have hg : H.get h.next = some ⟨setC vg x, 24, true⟩ := hH ▸ Heap.alloc_new _ _
 have hx : Ext h H := hH ▸ wf.ext _
 have rH := r.ext hx
 obtain ⟨vs, r1, r2, r3, _⟩ := rH
 have hv : vg ≠ undef := (RS.one r1).2
 have cs := sizes_c x vg hv H
 have cw := qcx (vs.length : Nat) 2 5 H
 cases hs : sizesM x with
 | false =>
  rw [hs] at cs
  repeat (first | refine W.w ?_ | refine AL.skip rfl rfl ?_ | (refine zz rfl ?_; first | refine qag rfl ?_ | refine qaa rfl ?_ | refine qaR rfl ?_ | refine qaL rfl rfl ?_ | refine qaf (sz := 5) rfl rfl hg (Nat.le_refl _) ?_ | refine qab rfl rfl cs ?_ | refine qai (v := .bool _) rfl rfl ?_))
  exact ⟨_, ResV.tmp rfl, rfl, hx, by rw [maySet, hs]; rfl, rfl⟩
 | true =>
  rw [hs] at cs
  have hn : 1 ≤ x.nodes ∧ x.nodes ≤ 5 := by
   have := of_decide_eq_true hs
   omega
  have cc := contains_f h.next vg x x.groups H hg hn (r.ext hx)
  by_cases h1 : 2 ≤ x.groups.length ∧ x.groups.length ≤ 5
  ·
   rw [decide_eq_true (show (2 : Int) ≤ (vs.length : Nat) ∧ ((vs.length : Nat) : Int) ≤ 5 by omega)] at cw
   cases ha : x.groups.all (mayGroup x.nodes) with
   | true =>
    rw [ha] at cc
    repeat (first | refine W.w ?_ | (refine zz rfl ?_; first | refine qag rfl ?_ | refine qaN rfl ?_ | refine qaa rfl ?_ | refine qaR rfl ?_ | refine qaL rfl rfl ?_ | refine qaf (sz := 5) rfl rfl hg (Nat.le_refl _) ?_ | refine qab rfl rfl cs ?_ | refine qap rfl ?_ | refine qae rfl rfl hg rfl ?_ | refine qaE r1 rfl ?_ | refine qab rfl rfl cw ?_ | refine qab rfl rfl cc ?_ | refine qai (v := .bool _) rfl rfl ?_ | refine qaD rfl ?_))
    exact ⟨_, ResV.tmp rfl, rfl, hx, by rw [maySet, hs, ha, decide_eq_true h1]; rfl, rfl⟩
   | false =>
    rw [ha] at cc
    repeat (first | refine W.w ?_ | (refine zz rfl ?_; first | refine qag rfl ?_ | refine qaN rfl ?_ | refine qaa rfl ?_ | refine qaR rfl ?_ | refine qaL rfl rfl ?_ | refine qaf (sz := 5) rfl rfl hg (Nat.le_refl _) ?_ | refine qab rfl rfl cs ?_ | refine qap rfl ?_ | refine qae rfl rfl hg rfl ?_ | refine qaE r1 rfl ?_ | refine qab rfl rfl cw ?_ | refine qab rfl rfl cc ?_ | refine qai (v := .bool _) rfl rfl ?_ | refine qaD rfl ?_))
    exact ⟨_, ResV.tmp rfl, rfl, hx, by rw [maySet, hs, ha, decide_eq_true h1]; rfl, rfl⟩
  ·
   rw [decide_eq_false (show ¬ ((2 : Int) ≤ (vs.length : Nat) ∧ ((vs.length : Nat) : Int) ≤ 5) by omega)] at cw
   repeat (first | refine W.w ?_ | refine AL.skip rfl rfl ?_ | (refine zz rfl ?_; first | refine qag rfl ?_ | refine qaa rfl ?_ | refine qaR rfl ?_ | refine qaL rfl rfl ?_ | refine qaf (sz := 5) rfl rfl hg (Nat.le_refl _) ?_ | refine qab rfl rfl cs ?_ | refine qap rfl ?_ | refine qae rfl rfl hg rfl ?_ | refine qaE r1 rfl ?_ | refine qab rfl rfl cw ?_ | refine qai (v := .bool _) rfl rfl ?_))
   exact ⟨_, ResV.tmp rfl, rfl, hx, by rw [maySet, hs, decide_eq_false h1]; rfl, rfl⟩
instance i_mayName1 : FnC Tryz.prog 153 := ⟨Tryz.f153, Tryz.func153, by kernel_rfl, by kernel_rfl⟩
instance i_indexB : FnC Tryz.prog 172 := ⟨Tryz.f172, Tryz.func172, by kernel_rfl, by kernel_rfl⟩
instance i_containsB : FnC Tryz.prog 154 := ⟨Tryz.f154, Tryz.func154, by kernel_rfl, by kernel_rfl⟩
instance i_mayName : FnC Tryz.prog 120 := ⟨Tryz.f120, Tryz.func120, by kernel_rfl, by kernel_rfl⟩
abbrev nameC (c : UInt8) : Bool := decide (33 ≤ c.toNat ∧ c.toNat ≤ 126)
theorem badC_c (c : UInt8) (h : Heap) : ACalls Tryz.prog 153 [.int .u8 (c.toNat : Int)] h fun u h' => u = .bool (!nameC c) ∧ h' = h := by
 refine ACalls.body Tryz.func153 rfl rfl ?_
 repeat' (first | refine W.w ?_ | refine AL.skip rfl rfl ?_ | (refine zz rfl ?_; first | refine qad rfl ?_ | refine qag rfl ?_ | refine qaa rfl ?_ | refine qaU rfl rfl rfl (fun c => ?_) (fun c => ?_) | refine qai (v := .bool _) rfl rfl ?_))
 all_goals refine ⟨_, ResV.tmp rfl, congrArg Value.bool ?_, rfl⟩
 all_goals grind
abbrev badCV : Value := .func (.func 153) #[] #[]
theorem bv_at {l : Bytes} {k : Nat} {c : UInt8} (hc : l[k]? = some c) {a : Int} (ha : a = (k : Nat)) : (bv l)[a.toNat]? = some (.int .u8 (c.toNat : Int)) := by
 subst ha
 exact qgz l k c hc
theorem indexB_c (v : Value) (l : Bytes) (h : Heap) (r : RB h v l) (hl : l.length ≤ 140737488351232) : ACalls Tryz.prog 172 [v, badCV] h fun u h' => ∃ z : Int, u = .int .i64 z ∧ decide (0 ≤ z) = !l.all nameC ∧ h' = h := by
 refine ACalls.body Tryz.func172 rfl rfl ?_
 obtain ⟨va, vc, hv⟩ := RS.slice r
 repeat (first | refine W.w ?_ | (refine zz rfl ?_; first | refine qad rfl ?_ | refine qac rfl ?_ | refine qaZ r rfl ?_ | refine qan (by conv => lhs; whnf) ?_))
 refine AWp.loop (α := Nat) (fun k => [(0, v), (1, badCV), (7, .int .i64 (l.length : Nat)), (8, .int .i64 (k : Nat))]) (fun _ => h) (fun k => k ≤ l.length ∧ (l.take k).all nameC = true) (fun k => l.length - k) 0 ⟨Nat.zero_le _, rfl⟩ (Weak.same (EW.cons rfl (EW.cons rfl (EW.cons rfl (EW.cons rfl EW.nil))))) ?_
 rintro k ⟨hk, ha⟩
 by_cases hlt : k < l.length
 ·
  obtain ⟨c, hc⟩ : ∃ c, l[k]? = some c := ⟨_, List.getElem?_eq_getElem hlt⟩
  have hst := qep (p := nameC) hc
  rw [ha, Bool.true_and] at hst
  have cb := badC_c c h
  repeat (first | refine W.w ?_ | refine AWp.c8 rfl ?_ | (refine zz rfl ?_; first | refine qad rfl ?_ | refine qaN rfl ?_ | refine qac rfl ?_ | refine qaj rfl rfl rfl (by omega) ?_ | refine qan (v := v) rfl ?_ | refine qa7 r rfl rfl (by omega) (bv_at hc rfl) ?_))
  intro p hp
  cases hm : nameC c with
  | true =>
   rw [hm] at cb hst
   repeat (first | refine W.w ?_ | refine AWp.c9 rfl ?_ | (refine zz rfl ?_; first | refine qad rfl ?_ | refine qaB hp rfl rfl ?_ | refine qab rfl rfl cb ?_ | refine qav rfl rfl (by omega) ?_))
   exact ⟨k + 1, ⟨hlt, hst⟩, by omega, Weak.same (EW.cons rfl (EW.cons rfl (EW.cons rfl (EW.cons rfl EW.nil))))⟩
  | false =>
   rw [hm] at cb
   repeat (first | refine W.w ?_ | refine AWp.c8 rfl ?_ | (refine zz rfl ?_; first | refine qad rfl ?_ | refine qac rfl ?_ | refine qaB hp rfl rfl ?_ | refine qab rfl rfl cb ?_))
   refine ⟨_, ResV.tmp rfl, (k : Nat), rfl, ?_, rfl⟩
   rw [qfS hc hm]
   exact decide_eq_true (by omega)
 ·
  obtain rfl : k = l.length := by omega
  rw [List.take_length] at ha
  repeat (first | refine AL.nil ?_ | refine AWp.seq ?_ | refine AWp.r9 ?_ | refine AWp.c9 rfl ?_ | refine AWp.ret ?_ | refine AWp.exit ?_ | refine zz rfl (qac rfl ?_) | refine zz rfl (qak rfl rfl rfl (by omega) ?_))
  refine ⟨_, ResV.tmp rfl, -1, rfl, ?_, rfl⟩
  rw [ha]
  rfl
theorem qg4 (v : Value) (l : Bytes) (h : Heap) (r : RB h v l) (hl : l.length ≤ 140737488351232) : ACalls Tryz.prog 154 [v, badCV] h fun u h' => u = .bool (!l.all nameC) ∧ h' = h := by
 refine ACalls.body Tryz.func154 rfl rfl ?_
 repeat (first | refine W.w ?_ | (refine zz rfl ?_; first | refine qaN rfl ?_ | refine qaa rfl ?_ | refine qan (v := v) rfl ?_))
 refine zz rfl (qao rfl rfl ((indexB_c v l h r hl).mono ?_))
 rintro _ H1 ⟨z, rfl, hz, hH1⟩
 cases hH1.symm
 by_cases h0 : 0 ≤ z
 ·
  repeat' (first | refine W.w ?_ | refine zz rfl (qaa rfl ?_) | refine zz rfl (qaj rfl rfl rfl (by omega) ?_))
  exact ⟨_, ResV.tmp rfl, by rw [← hz, decide_eq_true h0]; rfl, rfl⟩
 ·
  repeat' (first | refine W.w ?_ | refine zz rfl (qaa rfl ?_) | refine zz rfl (qak rfl rfl rfl (by omega) ?_))
  exact ⟨_, ResV.tmp rfl, by rw [← hz, decide_eq_false h0]; rfl, rfl⟩
theorem mayName_c (s : Bytes) (h : Heap) : ACalls Tryz.prog 120 [str s] h fun u h' => u = .bool (nameOk s) ∧ h' = h := by
 refine ACalls.wf fun wf => ACalls.reset ?_
 refine ACalls.body Tryz.func120 rfl rfl ?_
 by_cases hl : 1 ≤ s.length ∧ s.length ≤ 32
 ·
  have gp := Heap.alloc_new h ⟨bv s, 5, true⟩
  have xp := wf.ext ⟨bv s, 5, true⟩
  have rb : RB (h.alloc ⟨bv s, 5, true⟩) (.slice (some ⟨h.next, 0, some 1⟩) s.length (s.length + 1)) s := RS.own gp (qaH s)
  have cc := qg4 _ s _ rb (by omega)
  repeat (first | refine W.w ?_ | (refine zz rfl ?_; first | refine qag rfl ?_ | refine qal rfl ?_ | refine qaN rfl ?_ | refine qaa rfl ?_ | refine qaR rfl ?_ | refine qbA rfl ?_ | refine qab rfl rfl (qbm h (n := (s.length : Nat)) (by omega)) ?_ | refine qh3 rfl (by simp only [maxLen]; omega) ?_ | refine qab rfl rfl cc ?_ | refine qai (v := .bool _) rfl rfl ?_ | refine qaD rfl ?_))
  refine ⟨_, ResV.tmp rfl, rfl, xp, congrArg Value.bool ?_, rfl⟩
  rw [nameOk, decide_eq_true hl]
  cases s.all nameC <;> rfl
 ·
  repeat (first | refine W.w ?_ | refine AL.skip rfl rfl ?_ | (refine zz rfl ?_; first | refine qag rfl ?_ | refine qal rfl ?_ | refine qaa rfl ?_ | refine qaR rfl ?_ | refine qbA rfl ?_ | refine qab rfl rfl (qce h (n := (s.length : Nat)) (by omega)) ?_ | refine qai (v := .bool _) rfl rfl ?_))
  refine ⟨_, ResV.tmp rfl, rfl, Ext.refl h, ?_, rfl⟩
  rw [nameOk, decide_eq_false hl]
  rfl
end Go.Proofs.YtigmojilaadbhaaGreatDoor
