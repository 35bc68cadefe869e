/-
  Texts of one claim, merged: 5 parts.
-/
import Derived.Test.YtigmojilaadbhaaGreatDoorMpn
import Derived.Test.YtigmojilaadbhaaGreatDoorMpi
import Derived.Test.YtigmojilaadbhaaGreatDoorMpj
import Derived.Test.YtigmojilaadbhaaGreatDoorMph
import Derived.Test.YtigmojilaadbhaaGreatDoorMpk
set_option maxHeartbeats 16000000
/- . -/
namespace Go.Proofs.YtigmojilaadbhaaGreatDoor
open Go Go.Eng Go.Pln Go.Lib Go.Proofs.Tryz
attribute [local irreducible] AWp AL DAL AOp TAL
instance i_rnext : FnC prog 46 := ⟨Tryz.f46, func46, by kernel_rfl, by kernel_rfl⟩
theorem qcW {h0 h : Heap} {i : Nat} {s : Bytes} (r : Rdr h0 i s h) (hl : s.length ≤ 1000000000) : ACalls prog 46 [ptr i] h fun u h' => u = str (cutS s).1 ∧ h' = h.set i (rdB (cutS s).2) := qii i s h r.box hl
theorem cutS_lt {s : Bytes} (h : s ≠ []) : (cutS s).2.length < s.length := by
 cases s with
 | nil => exact absurd rfl h
 | cons c s =>
  rw [cutS]
  have := (qbu s).2
  split <;> simp only [Ad] <;> omega
structure KpI (h0 : Heap) (i : Nat) (s rest : Bytes) (acc : List (Bytes × Int)) (H : Heap) (u : Value) : Prop where
 rd : Rdr h0 i rest H
 eq : keepS 129 s = acc ++ keepS (129 - acc.length) rest
 le : acc.length ≤ 129
 on : ON h0.next 2 H 79 u (acc.map keptR)
 len : rest.length ≤ s.length
theorem ON.over {B c : Nat} {h h' : Heap} {e : TypeId} {v : Value} {rows : List (List Value)} {i : Nat} {b : Blk} (o : ON B c h e v rows) (hi : i < B) (hx : Ext (h.set i b) h') : ON B c h' e v rows := by
 refine ⟨o.len, o.at_.imp id fun ⟨j, cap, h1, h2, h3⟩ => ⟨j, cap, h1, h2, hx.c _ _ ((aH (by omega)).trans h3)⟩⟩
theorem keep_c {h0 h : Heap} {i : Nat} {s : Bytes} (r : Rdr h0 i s h) (hl : s.length ≤ 1000000000) : ACalls prog 99 [ptr i] h fun u h' => RK h' u (keepS 129 s) ∧ oneB u = true ∧ ON h0.next 2 h' 79 u ((keepS 129 s).map keptR) ∧ ∃ s', Rdr h0 i s' h' := by
 refine aD func99 rfl rfl ?_
 repeat (first | refine W.w ?_ | refine zz rfl (qaR rfl ?_))
 refine bB (α := Bytes × List (Bytes × Int) × Heap × Value) (fun d => [(0, ptr i), (3, d.2.2.2)]) (fun d => d.2.2.1) (fun d => KpI h0 i s d.1 d.2.1 d.2.2.1 d.2.2.2) (fun d => d.1.length) (s, [], h, .slice none 0 0) ⟨r, rfl, Ao _, ON.nil _ _ _ _, Aa _⟩
  (aI (aA rfl (aA rfl aN))) ?_
 rintro ⟨rest, acc, H, u⟩ k
 replace k : KpI h0 i s rest acc H u := k
 show AWp _ _ _ _ [(0, ptr i), (3, u)] H
 obtain ⟨kr, ke, kl, ko, kn⟩ := k
 have hb := kr.box
 obtain ⟨ua, uc, hu⟩ := ko.rn.slice
 have hml : (acc.map keptR).length = acc.length := Ap _
 have fin : ∀ l, keepS 129 s = l → l = acc → RK H u (keepS 129 s) ∧ oneB u = true ∧ ON h0.next 2 H 79 u ((keepS 129 s).map keptR) ∧ ∃ s', Rdr h0 i s' H := fun l e1 e2 => by
  rw [e1, e2]
  exact ⟨⟨ko.rn, by omega⟩, ko.one, ko, _, kr⟩
 by_cases h1 : rest = []
 ·
  repeat (first | refine aW ?_ | refine aK rfl rfl ?_ | refine aR ?_ | refine aY ?_ | refine aG rfl ?_ | refine aM ?_ | refine aP ?_ | (refine zz rfl ?_; first | refine qae rfl ?_ | refine qaB rfl ?_ | refine qaH rfl ?_ | refine qan rfl ?_ | refine qaf rfl rfl hb rfl ?_ | refine qbi (a := rest) (b := []) rfl rfl h1 ?_ | refine qag (v := .bool _) rfl rfl ?_ | refine qal (v := u) rfl ?_ | refine qao (v := u) rfl ?_))
  refine ⟨_, aC rfl, fin _ rfl ?_⟩
  rw [ke, h1]
  cases 129 - acc.length <;> simp [keepS]
 ·
  by_cases h2 : acc.length ≤ 128
  ·
   have hi := kr.lt
   repeat (first | refine W.w ?_ | refine aE rfl ?_ | (refine zz rfl ?_; first | refine qae rfl ?_ | refine qaB rfl ?_ | refine qaH rfl ?_ | refine qan rfl ?_ | refine qaf rfl rfl hb rfl ?_ | refine qbg (a := rest) (b := []) rfl rfl h1 ?_ | refine qag (v := .bool _) rfl rfl ?_ | refine qal (v := u) rfl ?_ | refine qaA ko.rn rfl ?_ | refine qak rfl rfl rfl (by omega) ?_))
   refine zz rfl (qat (evs := [ptr i]) rfl rfl ((qcW kr (by omega)).mono ?_))
   rintro _ H1 ⟨rfl, hH1⟩
   have r1 : Rdr h0 i (cutS rest).2 H1 := hH1 ▸ kr.set _
   have x1 : Ext (H.set i (rdB (cutS rest).2)) H1 := hH1 ▸ aU _
   have o1 := ON.over ko kr.lt x1
   have hc := (qbu rest).2
   have hlt := cutS_lt h1
   have hc2 := qcl (cutS rest).2
   clear hH1
   repeat (first | refine zz rfl (qaB rfl ?_))
   refine zz rfl (qat (evs := [ptr i]) rfl rfl ((qbh r1 (by omega)).mono ?_))
   rintro _ H2 ⟨rfl, hH2⟩
   have r2 : Rdr h0 i (numS (cutS rest).2).2 H2 := hH2 ▸ r1.set _
   have x2 : Ext (H1.set i (rdB (numS (cutS rest).2).2)) H2 := hH2 ▸ aU _
   have o2 := ON.over o1 kr.lt x2
   clear hH2
   repeat (first | refine zz rfl (qay (out := keptR ((cutS rest).1, (numS (cutS rest).2).1)) rfl rfl ?_) | refine zz rfl (qd5 (sz := 2) (row := keptR ((cutS rest).1, (numS (cutS rest).2).1)) (by decide) (by decide) rfl rfl ?_))
   obtain ⟨H3, hQ, gr, xr, wr, _⟩ := aq r2.wf ⟨keptR ((cutS rest).1, (numS (cutS rest).2).1), 79, true⟩
   rw [hQ]
   have r3 := r2.grow xr wr (by have := wr.lt gr; omega)
   have o3 := o2.ext xr
   have rn : RN 2 H3 (.slice (some ⟨H2.next, 0, some 2⟩) 1 1) [keptR ((cutS rest).1, (numS (cutS rest).2).1)] := RN.row1 rfl gr
   refine zz rfl (qcy (m := 1) (by_ := 24) (z := .agg #[.string ⟨#[]⟩, .int .i64 0]) (B := h0.next) (e := 79) (news := [keptR ((cutS rest).1, (numS (cutS rest).2).1)]) rfl wr (by have := r3.nx; omega) o3 rfl rfl rn.src rfl (by intro x hx; rw [Ax.1 hx]; rfl) rfl (by rw [hml]; simp only [maxLen]; omega) (by rw [hml]; omega) ?_)
   intro u' H4 o4 _ k4 wf4 n4
   have r4 : Rdr h0 i (numS (cutS rest).2).2 H4 := ⟨k4.extN o3 (r2.wf0.set r2.lt _) (Aa _) r3.ext, wf4, r3.wf0, r3.lt, r3.ge, by have := r3.nx; omega, r3.tab⟩
   repeat (first | refine aW ?_ | refine zz rfl (qao (v := u') rfl ?_))
   refine ⟨((numS (cutS rest).2).2, acc ++ [((cutS rest).1, (numS (cutS rest).2).1)], H4, u'), ⟨r4, ?_, by simp only [An, Ad, Ag]; omega, by rw [Cx]; exact o4, by show (numS (cutS rest).2).2.length ≤ s.length; omega⟩, by show (numS (cutS rest).2).2.length < rest.length; omega, aI (aA rfl (aA rfl aN))⟩
   show keepS 129 s = (acc ++ [((cutS rest).1, (numS (cutS rest).2).1)]) ++ keepS (129 - (acc ++ [((cutS rest).1, (numS (cutS rest).2).1)]).length) (numS (cutS rest).2).2
   rw [ke, An, show 129 - acc.length = (129 - (acc.length + [((cutS rest).1, (numS (cutS rest).2).1)].length)) + 1 by simp only [Ad, Ag]; omega, keepS, Ac h1]
   simp
  ·
   repeat (first | refine aW ?_ | refine aR ?_ | refine aY ?_ | refine aG rfl ?_ | refine aM ?_ | refine aP ?_ | (refine zz rfl ?_; first | refine qae rfl ?_ | refine qaB rfl ?_ | refine qaH rfl ?_ | refine qan rfl ?_ | refine qaf rfl rfl hb rfl ?_ | refine qbg (a := rest) (b := []) rfl rfl h1 ?_ | refine qag (v := .bool _) rfl rfl ?_ | refine qal (v := u) rfl ?_ | refine qao (v := u) rfl ?_ | refine qaA ko.rn rfl ?_ | refine qai rfl rfl rfl (by omega) ?_))
   refine ⟨_, aC rfl, fin _ rfl ?_⟩
   rw [ke, show 129 - acc.length = 0 by omega, keepS, Ck]
instance i_read : FnC prog 48 := ⟨Tryz.f48, func48, by kernel_rfl, by kernel_rfl⟩
theorem qd7 {h : Heap} {i : Nat} {b : Blk} (hb : h.get i = some b) : h.set i b = h := by
 have e : (h.set i b).get = h.get := by
  funext j
  simp only [Heap.set]
  split
  ·
   rename_i e; rw [e]; exact hb.symm
  ·
   rfl
 show (⟨(h.set i b).get, h.next, h.obj⟩ : Heap) = h
 rw [e]
theorem Rdr.self {h0 h : Heap} {i : Nat} {s : Bytes} (r : Rdr h0 i s h) : Rdr h i s h := ⟨by rw [qd7 r.box]; exact aU h, r.wf, r.wf, r.wf.lt r.box, r.ge, Aa _, r.tabs⟩
theorem Rdr.trans {h0 h1 h2 : Heap} {i : Nat} {s s' : Bytes} (a : Rdr h0 i s h1) (b : Rdr h1 i s' h2) : Rdr h0 i s' h2 := a.next b.ext b.wf b.nx
structure RdA (h0 : Heap) (i : Nat) (s : Bytes) (H : Heap) (b4 b5 : Nat) (q : ActV) (a : ActM) : Prop where
 rd : Rdr h0 i s H
 g4 : H.get b4 = some ⟨actC actV0 act0, 40, true⟩
 g5 : H.get b5 = some ⟨actC q a, 40, true⟩
 n4 : h0.next ≤ b4
 n5 : h0.next ≤ b5
 ne : b4 ≠ b5
theorem RdA.over {h0 H H' : Heap} {i : Nat} {s s' : Bytes} {b4 b5 : Nat} {q : ActV} {a : ActM} (r : RdA h0 i s H b4 b5 q a) (k : Rdr H i s' H') : RdA h0 i s' H' b4 b5 q a := by
 have h1 := r.rd.lt
 have h4 := r.n4
 have h5 := r.n5
 exact ⟨r.rd.trans k, k.ext.c _ _ ((aH (by omega)).trans r.g4), k.ext.c _ _ ((aH (by omega)).trans r.g5), h4, h5, r.ne⟩
theorem RdA.num {h0 H : Heap} {i : Nat} {s : Bytes} {b4 b5 : Nat} {q : ActV} {a : ActM} (r : RdA h0 i s H b4 b5 q a) (s' : Bytes) : RdA h0 i s' (H.set i (rdB s')) b4 b5 q a := r.over (r.rd.self.set s')
theorem RdA.put {h0 H : Heap} {i : Nat} {s : Bytes} {b4 b5 : Nat} {q : ActV} {a : ActM} (r : RdA h0 i s H b4 b5 q a) (q' : ActV) (a' : ActM) : RdA h0 i s (H.set b5 ⟨actC q' a', 40, true⟩) b4 b5 q' a' :=
 ⟨r.rd.put r.n5 (r.rd.wf.lt r.g5) _, (aH r.ne).trans r.g4, aF _ _ _, r.n4, r.n5, r.ne⟩
structure ActO (B : Nat) (h : Heap) (q : ActV) (a : ActM) : Prop where
 oa : AskO B h q.q a.ask
 oc : CmdO B h q.c a.cmd
 ok : ON B 2 h 79 q.k (a.keep.map keptR)
theorem OS.elem {B : Nat} {h h' : Heap} {e : TypeId} {u : Value} {vs : List Value} (o : OS B h e u vs) (hx : ∀ j b, h.get j = some b → b.elem = e → h'.get j = some b) : OS B h' e u vs := o.imp id fun ⟨j, c, h1, h2, h3⟩ => ⟨j, c, h1, h2, hx _ _ h3 rfl⟩
abbrev bV := @OS.elem
theorem AskO.r {B : Nat} {h : Heap} {q : AskV} {a : AskM} (o : AskO B h q a) : AskR h q a := ⟨o.k.rb, o.t.rb, o.v.rb, o.w.rb⟩
theorem CmdO.r {B : Nat} {h : Heap} {q : CmdV} {c : CmdM} (o : CmdO B h q c) : CmdR h q c := by
 rw [o.hq]
 exact cmdR_k o.hc o.hk.rb
theorem AskO.nil (B : Nat) (h : Heap) : AskO B h askV0 ask0 := ⟨bP _ _ _, bP _ _ _, bP _ _ _, bP _ _ _⟩
theorem CmdO.nil (B : Nat) (h : Heap) : CmdO B h cmdV0 cmd0 := ⟨rfl, bP _ _ _, rfl⟩
theorem ActO.nil (B : Nat) (h : Heap) (a : ActM) (h1 : a.ask = ask0) (h2 : a.cmd = cmd0) (h3 : a.keep = []) : ActO B h actV0 a := by
 refine ⟨?_, ?_, ?_⟩
 ·
  rw [h1]; exact AskO.nil _ _
 ·
  rw [h2]; exact CmdO.nil _ _
 ·
  rw [h3]; exact ON.nil _ _ _ _
abbrev cR := @ActO.nil
theorem ActO.r {B : Nat} {h : Heap} {q : ActV} {a : ActM} (o : ActO B h q a) (hl : a.keep.length ≤ 140737488351232) : ActR h q a := ⟨o.oa.r, o.oc.r, ⟨o.ok.rn, hl⟩⟩
theorem ActO.elem {B : Nat} {h h' : Heap} {q : ActV} {a : ActM} (o : ActO B h q a) (h1 : ∀ j b, h.get j = some b → b.elem = 5 → h'.get j = some b) (h2 : ∀ j b, h.get j = some b → b.elem = 79 → h'.get j = some b) : ActO B h' q a :=
 ⟨⟨bV o.oa.k h1, bV o.oa.t h1, bV o.oa.v h1, bV o.oa.w h1⟩, ⟨o.oc.hq, bV o.oc.hk h1, o.oc.hc⟩, ⟨o.ok.len, o.ok.at_.imp id fun ⟨j, c, h3, h4, h5⟩ => ⟨j, c, h3, h4, h2 _ _ h5 rfl⟩⟩⟩
theorem qbT {h : Heap} {j : Nat} {b x : Blk} {e : TypeId} (hb : h.get j = some b) (he : b.elem ≠ e) : ∀ k y, h.get k = some y → y.elem = e → (h.set j x).get k = some y := by
 intro k y hk hy
 by_cases hkj : k = j
 ·
  subst hkj
  rw [hb] at hk
  cases hk
  exact absurd hy he
 ·
  exact (aH hkj).trans hk
theorem ActO.put {B : Nat} {h : Heap} {j : Nat} {b x : Blk} {q : ActV} {a : ActM} (o : ActO B h q a) (hb : h.get j = some b) (h1 : b.elem ≠ 5) (h2 : b.elem ≠ 79) : ActO B (h.set j x) q a := o.elem (qbT hb h1) (qbT hb h2)
abbrev cH := @ActO.put
def planFn (w : Bytes) : Option Nat := if w = wSplit then some 130 else if w = wUnion then some 132 else if w = wMove then some 133 else none
def askFn (w : Bytes) : Option Nat := if w = wGet then some 134 else if w = wDelete then some 135 else if w = wPut then some 136 else if w = wSwap then some 137 else if w = wFresh then some 138 else if w = wScan then some 139 else none
theorem qiG (b : Nat) (w : Bytes) : planF b w = (planFn w).map (fnB · b) := by unfold planF planFn; repeat' split <;> try rfl
theorem askF_fn (b : Nat) (w : Bytes) : askF b w = (askFn w).map (fnB · b) := by unfold askF askFn; repeat' split <;> try rfl
theorem plan_no {w : Bytes} (h : planFn w = none) (s : Bytes) : planT w s = cmd0 := by
 unfold planFn at h
 unfold planT
 repeat' split at h
 all_goals first | (cases h; done) | simp only [*, if_false]
theorem ask_no {w : Bytes} (h : askFn w = none) (s : Bytes) : askT w s = ask0 := by
 unfold askFn at h
 unfold askT
 repeat' split at h
 all_goals first | (cases h; done) | simp only [*, if_false]
theorem plan_any {w : Bytes} {f : Nat} (hf : planFn w = some f) {h0 h : Heap} {i b : Nat} {s : Bytes} (r : Rdr h0 i s h) (hb : h.get b = some (pB i)) (hib : b ≠ i) (hl : s.length ≤ 1000000000) : Nonempty (FnC prog f) ∧ ACalls prog f [ptr b] h fun u h' => ∃ q s', u = .agg (cmdC q (planT w s)).toArray ∧ CmdO h0.next h' q (planT w s) ∧ Rdr h0 i s' h' := by
 unfold planFn at hf
 unfold planT
 by_cases h0 : w = wSplit
 ·
  rw [Ah h0] at hf ⊢; cases hf; exact ⟨⟨inferInstance⟩, plan1_c r hb hib hl⟩
 rw [Ac h0] at hf ⊢
 by_cases h1 : w = wUnion
 ·
  rw [Ah h1] at hf ⊢; cases hf; exact ⟨⟨inferInstance⟩, plan2_c r hb hib hl⟩
 rw [Ac h1] at hf ⊢
 by_cases h2 : w = wMove
 ·
  rw [Ah h2] at hf ⊢; cases hf; exact ⟨⟨inferInstance⟩, plan3_c r hb hib hl⟩
 rw [Ac h2] at hf
 cases hf
theorem ask_any {w : Bytes} {f : Nat} (hf : askFn w = some f) {h0 h : Heap} {i b : Nat} {s : Bytes} (r : Rdr h0 i s h) (hb : h.get b = some (pB i)) (hib : b ≠ i) (hl : s.length ≤ 1000000000) : Nonempty (FnC prog f) ∧ ACalls prog f [ptr b] h fun u h' => ∃ q s', u = .agg (askC q (askT w s)).toArray ∧ AskO h0.next h' q (askT w s) ∧ Rdr h0 i s' h' := by
 unfold askFn at hf
 unfold askT
 by_cases h0 : w = wGet
 ·
  rw [Ah h0] at hf ⊢; cases hf; exact ⟨⟨inferInstance⟩, ask1_c r hb hib hl⟩
 rw [Ac h0] at hf ⊢
 by_cases h1 : w = wDelete
 ·
  rw [Ah h1] at hf ⊢; cases hf; exact ⟨⟨inferInstance⟩, ask2_c r hb hib hl⟩
 rw [Ac h1] at hf ⊢
 by_cases h2 : w = wPut
 ·
  rw [Ah h2] at hf ⊢; cases hf; exact ⟨⟨inferInstance⟩, ask3_c r hb hib hl⟩
 rw [Ac h2] at hf ⊢
 by_cases h3 : w = wSwap
 ·
  rw [Ah h3] at hf ⊢; cases hf; exact ⟨⟨inferInstance⟩, ask4_c r hb hib hl⟩
 rw [Ac h3] at hf ⊢
 by_cases h4 : w = wFresh
 ·
  rw [Ah h4] at hf ⊢; cases hf; exact ⟨⟨inferInstance⟩, ask5_c r hb hib hl⟩
 rw [Ac h4] at hf ⊢
 by_cases h5 : w = wScan
 ·
  rw [Ah h5] at hf ⊢; cases hf; exact ⟨⟨inferInstance⟩, ask6_c r hb hib hl⟩
 rw [Ac h5] at hf
 cases hf
theorem read_c (k : Int) (hk : 1 ≤ k ∧ k ≤ 13) {h0 h : Heap} {i : Nat} {s : Bytes} (r : Rdr h0 i s h) (hl : s.length ≤ 1000000000) : ACalls prog 48 [ptr i, .int .i64 k] h fun u h' => ∃ q s', u = .agg (actC q (readS k s)).toArray ∧ ((∃ B, ActO B h' q (readS k s)) ∧ (readS k s).keep.length ≤ 140737488351232) ∧ Rdr h0 i s' h' := by
 refine aD func48 rfl rfl ?_
 have l1 := qcl s
 have l2 := qcl (numS s).2
 have l3 := qcl (numS (numS s).2).2
 repeat (first | refine W.w ?_ | refine zz rfl (qac rfl ?_) | refine zz rfl (qax ?_))
 refine aS (h := h.alloc ⟨actC actV0 act0, 40, true⟩) rfl ?_
 have g4 := aB h ⟨actC actV0 act0, 40, true⟩
 have x1 := r.wf.ext ⟨actC actV0 act0, 40, true⟩
 have w1 := r.wf.alloc ⟨actC actV0 act0, 40, true⟩
 have r1 := r.grow x1 w1 (Ci _)
 have nx := r.nx
 generalize h.alloc ⟨actC actV0 act0, 40, true⟩ = H1 at g4 x1 w1 r1 ⊢
 have ln := w1.lt g4
 refine zz rfl (qay (out := actC actV0 { act0 with kind := k }) rfl rfl ?_)
 refine zz rfl (qax ?_)
 refine aJ rfl (qaL (vs := actC actV0 { act0 with kind := k }) rfl rfl rfl rfl rfl ?_)
 refine aS (h := H1.alloc ⟨actC actV0 { act0 with kind := k }, 40, true⟩) rfl ?_
 have g5 := aB H1 ⟨actC actV0 { act0 with kind := k }, 40, true⟩
 have x2 := w1.ext ⟨actC actV0 { act0 with kind := k }, 40, true⟩
 have w2 := w1.alloc ⟨actC actV0 { act0 with kind := k }, 40, true⟩
 have A2 : RdA h0 i s (H1.alloc ⟨actC actV0 { act0 with kind := k }, 40, true⟩) h.next H1.next actV0 { act0 with kind := k } := ⟨r1.grow x2 w2 (Ci _), x2.c _ _ g4, g5, nx, by omega, by omega⟩
 generalize H1.alloc ⟨actC actV0 { act0 with kind := k }, 40, true⟩ = H2 at A2 ⊢
 generalize hb4 : h.next = b4 at A2 ⊢
 generalize hb5 : H1.next = b5 at A2 ⊢
 clear g4 x1 w1 r1 nx ln g5 x2 w2
 by_cases k1 : k = 3 ∨ k = 4 ∨ k = 5
 ·
  have hr : readS k s = { act0 with kind := k, n := (numS s).1 } := by unfold readS; rw [Ah k1]
  rcases k1 with e | e | e <;>
  ·
   repeat (first | refine W.w ?_ | refine aE rfl ?_ | refine aG rfl ?_ | (refine zz rfl ?_; first | refine qac rfl ?_ | refine qaB rfl ?_ | refine qaa rfl ?_ | refine qak rfl rfl rfl (by omega) ?_ | refine qai rfl rfl rfl (by omega) ?_))
   refine zz rfl (qat (evs := [ptr i]) rfl rfl ((qbh A2.rd (by omega)).mono ?_))
   rintro _ _ ⟨rfl, rfl⟩
   have B3 := A2.num (numS s).2
   generalize H2.set i (rdB (numS s).2) = G3 at B3 ⊢
   repeat (first | refine zz rfl (qan rfl ?_))
   refine aJ rfl (qaw (v := .int .i64 (numS s).1) rfl rfl rfl B3.g5 rfl (by show 4 < 33; omega) ?_)
   refine aS (h := G3.set b5 ⟨actC actV0 ({ act0 with kind := k, n := (numS s).1 }), 40, true⟩) rfl ?_
   have A3 := B3.put actV0 ({ act0 with kind := k, n := (numS s).1 })
   generalize G3.set b5 ⟨actC actV0 ({ act0 with kind := k, n := (numS s).1 }), 40, true⟩ = H3 at A3 ⊢
   have O3 : ActO h.next H3 actV0 ({ act0 with kind := k, n := (numS s).1 }) := cR _ _ _ rfl rfl rfl
   repeat (first | refine W.w ?_ | refine zz rfl (qam (sz := 33) rfl rfl A3.g5 (Aa _) ?_) | refine aJ rfl (qaq (vs := actC (actV0) ({ act0 with kind := k, n := (numS s).1 })) rfl rfl rfl (qaO (O3.r (Ao _))) A3.g4 rfl ?_))
   exact ⟨_, bI rfl rfl rfl (aF _ _ _) (Aa _), actV0, _, by rw [hr]; rfl, by rw [hr]; exact ⟨⟨_, cH O3 A3.g4 (Aj rfl) (Aj rfl)⟩, (Ao _)⟩, A3.rd.put A3.n4 (A3.rd.wf.lt A3.g4) _⟩
 by_cases k2 : k = 11
 ·
  have hr : readS k s = { act0 with kind := k, client := (numS s).1, node := (numS (numS s).2).1, group := (numS (numS (numS s).2).2).1 } := by subst k2; rfl
  repeat (first | refine W.w ?_ | refine aE rfl ?_ | refine aG rfl ?_ | (refine zz rfl ?_; first | refine qac rfl ?_ | refine qaB rfl ?_ | refine qaa rfl ?_ | refine qak rfl rfl rfl (by omega) ?_ | refine qai rfl rfl rfl (by omega) ?_))
  refine zz rfl (qat (evs := [ptr i]) rfl rfl ((qbh A2.rd (by omega)).mono ?_))
  rintro _ _ ⟨rfl, rfl⟩
  have B3 := A2.num (numS s).2
  generalize H2.set i (rdB (numS s).2) = G3 at B3 ⊢
  repeat (first | refine zz rfl (qan rfl ?_))
  refine aJ rfl (qaw (v := .int .i64 (numS s).1) rfl rfl rfl B3.g5 rfl (by show 3 < 33; omega) ?_)
  refine aS (h := G3.set b5 ⟨actC actV0 ({ act0 with kind := k, client := (numS s).1 }), 40, true⟩) rfl ?_
  have A3 := B3.put actV0 ({ act0 with kind := k, client := (numS s).1 })
  generalize G3.set b5 ⟨actC actV0 ({ act0 with kind := k, client := (numS s).1 }), 40, true⟩ = H3 at A3 ⊢
  repeat (first | refine W.w ?_ | refine zz rfl (qaB rfl ?_))
  refine zz rfl (qat (evs := [ptr i]) rfl rfl ((qbh A3.rd (by omega)).mono ?_))
  rintro _ _ ⟨rfl, rfl⟩
  have B4 := A3.num (numS (numS s).2).2
  generalize H3.set i (rdB (numS (numS s).2).2) = G4 at B4 ⊢
  repeat (first | refine zz rfl (qan rfl ?_))
  refine aJ rfl (qaw (v := .int .i64 (numS (numS s).2).1) rfl rfl rfl B4.g5 rfl (by show 1 < 33; omega) ?_)
  refine aS (h := G4.set b5 ⟨actC actV0 ({ act0 with kind := k, client := (numS s).1, node := (numS (numS s).2).1 }), 40, true⟩) rfl ?_
  have A4 := B4.put actV0 ({ act0 with kind := k, client := (numS s).1, node := (numS (numS s).2).1 })
  generalize G4.set b5 ⟨actC actV0 ({ act0 with kind := k, client := (numS s).1, node := (numS (numS s).2).1 }), 40, true⟩ = H4 at A4 ⊢
  repeat (first | refine W.w ?_ | refine aG rfl ?_ | (refine zz rfl ?_; first | refine qac rfl ?_ | refine qaB rfl ?_ | refine qaa rfl ?_ | refine qai rfl rfl rfl (by omega) ?_))
  refine zz rfl (qat (evs := [ptr i]) rfl rfl ((qbh A4.rd (by omega)).mono ?_))
  rintro _ _ ⟨rfl, rfl⟩
  have B5 := A4.num (numS (numS (numS s).2).2).2
  generalize H4.set i (rdB (numS (numS (numS s).2).2).2) = G5 at B5 ⊢
  repeat (first | refine zz rfl (qan rfl ?_))
  refine aJ rfl (qaw (v := .int .i64 (numS (numS (numS s).2).2).1) rfl rfl rfl B5.g5 rfl (by show 2 < 33; omega) ?_)
  refine aS (h := G5.set b5 ⟨actC actV0 ({ act0 with kind := k, client := (numS s).1, node := (numS (numS s).2).1, group := (numS (numS (numS s).2).2).1 }), 40, true⟩) rfl ?_
  have A5 := B5.put actV0 ({ act0 with kind := k, client := (numS s).1, node := (numS (numS s).2).1, group := (numS (numS (numS s).2).2).1 })
  generalize G5.set b5 ⟨actC actV0 ({ act0 with kind := k, client := (numS s).1, node := (numS (numS s).2).1, group := (numS (numS (numS s).2).2).1 }), 40, true⟩ = H5 at A5 ⊢
  have O5 : ActO h.next H5 actV0 ({ act0 with kind := k, client := (numS s).1, node := (numS (numS s).2).1, group := (numS (numS (numS s).2).2).1 }) := cR _ _ _ rfl rfl rfl
  repeat (first | refine W.w ?_ | refine aG rfl ?_ | refine aJ rfl (qaq (vs := actC (actV0) ({ act0 with kind := k, client := (numS s).1, node := (numS (numS s).2).1, group := (numS (numS (numS s).2).2).1 })) rfl rfl rfl (qaO (O5.r (Ao _))) A5.g4 rfl ?_) | (refine zz rfl ?_; first | refine qac rfl ?_ | refine qai rfl rfl rfl (by omega) ?_ | refine qam (sz := 33) rfl rfl A5.g5 (Aa _) ?_))
  exact ⟨_, bI rfl rfl rfl (aF _ _ _) (Aa _), actV0, _, by rw [hr]; rfl, by rw [hr]; exact ⟨⟨_, cH O5 A5.g4 (Aj rfl) (Aj rfl)⟩, (Ao _)⟩, A5.rd.put A5.n4 (A5.rd.wf.lt A5.g4) _⟩
 by_cases k3 : k = 10
 ·
  have hr0 : readS k s = { act0 with kind := k, client := (numS s).1, node := (numS (numS s).2).1, group := (numS (numS (numS s).2).2).1, ask := askT (cutS (numS (numS (numS s).2).2).2).1 (cutS (numS (numS (numS s).2).2).2).2 } := by subst k3; rfl
  repeat (first | refine W.w ?_ | refine aE rfl ?_ | refine aG rfl ?_ | (refine zz rfl ?_; first | refine qac rfl ?_ | refine qaB rfl ?_ | refine qaa rfl ?_ | refine qak rfl rfl rfl (by omega) ?_ | refine qai rfl rfl rfl (by omega) ?_))
  refine zz rfl (qat (evs := [ptr i]) rfl rfl ((qbh A2.rd (by omega)).mono ?_))
  rintro _ _ ⟨rfl, rfl⟩
  have B3 := A2.num (numS s).2
  generalize H2.set i (rdB (numS s).2) = G3 at B3 ⊢
  repeat (first | refine zz rfl (qan rfl ?_))
  refine aJ rfl (qaw (v := .int .i64 (numS s).1) rfl rfl rfl B3.g5 rfl (by show 3 < 33; omega) ?_)
  refine aS (h := G3.set b5 ⟨actC actV0 ({ act0 with kind := k, client := (numS s).1 }), 40, true⟩) rfl ?_
  have A3 := B3.put actV0 ({ act0 with kind := k, client := (numS s).1 })
  generalize G3.set b5 ⟨actC actV0 ({ act0 with kind := k, client := (numS s).1 }), 40, true⟩ = H3 at A3 ⊢
  repeat (first | refine W.w ?_ | refine zz rfl (qaB rfl ?_))
  refine zz rfl (qat (evs := [ptr i]) rfl rfl ((qbh A3.rd (by omega)).mono ?_))
  rintro _ _ ⟨rfl, rfl⟩
  have B4 := A3.num (numS (numS s).2).2
  generalize H3.set i (rdB (numS (numS s).2).2) = G4 at B4 ⊢
  repeat (first | refine zz rfl (qan rfl ?_))
  refine aJ rfl (qaw (v := .int .i64 (numS (numS s).2).1) rfl rfl rfl B4.g5 rfl (by show 1 < 33; omega) ?_)
  refine aS (h := G4.set b5 ⟨actC actV0 ({ act0 with kind := k, client := (numS s).1, node := (numS (numS s).2).1 }), 40, true⟩) rfl ?_
  have A4 := B4.put actV0 ({ act0 with kind := k, client := (numS s).1, node := (numS (numS s).2).1 })
  generalize G4.set b5 ⟨actC actV0 ({ act0 with kind := k, client := (numS s).1, node := (numS (numS s).2).1 }), 40, true⟩ = H4 at A4 ⊢
  repeat (first | refine W.w ?_ | refine aG rfl ?_ | (refine zz rfl ?_; first | refine qac rfl ?_ | refine qaB rfl ?_ | refine qaa rfl ?_ | refine qai rfl rfl rfl (by omega) ?_))
  refine zz rfl (qat (evs := [ptr i]) rfl rfl ((qbh A4.rd (by omega)).mono ?_))
  rintro _ _ ⟨rfl, rfl⟩
  have B5 := A4.num (numS (numS (numS s).2).2).2
  generalize H4.set i (rdB (numS (numS (numS s).2).2).2) = G5 at B5 ⊢
  repeat (first | refine zz rfl (qan rfl ?_))
  refine aJ rfl (qaw (v := .int .i64 (numS (numS (numS s).2).2).1) rfl rfl rfl B5.g5 rfl (by show 2 < 33; omega) ?_)
  refine aS (h := G5.set b5 ⟨actC actV0 ({ act0 with kind := k, client := (numS s).1, node := (numS (numS s).2).1, group := (numS (numS (numS s).2).2).1 }), 40, true⟩) rfl ?_
  have A5 := B5.put actV0 ({ act0 with kind := k, client := (numS s).1, node := (numS (numS s).2).1, group := (numS (numS (numS s).2).2).1 })
  generalize G5.set b5 ⟨actC actV0 ({ act0 with kind := k, client := (numS s).1, node := (numS (numS s).2).1, group := (numS (numS (numS s).2).2).1 }), 40, true⟩ = H5 at A5 ⊢
  repeat (first | refine W.w ?_ | refine aE rfl ?_ | (refine zz rfl ?_; first | refine qac rfl ?_ | refine qaB rfl ?_ | refine qak rfl rfl rfl (by omega) ?_))
  refine zz rfl (qat (evs := [ptr i]) rfl rfl ((rasks_c i H5).wf_post.mono ?_))
  rintro _ G0 ⟨⟨m, bx, rfl, F⟩, wfG, nG⟩
  have AG : RdA h0 i ((numS (numS (numS s).2).2).2) G0 b4 b5 actV0 ({ act0 with kind := k, client := (numS s).1, node := (numS (numS s).2).1, group := (numS (numS (numS s).2).2).1 }) := A5.over (A5.rd.self.grow F.ext wfG nG)
  have nbx : bx ≠ i := fun e => by have := F.nb; have := A5.rd.lt; have := A5.rd.nx; omega
  have fbx := F.box
  obtain ⟨kv, ck, hm, hget⟩ := F.map
  repeat (first | refine zz rfl (qaB rfl ?_))
  refine zz rfl (qat (evs := [ptr i]) rfl rfl ((qcW AG.rd (by omega)).mono ?_))
  rintro _ _ ⟨rfl, rfl⟩
  have AN := AG.num (cutS ((numS (numS (numS s).2).2).2)).2
  have hm1 : (G0.set i (rdB (cutS ((numS (numS (numS s).2).2).2)).2)).obj m = some (.map (ents kv) ck) := hm
  have fb1 : (G0.set i (rdB (cutS ((numS (numS (numS s).2).2).2)).2)).get bx = some (pB i) := (aH nbx).trans fbx
  have hcl := (qbu ((numS (numS (numS s).2).2).2)).2
  generalize G0.set i (rdB (cutS ((numS (numS (numS s).2).2).2)).2) = G1 at AN hm1 fb1 ⊢
  generalize hw : (cutS ((numS (numS (numS s).2).2).2)).1 = w
  rw [hw] at hr0
  cases hf : askFn w with
  | some fi =>
   have hr := hr0
   repeat (first | refine W.w ?_ | refine aE rfl ?_ | (refine zz rfl ?_; first | refine qbl rfl ?_ | refine qbj rfl ?_ | refine qbx (u := fnB fi bx) rfl rfl hm1 (by simp [plainV, scalar]) (by rw [hget, askF_fn, hf]; rfl) ?_ | refine qcU rfl rfl ?_))
   obtain ⟨⟨fc⟩, ca⟩ := ask_any hf AN.rd.self fb1 nbx (by omega)
   refine zz rfl (qat (fc := fc) (evs := [ptr bx]) rfl rfl (ca.mono ?_))
   rintro _ G2 ⟨q, s', rfl, oq, r2⟩
   have B2 := AN.over r2
   repeat (first | refine zz rfl (qan rfl ?_))
   refine aJ rfl (qbt (vs := (askC q (askT w (cutS ((numS (numS (numS s).2).2).2)).2)).toArray) rfl rfl (by simpa using qde oq.r) rfl B2.g5 rfl (by show 5 + 7 ≤ 33; omega) ?_)
   refine aS (h := G2.set b5 ⟨actC ({ actV0 with q := q }) ({ act0 with kind := k, client := (numS s).1, node := (numS (numS s).2).1, group := (numS (numS (numS s).2).2).1, ask := askT w (cutS ((numS (numS (numS s).2).2).2)).2 }), 40, true⟩) rfl ?_
   have A9 := B2.put ({ actV0 with q := q }) ({ act0 with kind := k, client := (numS s).1, node := (numS (numS s).2).1, group := (numS (numS (numS s).2).2).1, ask := askT w (cutS ((numS (numS (numS s).2).2).2)).2 })
   have O9 : ActO G1.next (G2.set b5 ⟨actC ({ actV0 with q := q }) ({ act0 with kind := k, client := (numS s).1, node := (numS (numS s).2).1, group := (numS (numS (numS s).2).2).1, ask := askT w (cutS ((numS (numS (numS s).2).2).2)).2 }), 40, true⟩) ({ actV0 with q := q }) ({ act0 with kind := k, client := (numS s).1, node := (numS (numS s).2).1, group := (numS (numS (numS s).2).2).1, ask := askT w (cutS ((numS (numS (numS s).2).2).2)).2 }) := cH (b := ⟨actC actV0 _, 40, true⟩) ⟨oq, CmdO.nil _ _, ON.nil _ _ _ _⟩ B2.g5 (Aj rfl) (Aj rfl)
   generalize G2.set b5 ⟨actC ({ actV0 with q := q }) ({ act0 with kind := k, client := (numS s).1, node := (numS (numS s).2).1, group := (numS (numS (numS s).2).2).1, ask := askT w (cutS ((numS (numS (numS s).2).2).2)).2 }), 40, true⟩ = H9 at A9 O9 ⊢
   repeat (first | refine W.w ?_ | refine zz rfl (qam (sz := 33) rfl rfl A9.g5 (Aa _) ?_) | refine aJ rfl (qaq (vs := actC ({ actV0 with q := q }) ({ act0 with kind := k, client := (numS s).1, node := (numS (numS s).2).1, group := (numS (numS (numS s).2).2).1, ask := askT w (cutS ((numS (numS (numS s).2).2).2)).2 })) rfl rfl rfl (qaO (O9.r (Ao _))) A9.g4 rfl ?_))
   exact ⟨_, bI rfl rfl rfl (aF _ _ _) (Aa _), { actV0 with q := q }, _, by rw [hr]; rfl, by rw [hr]; exact ⟨⟨_, cH O9 A9.g4 (Aj rfl) (Aj rfl)⟩, (Ao _)⟩, A9.rd.put A9.n4 (A9.rd.wf.lt A9.g4) _⟩
  | none =>
   rw [ask_no hf] at hr0
   have hr : readS k s = { act0 with kind := k, client := (numS s).1, node := (numS (numS s).2).1, group := (numS (numS (numS s).2).2).1 } := hr0
   repeat (first | refine W.w ?_ | refine aG rfl ?_ | (refine zz rfl ?_; first | refine qbx (u := .nilFunc) rfl rfl hm1 (by simp [plainV, scalar]) (by rw [hget, askF_fn, hf]; rfl) ?_ | refine qal (v := .nilFunc) rfl ?_ | refine qao (v := .nilFunc) rfl ?_ | refine qcY rfl rfl ?_))
   have AN0 := AN
   have O0 : ActO h.next G1 actV0 ({ act0 with kind := k, client := (numS s).1, node := (numS (numS s).2).1, group := (numS (numS (numS s).2).2).1 }) := cR _ _ _ rfl rfl rfl
   repeat (first | refine W.w ?_ | refine zz rfl (qam (sz := 33) rfl rfl AN0.g5 (Aa _) ?_) | refine aJ rfl (qaq (vs := actC actV0 ({ act0 with kind := k, client := (numS s).1, node := (numS (numS s).2).1, group := (numS (numS (numS s).2).2).1 })) rfl rfl rfl (qaO (O0.r (Ao _))) AN0.g4 rfl ?_))
   exact ⟨_, bI rfl rfl rfl (aF _ _ _) (Aa _), actV0, _, by rw [hr]; rfl, by rw [hr]; exact ⟨⟨_, cH O0 AN0.g4 (Aj rfl) (Aj rfl)⟩, Ao _⟩, AN0.rd.put AN0.n4 (AN0.rd.wf.lt AN0.g4) _⟩
 by_cases k4 : k = 9
 ·
  have hr0 : readS k s = { act0 with kind := k, node := (numS s).1, cmd := planT (cutS (numS s).2).1 (cutS (numS s).2).2 } := by subst k4; rfl
  repeat (first | refine W.w ?_ | refine aG rfl ?_ | (refine zz rfl ?_; first | refine qac rfl ?_ | refine qaB rfl ?_ | refine qaa rfl ?_ | refine qai rfl rfl rfl (by omega) ?_))
  refine zz rfl (qat (evs := [ptr i]) rfl rfl ((qbh A2.rd (by omega)).mono ?_))
  rintro _ _ ⟨rfl, rfl⟩
  have B3 := A2.num (numS s).2
  generalize H2.set i (rdB (numS s).2) = G3 at B3 ⊢
  repeat (first | refine zz rfl (qan rfl ?_))
  refine aJ rfl (qaw (v := .int .i64 (numS s).1) rfl rfl rfl B3.g5 rfl (by show 1 < 33; omega) ?_)
  refine aS (h := G3.set b5 ⟨actC actV0 ({ act0 with kind := k, node := (numS s).1 }), 40, true⟩) rfl ?_
  have A3 := B3.put actV0 ({ act0 with kind := k, node := (numS s).1 })
  generalize G3.set b5 ⟨actC actV0 ({ act0 with kind := k, node := (numS s).1 }), 40, true⟩ = H3 at A3 ⊢
  repeat (first | refine W.w ?_ | refine aE rfl ?_ | (refine zz rfl ?_; first | refine qac rfl ?_ | refine qaB rfl ?_ | refine qaa rfl ?_ | refine qak rfl rfl rfl (by omega) ?_))
  refine zz rfl (qat (evs := [ptr i]) rfl rfl ((rplans_c i H3).wf_post.mono ?_))
  rintro _ G0 ⟨⟨m, bx, rfl, F⟩, wfG, nG⟩
  have AG : RdA h0 i ((numS s).2) G0 b4 b5 actV0 ({ act0 with kind := k, node := (numS s).1 }) := A3.over (A3.rd.self.grow F.ext wfG nG)
  have nbx : bx ≠ i := fun e => by have := F.nb; have := A3.rd.lt; have := A3.rd.nx; omega
  have fbx := F.box
  obtain ⟨kv, ck, hm, hget⟩ := F.map
  repeat (first | refine zz rfl (qaB rfl ?_))
  refine zz rfl (qat (evs := [ptr i]) rfl rfl ((qcW AG.rd (by omega)).mono ?_))
  rintro _ _ ⟨rfl, rfl⟩
  have AN := AG.num (cutS ((numS s).2)).2
  have hm1 : (G0.set i (rdB (cutS ((numS s).2)).2)).obj m = some (.map (ents kv) ck) := hm
  have fb1 : (G0.set i (rdB (cutS ((numS s).2)).2)).get bx = some (pB i) := (aH nbx).trans fbx
  have hcl := (qbu ((numS s).2)).2
  generalize G0.set i (rdB (cutS ((numS s).2)).2) = G1 at AN hm1 fb1 ⊢
  generalize hw : (cutS ((numS s).2)).1 = w
  rw [hw] at hr0
  cases hf : planFn w with
  | some fi =>
   have hr := hr0
   repeat (first | refine W.w ?_ | refine aE rfl ?_ | (refine zz rfl ?_; first | refine qbl rfl ?_ | refine qbj rfl ?_ | refine qbx (u := fnB fi bx) rfl rfl hm1 (by simp [plainV, scalar]) (by rw [hget, qiG, hf]; rfl) ?_ | refine qcU rfl rfl ?_))
   obtain ⟨⟨fc⟩, ca⟩ := plan_any hf AN.rd.self fb1 nbx (by omega)
   refine zz rfl (qat (fc := fc) (evs := [ptr bx]) rfl rfl (ca.mono ?_))
   rintro _ G2 ⟨q, s', rfl, oq, r2⟩
   have B2 := AN.over r2
   repeat (first | refine zz rfl (qan rfl ?_))
   refine aJ rfl (qbt (vs := (cmdC q (planT w (cutS ((numS s).2)).2)).toArray) rfl rfl (by simpa using qa4 oq.r) rfl B2.g5 rfl (by show 12 + 20 ≤ 33; omega) ?_)
   refine aS (h := G2.set b5 ⟨actC ({ actV0 with c := q }) ({ act0 with kind := k, node := (numS s).1, cmd := planT w (cutS ((numS s).2)).2 }), 40, true⟩) rfl ?_
   have A9 := B2.put ({ actV0 with c := q }) ({ act0 with kind := k, node := (numS s).1, cmd := planT w (cutS ((numS s).2)).2 })
   have O9 : ActO G1.next (G2.set b5 ⟨actC ({ actV0 with c := q }) ({ act0 with kind := k, node := (numS s).1, cmd := planT w (cutS ((numS s).2)).2 }), 40, true⟩) ({ actV0 with c := q }) ({ act0 with kind := k, node := (numS s).1, cmd := planT w (cutS ((numS s).2)).2 }) := cH (b := ⟨actC actV0 _, 40, true⟩) ⟨AskO.nil _ _, oq, ON.nil _ _ _ _⟩ B2.g5 (Aj rfl) (Aj rfl)
   generalize G2.set b5 ⟨actC ({ actV0 with c := q }) ({ act0 with kind := k, node := (numS s).1, cmd := planT w (cutS ((numS s).2)).2 }), 40, true⟩ = H9 at A9 O9 ⊢
   repeat (first | refine W.w ?_ | refine aG rfl ?_ | refine aJ rfl (qaq (vs := actC ({ actV0 with c := q }) ({ act0 with kind := k, node := (numS s).1, cmd := planT w (cutS ((numS s).2)).2 })) rfl rfl rfl (qaO (O9.r (Ao _))) A9.g4 rfl ?_) | (refine zz rfl ?_; first | refine qac rfl ?_ | refine qai rfl rfl rfl (by omega) ?_ | refine qam (sz := 33) rfl rfl A9.g5 (Aa _) ?_))
   exact ⟨_, bI rfl rfl rfl (aF _ _ _) (Aa _), { actV0 with c := q }, _, by rw [hr]; rfl, by rw [hr]; exact ⟨⟨_, cH O9 A9.g4 (Aj rfl) (Aj rfl)⟩, (Ao _)⟩, A9.rd.put A9.n4 (A9.rd.wf.lt A9.g4) _⟩
  | none =>
   rw [plan_no hf] at hr0
   have hr : readS k s = { act0 with kind := k, node := (numS s).1 } := hr0
   repeat (first | refine W.w ?_ | refine aG rfl ?_ | (refine zz rfl ?_; first | refine qac rfl ?_ | refine qai rfl rfl rfl (by omega) ?_ | refine qbx (u := .nilFunc) rfl rfl hm1 (by simp [plainV, scalar]) (by rw [hget, qiG, hf]; rfl) ?_ | refine qal (v := .nilFunc) rfl ?_ | refine qao (v := .nilFunc) rfl ?_ | refine qcY rfl rfl ?_))
   have AN0 := AN
   have O0 : ActO h.next G1 actV0 ({ act0 with kind := k, node := (numS s).1 }) := cR _ _ _ rfl rfl rfl
   repeat (first | refine W.w ?_ | refine zz rfl (qam (sz := 33) rfl rfl AN0.g5 (Aa _) ?_) | refine aJ rfl (qaq (vs := actC actV0 ({ act0 with kind := k, node := (numS s).1 })) rfl rfl rfl (qaO (O0.r (Ao _))) AN0.g4 rfl ?_))
   exact ⟨_, bI rfl rfl rfl (aF _ _ _) (Aa _), actV0, _, by rw [hr]; rfl, by rw [hr]; exact ⟨⟨_, cH O0 AN0.g4 (Aj rfl) (Aj rfl)⟩, Ao _⟩, AN0.rd.put AN0.n4 (AN0.rd.wf.lt AN0.g4) _⟩
 by_cases k5 : k = 12
 ·
  have hr : readS k s = { act0 with kind := k, node := (numS s).1, keep := keepS 129 (numS s).2 } := by subst k5; rfl
  repeat (first | refine W.w ?_ | refine aG rfl ?_ | (refine zz rfl ?_; first | refine qac rfl ?_ | refine qaB rfl ?_ | refine qaa rfl ?_ | refine qai rfl rfl rfl (by omega) ?_))
  refine zz rfl (qat (evs := [ptr i]) rfl rfl ((qbh A2.rd (by omega)).mono ?_))
  rintro _ _ ⟨rfl, rfl⟩
  have B3 := A2.num (numS s).2
  generalize H2.set i (rdB (numS s).2) = G3 at B3 ⊢
  repeat (first | refine zz rfl (qan rfl ?_))
  refine aJ rfl (qaw (v := .int .i64 (numS s).1) rfl rfl rfl B3.g5 rfl (by show 1 < 33; omega) ?_)
  refine aS (h := G3.set b5 ⟨actC actV0 ({ act0 with kind := k, node := (numS s).1 }), 40, true⟩) rfl ?_
  have A3 := B3.put actV0 ({ act0 with kind := k, node := (numS s).1 })
  generalize G3.set b5 ⟨actC actV0 ({ act0 with kind := k, node := (numS s).1 }), 40, true⟩ = H3 at A3 ⊢
  repeat (first | refine W.w ?_ | refine aE rfl ?_ | refine aG rfl ?_ | (refine zz rfl ?_; first | refine qac rfl ?_ | refine qaB rfl ?_ | refine qaa rfl ?_ | refine qak rfl rfl rfl (by omega) ?_ | refine qai rfl rfl rfl (by omega) ?_))
  refine zz rfl (qat (evs := [ptr i]) rfl rfl ((keep_c A3.rd.self (by omega)).mono ?_))
  rintro u G2 ⟨ru, ou, nu, s', r2⟩
  have B2 := A3.over r2
  repeat (first | refine zz rfl (qan rfl ?_))
  refine aJ rfl (qaw (v := u) rfl rfl ou B2.g5 rfl (by show 32 < 33; omega) ?_)
  refine aS (h := G2.set b5 ⟨actC { actV0 with k := u } ({ act0 with kind := k, node := (numS s).1, keep := keepS 129 (numS s).2 }), 40, true⟩) rfl ?_
  have A9 := B2.put { actV0 with k := u } ({ act0 with kind := k, node := (numS s).1, keep := keepS 129 (numS s).2 })
  have O9 : ActO H3.next (G2.set b5 ⟨actC { actV0 with k := u } ({ act0 with kind := k, node := (numS s).1, keep := keepS 129 (numS s).2 }), 40, true⟩) { actV0 with k := u } ({ act0 with kind := k, node := (numS s).1, keep := keepS 129 (numS s).2 }) := cH (b := ⟨actC actV0 _, 40, true⟩) ⟨AskO.nil _ _, CmdO.nil _ _, nu⟩ B2.g5 (Aj rfl) (Aj rfl)
  generalize G2.set b5 ⟨actC { actV0 with k := u } ({ act0 with kind := k, node := (numS s).1, keep := keepS 129 (numS s).2 }), 40, true⟩ = H9 at A9 O9 ⊢
  repeat (first | refine W.w ?_ | refine aG rfl ?_ | refine aJ rfl (qaq (vs := actC ({ actV0 with k := u }) ({ act0 with kind := k, node := (numS s).1, keep := keepS 129 (numS s).2 })) rfl rfl rfl (qaO (O9.r ru.len)) A9.g4 rfl ?_) | (refine zz rfl ?_; first | refine qac rfl ?_ | refine qai rfl rfl rfl (by omega) ?_ | refine qam (sz := 33) rfl rfl A9.g5 (Aa _) ?_))
  exact ⟨_, bI rfl rfl rfl (aF _ _ _) (Aa _), { actV0 with k := u }, _, by rw [hr]; rfl, by rw [hr]; exact ⟨⟨_, cH O9 A9.g4 (Aj rfl) (Aj rfl)⟩, ru.len⟩, A9.rd.put A9.n4 (A9.rd.wf.lt A9.g4) _⟩
 by_cases k6 : k = 8 ∨ k = 13
 ·
  have hr : readS k s = { act0 with kind := k, node := (numS s).1 } := by rcases k6 with rfl | rfl <;> rfl
  rcases k6 with e | e <;>
  ·
   repeat (first | refine W.w ?_ | refine aG rfl ?_ | (refine zz rfl ?_; first | refine qac rfl ?_ | refine qaB rfl ?_ | refine qaa rfl ?_ | refine qai rfl rfl rfl (by omega) ?_))
   refine zz rfl (qat (evs := [ptr i]) rfl rfl ((qbh A2.rd (by omega)).mono ?_))
   rintro _ _ ⟨rfl, rfl⟩
   have B3 := A2.num (numS s).2
   generalize H2.set i (rdB (numS s).2) = G3 at B3 ⊢
   repeat (first | refine zz rfl (qan rfl ?_))
   refine aJ rfl (qaw (v := .int .i64 (numS s).1) rfl rfl rfl B3.g5 rfl (by show 1 < 33; omega) ?_)
   refine aS (h := G3.set b5 ⟨actC actV0 ({ act0 with kind := k, node := (numS s).1 }), 40, true⟩) rfl ?_
   have A3 := B3.put actV0 ({ act0 with kind := k, node := (numS s).1 })
   generalize G3.set b5 ⟨actC actV0 ({ act0 with kind := k, node := (numS s).1 }), 40, true⟩ = H3 at A3 ⊢
   have O3 : ActO h.next H3 actV0 ({ act0 with kind := k, node := (numS s).1 }) := cR _ _ _ rfl rfl rfl
   repeat (first | refine W.w ?_ | refine aE rfl ?_ | refine aG rfl ?_ | refine aJ rfl (qaq (vs := actC (actV0) ({ act0 with kind := k, node := (numS s).1 })) rfl rfl rfl (qaO (O3.r (Ao _))) A3.g4 rfl ?_) | (refine zz rfl ?_; first | refine qac rfl ?_ | refine qaa rfl ?_ | refine qak rfl rfl rfl (by omega) ?_ | refine qai rfl rfl rfl (by omega) ?_ | refine qam (sz := 33) rfl rfl A3.g5 (Aa _) ?_))
   exact ⟨_, bI rfl rfl rfl (aF _ _ _) (Aa _), actV0, _, by rw [hr]; rfl, by rw [hr]; exact ⟨⟨_, cH O3 A3.g4 (Aj rfl) (Aj rfl)⟩, (Ao _)⟩, A3.rd.put A3.n4 (A3.rd.wf.lt A3.g4) _⟩
 ·
  have k7 : k = 1 ∨ k = 2 ∨ k = 6 ∨ k = 7 := by omega
  have hr : readS k s = { act0 with kind := k, node := (numS s).1, group := (numS (numS s).2).1 } := by rcases k7 with rfl | rfl | rfl | rfl <;> rfl
  repeat (first | refine W.w ?_ | refine aG rfl ?_ | (refine zz rfl ?_; first | refine qac rfl ?_ | refine qaB rfl ?_ | refine qaa rfl ?_ | refine qai rfl rfl rfl (by omega) ?_))
  refine zz rfl (qat (evs := [ptr i]) rfl rfl ((qbh A2.rd (by omega)).mono ?_))
  rintro _ _ ⟨rfl, rfl⟩
  have B3 := A2.num (numS s).2
  generalize H2.set i (rdB (numS s).2) = G3 at B3 ⊢
  repeat (first | refine zz rfl (qan rfl ?_))
  refine aJ rfl (qaw (v := .int .i64 (numS s).1) rfl rfl rfl B3.g5 rfl (by show 1 < 33; omega) ?_)
  refine aS (h := G3.set b5 ⟨actC actV0 ({ act0 with kind := k, node := (numS s).1 }), 40, true⟩) rfl ?_
  have A3 := B3.put actV0 ({ act0 with kind := k, node := (numS s).1 })
  generalize G3.set b5 ⟨actC actV0 ({ act0 with kind := k, node := (numS s).1 }), 40, true⟩ = H3 at A3 ⊢
  repeat (first | refine W.w ?_ | refine aG rfl ?_ | (refine zz rfl ?_; first | refine qac rfl ?_ | refine qaB rfl ?_ | refine qaa rfl ?_ | refine qai rfl rfl rfl (by omega) ?_))
  refine zz rfl (qat (evs := [ptr i]) rfl rfl ((qbh A3.rd (by omega)).mono ?_))
  rintro _ _ ⟨rfl, rfl⟩
  have B4 := A3.num (numS (numS s).2).2
  generalize H3.set i (rdB (numS (numS s).2).2) = G4 at B4 ⊢
  repeat (first | refine zz rfl (qan rfl ?_))
  refine aJ rfl (qaw (v := .int .i64 (numS (numS s).2).1) rfl rfl rfl B4.g5 rfl (by show 2 < 33; omega) ?_)
  refine aS (h := G4.set b5 ⟨actC actV0 ({ act0 with kind := k, node := (numS s).1, group := (numS (numS s).2).1 }), 40, true⟩) rfl ?_
  have A4 := B4.put actV0 ({ act0 with kind := k, node := (numS s).1, group := (numS (numS s).2).1 })
  generalize G4.set b5 ⟨actC actV0 ({ act0 with kind := k, node := (numS s).1, group := (numS (numS s).2).1 }), 40, true⟩ = H4 at A4 ⊢
  have O4 : ActO h.next H4 actV0 ({ act0 with kind := k, node := (numS s).1, group := (numS (numS s).2).1 }) := cR _ _ _ rfl rfl rfl
  repeat (first | refine W.w ?_ | refine aG rfl ?_ | refine aJ rfl (qaq (vs := actC (actV0) ({ act0 with kind := k, node := (numS s).1, group := (numS (numS s).2).1 })) rfl rfl rfl (qaO (O4.r (Ao _))) A4.g4 rfl ?_) | (refine zz rfl ?_; first | refine qac rfl ?_ | refine qai rfl rfl rfl (by omega) ?_ | refine qam (sz := 33) rfl rfl A4.g5 (Aa _) ?_))
  exact ⟨_, bI rfl rfl rfl (aF _ _ _) (Aa _), actV0, _, by rw [hr]; rfl, by rw [hr]; exact ⟨⟨_, cH O4 A4.g4 (Aj rfl) (Aj rfl)⟩, (Ao _)⟩, A4.rd.put A4.n4 (A4.rd.wf.lt A4.g4) _⟩
end Go.Proofs.YtigmojilaadbhaaGreatDoor
/- . -/
namespace Go.Proofs.YtigmojilaadbhaaGreatDoor
open Go Go.Eng Go.Pln Go.Lib Go.Proofs.Tryz
attribute [local irreducible] AWp AL DAL AOp
instance i_text : FnC prog 43 := ⟨Tryz.f43, func43, by kernel_rfl, by kernel_rfl⟩
instance i_join : FnC prog 94 := ⟨Tryz.f94, func94, by kernel_rfl, by kernel_rfl⟩
instance i_TyD_interface_ : TyD prog 20 (.interface #[]) := ⟨underlying20⟩
instance i_TyI_interface_ : TyI prog 20 1 16 .nilIface := ⟨qaV (by kernel_rfl), rfl, rfl⟩
instance qhE : TyD prog 145 (.slice 20) := ⟨underlying145⟩
inductive WArg where
 | num (n : Int)
 | raw (v : Value) (b : Bytes)
 | txt (s : Bytes)
def argV : WArg → Value
 | .num n => .iface 3 (.int .i64 n)
 | .raw v _ => .iface 27 v
 | .txt s => .iface 9 (str s)
def argW : WArg → Bytes
 | .num n => itoa n
 | .raw _ b => wordM b
 | .txt s => s
def ArgR (h : Heap) : WArg → Prop
 | .num n => I64 n
 | .raw v b => RB h v b ∧ b.length ≤ 100000000
 | .txt _ => True
theorem ArgR.ext {h h' : Heap} (hx : Ext h h') : ∀ {x : WArg}, ArgR h x → ArgR h' x
 | .num _, r => r
 | .raw _ _, r => ⟨r.1.ext hx, r.2⟩
 | .txt _, r => r
abbrev strs (l : List Bytes) : List Value := l.map fun s => str s
theorem qfZ (l : List Bytes) (s : Bytes) : strs l ++ [str s] = strs (l ++ [s]) := by simp
theorem qbV {α β : Type} {f : α → β} {l : List α} {k : Nat} {x : α} (hx : l[k]? = some x) : (l.take (k + 1)).map f = (l.take k).map f ++ [f x] := by
 rw [Bf, hx]
 simp
theorem text_c (v : Value) (l : List WArg) (h : Heap) (t : Tabs h) (r : RS h v (l.map argV)) (ra : ∀ x ∈ l, ArgR h x) (hl : l.length ≤ 1000000) (hj : (joinW (l.map argW)).length ≤ 10000000000) :
  ACalls prog 43 [v] h fun u h' => u = str (joinW (l.map argW)) ∧ h' = h := by
 refine aL fun wf => aO ?_
 refine aD func43 rfl rfl ?_
 obtain ⟨va, vc, hv⟩ := bC r
 have hml : (l.map argV).length = l.length := Ap _
 repeat (first | refine W.w ?_ | (refine zz rfl ?_; first | refine qac rfl ?_ | refine qaR rfl ?_ | refine qah rfl ?_ | refine qal (v := v) rfl ?_ | refine qaz r rfl ?_))
 refine bB (α := Nat × Heap × Value) (fun d => [(3, d.2.2), (9, v), (10, .int .i64 ((l.map argV).length : Nat)), (11, .int .i64 (d.1 : Nat))]) (fun d => d.2.1) (fun d => d.1 ≤ l.length ∧ Ext h d.2.1 ∧ WF d.2.1 ∧ OS h.next d.2.1 9 d.2.2 (strs ((l.take d.1).map argW)) ∧ h.next ≤ d.2.1.next) (fun d => l.length - d.1) (0, h, .slice none 0 0) ⟨Ao _, aU h, wf, bP _ _ _, Aa _⟩
  (aI (aA rfl (aA rfl (aA rfl (aA rfl aN))))) ?_
 rintro ⟨k, H, u⟩ ⟨hk, hxH, wfH, o, nH⟩
 replace hk : k ≤ l.length := hk
 replace hxH : Ext h H := hxH
 replace wfH : WF H := wfH
 replace o : OS h.next H 9 u (strs ((l.take k).map argW)) := o
 replace nH : h.next ≤ H.next := nH
 show AWp _ _ _ _ [(3, u), (9, v), (10, .int .i64 ((l.map argV).length : Nat)), (11, .int .i64 (k : Nat))] H
 by_cases hlt : k < l.length
 ·
  obtain ⟨x, hx⟩ := gX (l := l) (k := k) hlt
  have hx2 : (l.map argV)[((k : Nat) : Int).toNat]? = some (argV x) := by simp [hx]
  have rx := (ra x (Aw hx)).ext hxH
  repeat (first | refine W.w ?_ | refine aE rfl ?_ | refine zz rfl (qak rfl rfl rfl (by omega) ?_) | refine zz rfl (qba (r.ext hxH) rfl rfl (by omega) hx2 ?_))
  intro p hp
  cases x with
  | num n =>
   have ci := qis n H (t.ext hxH) rx.1 rx.2
   repeat (first | refine W.w ?_ | refine aE rfl ?_ | (refine zz rfl ?_; first | refine qac rfl ?_ | refine qad rfl ?_ | refine qar hp rfl rfl ?_ | refine op_taY rfl rfl ?_ | refine qav rfl rfl ?_ | refine qab rfl rfl ci ?_ | refine qal (v := u) rfl ?_ | refine qal (v := argV (.num n)) rfl ?_ | refine qao (v := argV (.num n)) rfl ?_))
   refine zz rfl (qaN [str (argW (.num n))] rfl rfl rfl rfl (by intro u hu; rw [Ax.1 hu]; rfl) ?_)
   obtain ⟨H2, hQ, gr, xr, wr, _⟩ := aq wfH ⟨[str (argW (.num n))], 9, true⟩
   rw [hQ]
   have rr : RS H2 (.slice (some ⟨H.next, 0, some 1⟩) 1 1) [str (argW (.num n))] := bK gr rfl
   have o2 := o.ext xr
   have ln : h.next ≤ H2.next := by have := wr.lt gr; omega
   refine zz rfl (qaX (z := .string ⟨#[]⟩) (B := h.next) (e := 9) rfl wr ln o2 rfl rfl rr.src rfl rfl (by show (strs _).length + 1 ≤ maxLen; rw [Ap]; simp only [maxLen, Ap, Bb]; omega) (by show ((strs _).length + 1) * 16 ≤ _; rw [Ap]; simp only [Ap, Bb]; omega) ?_)
   intro u' H3 o3 k3 wf3 n3
   rw [qfZ, ← qbV hx] at o3
   have x3 := k3.ext o2 wf (Aa _) (hxH.trans xr)
   repeat (first | refine W.w ?_ | (refine zz rfl ?_; first | refine qac rfl ?_ | refine qau rfl rfl (by omega) ?_ | refine qao (by conv => lhs; whnf) ?_))
   exact ⟨(k + 1, H3, u'), ⟨hlt, x3, wf3, o3, by show h.next ≤ H3.next; omega⟩, by show l.length - (k + 1) < l.length - k; omega, aI (aA rfl (aA rfl (aA rfl (aA rfl aN))))⟩
  | raw w b =>
   have cw := word_c w b H rx.1 rx.2
   repeat (first | refine W.w ?_ | refine aE rfl ?_ | refine aG rfl ?_ | (refine zz rfl ?_; first | refine qar hp rfl rfl ?_ | refine op_taN (u := 27) rfl rfl rfl (Aj rfl) ?_ | refine op_taY rfl rfl ?_ | refine qav rfl rfl ?_ | refine qab rfl rfl cw ?_ | refine qal (v := u) rfl ?_ | refine qal (v := argV (.raw w b)) rfl ?_ | refine qao (v := argV (.raw w b)) rfl ?_ | refine qal (v := w) rfl ?_ | refine qao (v := w) rfl ?_))
   refine zz rfl (qaN [str (argW (.raw w b))] rfl rfl rfl rfl (by intro u hu; rw [Ax.1 hu]; rfl) ?_)
   obtain ⟨H2, hQ, gr, xr, wr, _⟩ := aq wfH ⟨[str (argW (.raw w b))], 9, true⟩
   rw [hQ]
   have rr : RS H2 (.slice (some ⟨H.next, 0, some 1⟩) 1 1) [str (argW (.raw w b))] := bK gr rfl
   have o2 := o.ext xr
   have ln : h.next ≤ H2.next := by have := wr.lt gr; omega
   refine zz rfl (qaX (z := .string ⟨#[]⟩) (B := h.next) (e := 9) rfl wr ln o2 rfl rfl rr.src rfl rfl (by show (strs _).length + 1 ≤ maxLen; rw [Ap]; simp only [maxLen, Ap, Bb]; omega) (by show ((strs _).length + 1) * 16 ≤ _; rw [Ap]; simp only [Ap, Bb]; omega) ?_)
   intro u' H3 o3 k3 wf3 n3
   rw [qfZ, ← qbV hx] at o3
   have x3 := k3.ext o2 wf (Aa _) (hxH.trans xr)
   repeat (first | refine W.w ?_ | (refine zz rfl ?_; first | refine qac rfl ?_ | refine qau rfl rfl (by omega) ?_ | refine qao (by conv => lhs; whnf) ?_))
   exact ⟨(k + 1, H3, u'), ⟨hlt, x3, wf3, o3, by show h.next ≤ H3.next; omega⟩, by show l.length - (k + 1) < l.length - k; omega, aI (aA rfl (aA rfl (aA rfl (aA rfl aN))))⟩
  | txt s =>
   repeat (first | refine W.w ?_ | refine aE rfl ?_ | refine aG rfl ?_ | (refine zz rfl ?_; first | refine qaj rfl ?_ | refine qah rfl ?_ | refine qar hp rfl rfl ?_ | refine op_taN (u := 9) rfl rfl rfl (Aj rfl) ?_ | refine op_taY rfl rfl ?_ | refine qav rfl rfl ?_ | refine qal (v := u) rfl ?_ | refine qal (v := argV (.txt s)) rfl ?_ | refine qao (v := argV (.txt s)) rfl ?_))
   refine zz rfl (qaN [str (argW (.txt s))] rfl rfl rfl rfl (by intro u hu; rw [Ax.1 hu]; rfl) ?_)
   obtain ⟨H2, hQ, gr, xr, wr, _⟩ := aq wfH ⟨[str (argW (.txt s))], 9, true⟩
   rw [hQ]
   have rr : RS H2 (.slice (some ⟨H.next, 0, some 1⟩) 1 1) [str (argW (.txt s))] := bK gr rfl
   have o2 := o.ext xr
   have ln : h.next ≤ H2.next := by have := wr.lt gr; omega
   refine zz rfl (qaX (z := .string ⟨#[]⟩) (B := h.next) (e := 9) rfl wr ln o2 rfl rfl rr.src rfl rfl (by show (strs _).length + 1 ≤ maxLen; rw [Ap]; simp only [maxLen, Ap, Bb]; omega) (by show ((strs _).length + 1) * 16 ≤ _; rw [Ap]; simp only [Ap, Bb]; omega) ?_)
   intro u' H3 o3 k3 wf3 n3
   rw [qfZ, ← qbV hx] at o3
   have x3 := k3.ext o2 wf (Aa _) (hxH.trans xr)
   repeat (first | refine W.w ?_ | (refine zz rfl ?_; first | refine qac rfl ?_ | refine qau rfl rfl (by omega) ?_ | refine qao (by conv => lhs; whnf) ?_))
   exact ⟨(k + 1, H3, u'), ⟨hlt, x3, wf3, o3, by show h.next ≤ H3.next; omega⟩, by show l.length - (k + 1) < l.length - k; omega, aI (aA rfl (aA rfl (aA rfl (aA rfl aN))))⟩
 ·
  obtain rfl : k = l.length := by omega
  rw [Au] at o
  have cj := join_c u (l.map argW) H o.rs (by omega) (by rw [Ap]; omega)
  repeat (first | refine aW ?_ | refine aR ?_ | refine aY ?_ | refine aG rfl ?_ | refine aM ?_ | refine aP ?_ | (refine zz rfl ?_; first | refine qah rfl ?_ | refine qai rfl rfl rfl (by omega) ?_ | refine qal (v := u) rfl ?_ | refine qab rfl rfl cj ?_))
  exact ⟨_, aC rfl, rfl, hxH, rfl, rfl⟩
instance i_ask : FnC prog 45 := ⟨Tryz.f45, func45, by kernel_rfl, by kernel_rfl⟩
instance i_plan : FnC prog 44 := ⟨Tryz.f44, func44, by kernel_rfl, by kernel_rfl⟩
def ArgS : WArg → Prop
 | .num _ => True
 | .raw _ b => b.length ≤ 600000
 | .txt s => s.length ≤ 2000000
def ArgsOk (h : Heap) : List WArg → Prop
 | [] => True
 | x :: l => (ArgR h x ∧ ArgS x) ∧ ArgsOk h l
theorem qbU (b : Bytes) : (wordM b).length ≤ 3 * b.length + 1 := by
 unfold wordM
 split
 ·
  simp
 ·
  have := qcT b
  omega
theorem ArgS.len {h : Heap} : ∀ {x : WArg}, ArgR h x → ArgS x → (argW x).length ≤ 2000000
 | .num n, r, _ => by
  have := qbm r.1 r.2
  show (itoa n).length ≤ _
  omega
 | .raw v b, _, s => by
  have := qbU b
  have hs : b.length ≤ 600000 := s
  show (wordM b).length ≤ _
  omega
 | .txt _, _, s => s
theorem qbF (m : Nat) : ∀ (ws : List Bytes), (∀ w ∈ ws, w.length ≤ m) → (joinW ws).length ≤ ws.length * (m + 1)
 | [], _ => by simp [joinW]
 | [w], h => by
  have := h w (by simp)
  simp only [joinW, Ad, Ag]
  omega
 | w :: v :: ws, h => by
  have h1 := h w (by simp)
  have h2 := qbF m (v :: ws) fun x hx => h x (Ay w hx)
  rw [joinW]
  simp only [An, Ad] at h2 ⊢
  rw [Dk (ws.length + 1) 1]
  omega
theorem ArgsOk.mem {h : Heap} : ∀ {l : List WArg}, ArgsOk h l → ∀ x ∈ l, ArgR h x ∧ ArgS x
 | _ :: _, r, _, .head _ => r.1
 | _ :: l, r, x, .tail _ hx => ArgsOk.mem (l := l) r.2 x hx
theorem qa1 (l : List WArg) : ∀ v ∈ l.map argV, oneB v = true := by
 intro u hu
 obtain ⟨x, _, rfl⟩ := Bp.1 hu
 cases x <;> rfl
abbrev rowA (l : List WArg) : Blk := ⟨l.map argV, 20, true⟩
theorem qbs (l : List WArg) (H : Heap) (n : Nat) (hn : l.length = n) (wf : WF H) (t : Tabs H) (ra : ArgsOk H l) (hl : l.length ≤ 1000) :
  ACalls prog 43 [.slice (some ⟨H.next, 0, some 1⟩) n n] (H.alloc (rowA l)) fun u h' => u = str (joinW (l.map argW)) ∧ h' = H.alloc (rowA l) := by
 have hx := wf.ext (rowA l)
 refine text_c _ l _ (t.ext hx) (bK (aB _ _) ((Ap _).trans hn)) (fun x hx2 => (ra.mem x hx2).1.ext hx) (by omega) ?_
 have := qbF 2000000 (l.map argW) fun w hw => by
  obtain ⟨x, hx2, rfl⟩ := Bp.1 hw
  exact ArgS.len (ra.mem x hx2).1 (ra.mem x hx2).2
 rw [Ap] at this
 have h2 : l.length * (2000000 + 1) ≤ 1000 * (2000000 + 1) := Bo _ hl
 omega
theorem qdn {a : AskM} (h : mayAsk a = true) : a.key.length ≤ 24 ∧ a.to.length ≤ 24 ∧ a.value.length ≤ 40 ∧ a.was.length ≤ 40 ∧ 0 ≤ a.most ∧ a.most ≤ 32 ∧ 1 ≤ a.kind ∧ a.kind ≤ 5 := by
 unfold mayAsk at h
 split at h
 ·
  obtain ⟨_, h1, h2, h3, _, h5, h6⟩ := of_decide_eq_true h
  rw [h2, h3, h6]
  simp
  omega
 ·
  split at h
  ·
   obtain ⟨_, h1, h2, h3, _, h5, h6⟩ := of_decide_eq_true h
   rw [h2, h3]
   simp
   omega
  ·
   split at h
   ·
    obtain ⟨_, h1, h2, h3, _, h5, h6⟩ := of_decide_eq_true h
    rw [h5]
    simp
    omega
   ·
    split at h
    ·
     obtain ⟨h1, h2, h3, h4, h5, h6, h7⟩ := of_decide_eq_true h
     rw [h5, h6]
     simp
     omega
    ·
     cases h
theorem qcJ {c : CmdM} (h : mayPlan c = true) : c.key.length ≤ 24 ∧ 0 ≤ c.group ∧ c.group ≤ 5 ∧ 6 ≤ c.kind ∧ c.kind ≤ 8 := by
 unfold mayPlan at h
 split at h
 ·
  obtain ⟨_, h1, h2⟩ := of_decide_eq_true h
  have : c.group = 0 := by rw [h2]; rfl
  omega
 ·
  split at h
  ·
   obtain ⟨h1, h2, h3, _⟩ := of_decide_eq_true h
   omega
  ·
   cases h
theorem askT_c (p : AskV) (a : AskM) (h : Heap) (t : Tabs h) (r : AskR h p a) (hm : mayAsk a = true) : ACalls prog 45 [.agg (askC p a).toArray] h fun u h' => u = str (joinW (askW a)) ∧ h' = h := by
 obtain ⟨l1, l2, l3, l4, l5, l6, l7, l8⟩ := qdn hm
 refine aL fun wf => aO ?_
 refine aD func45 rfl rfl ?_
 repeat (first | refine W.w ?_ | refine zz rfl (qah rfl ?_) | refine zz rfl (qaS rfl (by intro e; cases e) ?_))
 generalize hH : h.alloc _ = H
 have hg : H.get h.next = some ⟨askC p a, 29, true⟩ := hH ▸ aB _ _
 have hx : Ext h H := hH ▸ wf.ext _
 have wfH : WF H := hH ▸ wf.alloc _
 clear hH
 obtain ⟨q1, q2, q3, q4⟩ := r.ext hx
 by_cases k1 : a.kind = 1
 ·
  have he : askW a = [wGet, wordM a.key] := by unfold askW; rw [Ah k1]
  have ct := qbs [.txt wGet, .raw p.k a.key] H 2 rfl wfH (t.ext hx) ⟨⟨trivial, Ab rfl⟩, ⟨⟨q1, by omega⟩, show a.key.length ≤ 600000 by omega⟩, trivial⟩ (by show 2 ≤ 1000; omega)
  repeat (first | refine W.w ?_ | refine aE rfl ?_ | (refine zz rfl ?_; first | refine qaa rfl ?_ | refine qah rfl ?_ | refine qan rfl ?_ | refine qaf rfl rfl hg rfl ?_ | refine qa5 rfl rfl ?_ | refine qak rfl rfl rfl (by omega) ?_ | refine qaN (([.txt wGet, .raw p.k a.key] : List WArg).map argV) rfl rfl rfl rfl (qa1 _) ?_ | refine qab rfl rfl ct ?_))
  exact ⟨_, aC rfl, rfl, hx.trans (wfH.ext _), by rw [he]; rfl, rfl⟩
 by_cases k2 : a.kind = 3
 ·
  have he : askW a = [wDelete, wordM a.key] := by unfold askW; rw [Ac k1, Ah k2]
  have ct := qbs [.txt wDelete, .raw p.k a.key] H 2 rfl wfH (t.ext hx) ⟨⟨trivial, Ab rfl⟩, ⟨⟨q1, by omega⟩, show a.key.length ≤ 600000 by omega⟩, trivial⟩ (by show 2 ≤ 1000; omega)
  repeat (first | refine W.w ?_ | refine aE rfl ?_ | refine aG rfl ?_ | (refine zz rfl ?_; first | refine qaa rfl ?_ | refine qah rfl ?_ | refine qan rfl ?_ | refine qaf rfl rfl hg rfl ?_ | refine qa5 rfl rfl ?_ | refine qak rfl rfl rfl (by omega) ?_ | refine qai rfl rfl rfl (by omega) ?_ | refine qaN (([.txt wDelete, .raw p.k a.key] : List WArg).map argV) rfl rfl rfl rfl (qa1 _) ?_ | refine qab rfl rfl ct ?_))
  exact ⟨_, aC rfl, rfl, hx.trans (wfH.ext _), by rw [he]; rfl, rfl⟩
 by_cases k3 : a.kind = 2
 ·
  have he : askW a = [wPut, wordM a.key, wordM a.value] := by unfold askW; rw [Ac k1, Ac k2, Ah k3]
  have ct := qbs [.txt wPut, .raw p.k a.key, .raw p.v a.value] H 3 rfl wfH (t.ext hx) ⟨⟨trivial, Ab rfl⟩, ⟨⟨q1, by omega⟩, show a.key.length ≤ 600000 by omega⟩, ⟨⟨q3, by omega⟩, show a.value.length ≤ 600000 by omega⟩, trivial⟩ (by show 3 ≤ 1000; omega)
  repeat (first | refine W.w ?_ | refine aE rfl ?_ | refine aG rfl ?_ | (refine zz rfl ?_; first | refine qaa rfl ?_ | refine qah rfl ?_ | refine qan rfl ?_ | refine qaf rfl rfl hg rfl ?_ | refine qa5 rfl rfl ?_ | refine qak rfl rfl rfl (by omega) ?_ | refine qai rfl rfl rfl (by omega) ?_ | refine qaN (([.txt wPut, .raw p.k a.key, .raw p.v a.value] : List WArg).map argV) rfl rfl rfl rfl (qa1 _) ?_ | refine qab rfl rfl ct ?_))
  exact ⟨_, aC rfl, rfl, hx.trans (wfH.ext _), by rw [he]; rfl, rfl⟩
 by_cases k4 : a.kind = 5
 ·
  have he : askW a = [wScan, wordM a.key, wordM a.to, itoa a.most] := by unfold askW; rw [Ac k1, Ac k2, Ac k3, Ah k4]
  have ct := qbs [.txt wScan, .raw p.k a.key, .raw p.t a.to, .num a.most] H 4 rfl wfH (t.ext hx) ⟨⟨trivial, Ab rfl⟩, ⟨⟨q1, by omega⟩, show a.key.length ≤ 600000 by omega⟩, ⟨⟨q2, by omega⟩, show a.to.length ≤ 600000 by omega⟩, ⟨(show I64 a.most from ⟨by omega, by omega⟩), trivial⟩, trivial⟩ (by show 4 ≤ 1000; omega)
  repeat (first | refine W.w ?_ | refine aE rfl ?_ | refine aG rfl ?_ | (refine zz rfl ?_; first | refine qaa rfl ?_ | refine qah rfl ?_ | refine qan rfl ?_ | refine qaf rfl rfl hg rfl ?_ | refine qa5 rfl rfl ?_ | refine qak rfl rfl rfl (by omega) ?_ | refine qai rfl rfl rfl (by omega) ?_ | refine qaN (([.txt wScan, .raw p.k a.key, .raw p.t a.to, .num a.most] : List WArg).map argV) rfl rfl rfl rfl (qa1 _) ?_ | refine qab rfl rfl ct ?_))
  exact ⟨_, aC rfl, rfl, hx.trans (wfH.ext _), by rw [he]; rfl, rfl⟩
 cases hn : a.none with
 | true =>
  rw [show askC p a = askC p { a with none := true } by rw [← hn]] at hg
  have he : askW a = [wFresh, wordM a.key, wordM a.value] := by unfold askW; rw [Ac k1, Ac k2, Ac k3, Ac k4, Ah hn]
  have ct := qbs [.txt wFresh, .raw p.k a.key, .raw p.v a.value] H 3 rfl wfH (t.ext hx) ⟨⟨trivial, Ab rfl⟩, ⟨⟨q1, by omega⟩, show a.key.length ≤ 600000 by omega⟩, ⟨⟨q3, by omega⟩, show a.value.length ≤ 600000 by omega⟩, trivial⟩ (by show 3 ≤ 1000; omega)
  repeat (first | refine W.w ?_ | refine aE rfl ?_ | refine aG rfl ?_ | (refine zz rfl ?_; first | refine qaa rfl ?_ | refine qah rfl ?_ | refine qan rfl ?_ | refine qaf rfl rfl hg rfl ?_ | refine qa5 rfl rfl ?_ | refine qai rfl rfl rfl (by omega) ?_ | refine qaN (([.txt wFresh, .raw p.k a.key, .raw p.v a.value] : List WArg).map argV) rfl rfl rfl rfl (qa1 _) ?_ | refine qab rfl rfl ct ?_))
  exact ⟨_, aC rfl, rfl, hx.trans (wfH.ext _), by rw [he]; rfl, rfl⟩
 | false =>
  rw [show askC p a = askC p { a with none := false } by rw [← hn]] at hg
  have he : askW a = [wSwap, wordM a.key, wordM a.value, wordM a.was] := by unfold askW; rw [Ac k1, Ac k2, Ac k3, Ac k4, hn]; rfl
  have ct := qbs [.txt wSwap, .raw p.k a.key, .raw p.v a.value, .raw p.w a.was] H 4 rfl wfH (t.ext hx) ⟨⟨trivial, Ab rfl⟩, ⟨⟨q1, by omega⟩, show a.key.length ≤ 600000 by omega⟩, ⟨⟨q3, by omega⟩, show a.value.length ≤ 600000 by omega⟩, ⟨⟨q4, by omega⟩, show a.was.length ≤ 600000 by omega⟩, trivial⟩ (by show 4 ≤ 1000; omega)
  repeat (first | refine W.w ?_ | refine aG rfl ?_ | (refine zz rfl ?_; first | refine qaa rfl ?_ | refine qah rfl ?_ | refine qan rfl ?_ | refine qaf rfl rfl hg rfl ?_ | refine qa5 rfl rfl ?_ | refine qai rfl rfl rfl (by omega) ?_ | refine qaN (([.txt wSwap, .raw p.k a.key, .raw p.v a.value, .raw p.w a.was] : List WArg).map argV) rfl rfl rfl rfl (qa1 _) ?_ | refine qab rfl rfl ct ?_))
  exact ⟨_, aC rfl, rfl, hx.trans (wfH.ext _), by rw [he]; rfl, rfl⟩
theorem planT_c (p : CmdV) (a : CmdM) (h : Heap) (t : Tabs h) (r : CmdR h p a) (hm : mayPlan a = true) : ACalls prog 44 [.agg (cmdC p a).toArray] h fun u h' => u = str (joinW (planW a)) ∧ h' = h := by
 obtain ⟨l1, l2, l3, l4, l5⟩ := qcJ hm
 refine aL fun wf => aO ?_
 refine aD func44 rfl rfl ?_
 repeat (first | refine W.w ?_ | refine zz rfl (qah rfl ?_) | refine zz rfl (qaS rfl (by intro e; cases e) ?_))
 generalize hH : h.alloc _ = H
 have hg : H.get h.next = some ⟨cmdC p a, 37, true⟩ := hH ▸ aB _ _
 have hx : Ext h H := hH ▸ wf.ext _
 have wfH : WF H := hH ▸ wf.alloc _
 clear hH
 have q1 := (r.ext hx).k
 by_cases k1 : a.kind = 6
 ·
  have he : planW a = [wSplit, wordM a.key] := by unfold planW; rw [Ah k1]
  have ct := qbs [.txt wSplit, .raw p.k a.key] H 2 rfl wfH (t.ext hx) ⟨⟨trivial, Ab rfl⟩, ⟨⟨q1, by omega⟩, show a.key.length ≤ 600000 by omega⟩, trivial⟩ (by show 2 ≤ 1000; omega)
  repeat (first | refine W.w ?_ | refine aE rfl ?_ | (refine zz rfl ?_; first | refine qaa rfl ?_ | refine qah rfl ?_ | refine qan rfl ?_ | refine qaf rfl rfl hg rfl ?_ | refine qa5 rfl rfl ?_ | refine qak rfl rfl rfl (by omega) ?_ | refine qaN (([.txt wSplit, .raw p.k a.key] : List WArg).map argV) rfl rfl rfl rfl (qa1 _) ?_ | refine qab rfl rfl ct ?_))
  exact ⟨_, aC rfl, rfl, hx.trans (wfH.ext _), by rw [he]; rfl, rfl⟩
 by_cases k2 : a.kind = 7
 ·
  have he : planW a = [wUnion, wordM a.key] := by unfold planW; rw [Ac k1, Ah k2]
  have ct := qbs [.txt wUnion, .raw p.k a.key] H 2 rfl wfH (t.ext hx) ⟨⟨trivial, Ab rfl⟩, ⟨⟨q1, by omega⟩, show a.key.length ≤ 600000 by omega⟩, trivial⟩ (by show 2 ≤ 1000; omega)
  repeat (first | refine W.w ?_ | refine aE rfl ?_ | refine aG rfl ?_ | (refine zz rfl ?_; first | refine qaa rfl ?_ | refine qah rfl ?_ | refine qan rfl ?_ | refine qaf rfl rfl hg rfl ?_ | refine qa5 rfl rfl ?_ | refine qak rfl rfl rfl (by omega) ?_ | refine qai rfl rfl rfl (by omega) ?_ | refine qaN (([.txt wUnion, .raw p.k a.key] : List WArg).map argV) rfl rfl rfl rfl (qa1 _) ?_ | refine qab rfl rfl ct ?_))
  exact ⟨_, aC rfl, rfl, hx.trans (wfH.ext _), by rw [he]; rfl, rfl⟩
 ·
  have he : planW a = [wMove, wordM a.key, itoa a.group] := by unfold planW; rw [Ac k1, Ac k2]
  have ct := qbs [.txt wMove, .raw p.k a.key, .num a.group] H 3 rfl wfH (t.ext hx) ⟨⟨trivial, Ab rfl⟩, ⟨⟨q1, by omega⟩, show a.key.length ≤ 600000 by omega⟩, ⟨(show I64 a.group from ⟨by omega, by omega⟩), trivial⟩, trivial⟩ (by show 3 ≤ 1000; omega)
  repeat (first | refine W.w ?_ | refine aG rfl ?_ | (refine zz rfl ?_; first | refine qaa rfl ?_ | refine qah rfl ?_ | refine qan rfl ?_ | refine qaf rfl rfl hg rfl ?_ | refine qa5 rfl rfl ?_ | refine qai rfl rfl rfl (by omega) ?_ | refine qaN (([.txt wMove, .raw p.k a.key, .num a.group] : List WArg).map argV) rfl rfl rfl rfl (qa1 _) ?_ | refine qab rfl rfl ct ?_))
  exact ⟨_, aC rfl, rfl, hx.trans (wfH.ext _), by rw [he]; rfl, rfl⟩
end Go.Proofs.YtigmojilaadbhaaGreatDoor
