/-
  Texts of one claim, merged: 9 parts.
-/
import Derived.Test.YtigmojilaadbhaaGreatDoorMpw
import Derived.Test.YtigmojilaadbhaaGreatDoorMpv
import Derived.Test.YtigmojilaadbhaaGreatDoorMpr
import Derived.Test.YtigmojilaadbhaaGreatDoorMps
import Derived.Test.YtigmojilaadbhaaGreatDoorMpg
import Derived.Test.YtigmojilaadbhaaGreatDoorMpq
import Derived.Test.YtigmojilaadbhaaGreatDoorMpu
set_option maxHeartbeats 16000000
/- . -/
namespace Go.Proofs.YtigmojilaadbhaaGreatDoor
open Go Go.Eng Go.Pln Go.Lib Go.Proofs.Tryz
attribute [local irreducible] AWp AL DAL AOp TAL
instance i_rsameSet : FnC prog 65 := ⟨Tryz.f65, func65, by kernel_rfl, by kernel_rfl⟩
theorem setJ_i {x : SetM} (j : SetJ x) : SetI x := ⟨j.n, j.d, j.m, j.l⟩
theorem rNg_c (v : Value) (l : List Int) (h : Heap) (t : Tabs h) (r : RS h v (iv64 l)) (hi : ∀ n ∈ l, In64 n) (hl : l.length ≤ 100000000000) : ACalls prog 50 [str wGroup, v] h fun u h' => u = str (groupL l) ∧ h' = h := by
 have c := N_c wGroup v l h r hi (by show 5 + 22 * l.length ≤ _; omega) t
 rw [show wGroup ++ tailW (l.map itoa) = groupL l by unfold groupL; rw [qaQ]] at c
 exact c
theorem rsameSet_c (a b : SetM) (va vb : Value) (h : Heap) (t : Tabs h) (ja : SetJ a) (jb : SetJ b) (ra : RG h va a.groups) (rb : RG h vb b.groups) : ACalls prog 65 [.agg (setC va a).toArray, .agg (setC vb b).toArray] h fun u h' => u = .bool (decide (a = b)) ∧ h' = h := by
 refine aL fun wf => aO ?_
 refine aD func65 rfl rfl ?_
 repeat (first | refine W.w ?_ | refine zz rfl (qaa rfl ?_) | refine zz rfl (qaS rfl (by intro e; cases e) ?_))
 generalize hH : h.alloc _ = H1
 have hg0 : H1.get h.next = some ⟨setC va a, 24, true⟩ := hH ▸ aB _ _
 have hx1 : Ext h H1 := hH ▸ wf.ext _
 have wf1 : WF H1 := hH ▸ wf.alloc _
 skip
 generalize hH2 : H1.alloc _ = H
 have hg2 : H.get H1.next = some ⟨setC vb b, 24, true⟩ := hH2 ▸ aB _ _
 have hx2 : Ext H1 H := hH2 ▸ wf1.ext _
 have hg1 : H.get h.next = some ⟨setC va a, 24, true⟩ := hx2.c _ _ hg0
 have xh : Ext h H := hx1.trans hx2
 clear hH hH2
 have tH := t.ext xh
 have fa := fun (G : Heap) (hx : Ext H G) => qf0 a va (setJ_i ja) G (tH.ext hx)
 have fb := fun (G : Heap) (hx : Ext H G) => qf0 b vb (setJ_i jb) G (tH.ext hx)
 obtain ⟨ws, q1, q2, q3, q4⟩ := ra.ext xh
 obtain ⟨us, p1, p2, p3, p4⟩ := rb.ext xh
 skip
 by_cases hf : firstL a = firstL b
 ·
  by_cases hl : a.groups.length = b.groups.length
  ·
   refine bN mixed (by kernel_rfl) ?_
   repeat (first | refine dr rfl rfl (fun _ hx _ => qae rfl ⟨rfl, rfl⟩) ?_ | refine dr rfl rfl (fun _ hx _ => qam (sz := 5) rfl rfl (hx.c _ _ hg1) (Aa _) ⟨rfl, rfl⟩) ?_ | refine dr rfl rfl (fun _ hx _ => qam (sz := 5) rfl rfl (hx.c _ _ hg2) (Aa _) ⟨rfl, rfl⟩) ?_ | refine dr rfl rfl (fun _ hx _ => qab rfl rfl (fa _ hx) ⟨rfl, rfl⟩) ?_ | refine dr rfl rfl (fun _ hx _ => qab rfl rfl (fb _ hx) ⟨rfl, rfl⟩) ?_ | refine dr rfl rfl (fun _ hx _ => qbi rfl rfl hf ⟨rfl, rfl⟩) ?_ | refine dr rfl rfl (fun _ hx _ => qan rfl ⟨rfl, rfl⟩) ?_ | refine dr rfl rfl (fun _ hx _ => qaf rfl rfl (hx.c _ _ hg1) rfl ⟨rfl, rfl⟩) ?_ | refine dr rfl rfl (fun _ hx _ => qaf rfl rfl (hx.c _ _ hg2) rfl ⟨rfl, rfl⟩) ?_ | refine dr rfl rfl (fun _ hx _ => qaz (q1.ext hx) rfl ⟨rfl, rfl⟩) ?_ | refine dr rfl rfl (fun _ hx _ => qaz (p1.ext hx) rfl ⟨rfl, rfl⟩) ?_ | refine dr rfl rfl (fun _ hx _ => qai rfl rfl rfl (by omega) ⟨rfl, rfl⟩) ?_ | refine dr rfl rfl (fun _ hx _ => qag (v := .bool _) rfl rfl ⟨rfl, rfl⟩) ?_)
   refine aX ?_
   repeat (first | refine W.w ?_ | refine aG rfl ?_ | refine zz rfl (qad rfl ?_))
   refine bB (α := Nat) (fun k => [(2, ptr h.next), (3, ptr H1.next), (4, .bool false), (5, .int .i64 (k : Nat))]) (fun _ => H) (fun k => k ≤ a.groups.length ∧ a.groups.take k = b.groups.take k) (fun k => a.groups.length - k) 0 ⟨Ao _, rfl⟩ (aI (aA rfl (aA rfl (aA rfl (aA rfl aN))))) ?_
   rintro k ⟨hk, hta⟩
   by_cases hlt : k < a.groups.length
   ·
    obtain ⟨g1, e1⟩ := gX (l := a.groups) (k := k) hlt
    obtain ⟨g2, e2⟩ := gX (l := b.groups) (k := k) (by omega)
    obtain ⟨w1, e3⟩ := gX (l := ws) (k := k) (by omega)
    obtain ⟨w2, e4⟩ := gX (l := us) (k := k) (by omega)
    have k1 : ws[((k : Nat) : Int).toNat]? = some w1 := e3
    have k2 : us[((k : Nat) : Int).toNat]? = some w2 := e4
    have o1 := (q4 k w1 g1 e3 e1).1
    have o2 := (p4 k w2 g2 e4 e2).1
    have j1 := ja.g g1 (Aw e1)
    have j2 := jb.g g2 (Aw e2)
    have c1 := fun (G : Heap) (hx : Ext H G) => rNg_c w1 g1 G (tH.ext hx) (o1.ext hx) j1.1 j1.2
    have c2 := fun (G : Heap) (hx : Ext H G) => rNg_c w2 g2 G (tH.ext hx) (o2.ext hx) j2.1 j2.2
    repeat (first | refine W.w ?_ | refine aE rfl ?_ | (refine zz rfl ?_; first | refine qac rfl ?_ | refine qan rfl ?_ | refine qaf rfl rfl hg1 rfl ?_ | refine qaz q1 rfl ?_ | refine qak rfl rfl rfl (by omega) ?_))
    by_cases he : groupL g1 = groupL g2
    ·
     refine bN mixed (by kernel_rfl) ?_
     repeat (first | refine dr rfl rfl (fun _ hx _ => qac rfl ⟨rfl, rfl⟩) ?_ | refine dr rfl rfl (fun _ hx _ => qan rfl ⟨rfl, rfl⟩) ?_ | refine dr rfl rfl (fun _ hx _ => qaf rfl rfl (hx.c _ _ hg1) rfl ⟨rfl, rfl⟩) ?_ | refine dr rfl rfl (fun _ hx _ => qaf rfl rfl (hx.c _ _ hg2) rfl ⟨rfl, rfl⟩) ?_ | refine dr rfl rfl (fun _ hx _ => qas (q1.ext hx) rfl rfl (by omega) k1 fun _ => ⟨rfl, rfl⟩) ?_ | refine dr rfl rfl (fun _ hx _ => qas (p1.ext hx) rfl rfl (by omega) k2 fun _ => ⟨rfl, rfl⟩) ?_ | refine dr rfl rfl (fun _ hx _ => qar (bL (q1.ext hx) k1) rfl rfl ⟨rfl, rfl⟩) ?_ | refine dr rfl rfl (fun _ hx _ => qar (bL (p1.ext hx) k2) rfl rfl ⟨rfl, rfl⟩) ?_ | refine dr rfl rfl (fun _ hx _ => qab rfl rfl (c1 _ hx) ⟨rfl, rfl⟩) ?_ | refine dr rfl rfl (fun _ hx _ => qab rfl rfl (c2 _ hx) ⟨rfl, rfl⟩) ?_ | refine dr rfl rfl (fun _ hx _ => qbi rfl rfl he ⟨rfl, rfl⟩) ?_)
     refine aX ?_
     repeat (first | refine W.w ?_ | refine aG rfl ?_ | (refine zz rfl ?_; first | refine qac rfl ?_ | refine qad rfl ?_ | refine qau rfl rfl (by omega) ?_))
     exact ⟨k + 1, ⟨hlt, qgY hta e1 e2 (groupL_inj j1.1 j2.1 he)⟩, by omega, aI (aA rfl (aA rfl (aA rfl (aA rfl aN))))⟩
    ·
     refine bN mixed (by kernel_rfl) ?_
     repeat (first | refine dr rfl rfl (fun _ hx _ => qac rfl ⟨rfl, rfl⟩) ?_ | refine dr rfl rfl (fun _ hx _ => qan rfl ⟨rfl, rfl⟩) ?_ | refine dr rfl rfl (fun _ hx _ => qaf rfl rfl (hx.c _ _ hg1) rfl ⟨rfl, rfl⟩) ?_ | refine dr rfl rfl (fun _ hx _ => qaf rfl rfl (hx.c _ _ hg2) rfl ⟨rfl, rfl⟩) ?_ | refine dr rfl rfl (fun _ hx _ => qas (q1.ext hx) rfl rfl (by omega) k1 fun _ => ⟨rfl, rfl⟩) ?_ | refine dr rfl rfl (fun _ hx _ => qas (p1.ext hx) rfl rfl (by omega) k2 fun _ => ⟨rfl, rfl⟩) ?_ | refine dr rfl rfl (fun _ hx _ => qar (bL (q1.ext hx) k1) rfl rfl ⟨rfl, rfl⟩) ?_ | refine dr rfl rfl (fun _ hx _ => qar (bL (p1.ext hx) k2) rfl rfl ⟨rfl, rfl⟩) ?_ | refine dr rfl rfl (fun _ hx _ => qab rfl rfl (c1 _ hx) ⟨rfl, rfl⟩) ?_ | refine dr rfl rfl (fun _ hx _ => qab rfl rfl (c2 _ hx) ⟨rfl, rfl⟩) ?_ | refine dr rfl rfl (fun _ hx _ => qbg rfl rfl he ⟨rfl, rfl⟩) ?_)
     refine aX ?_
     repeat (first | refine W.w ?_ | refine aE rfl ?_ | refine zz rfl (qaa rfl ?_))
     refine ⟨_, aC rfl, rfl, xh, ?_, rfl⟩
     exact congrArg Value.bool (Af (fun e => he (by subst e; rw [e1] at e2; cases e2; rfl))).symm
   ·
    obtain rfl : k = a.groups.length := by omega
    repeat (first | refine aW ?_ | refine aR ?_ | refine aY ?_ | refine aG rfl ?_ | refine aM ?_ | refine aP ?_ | (refine zz rfl ?_; first | refine qac rfl ?_ | refine qaa rfl ?_ | refine qan rfl ?_ | refine qaf rfl rfl hg1 rfl ?_ | refine qaz q1 rfl ?_ | refine qai rfl rfl rfl (by omega) ?_))
    refine ⟨_, aC rfl, rfl, xh, ?_, rfl⟩
    rw [Au, hl, Au] at hta
    exact congrArg Value.bool (Al ((set_ext hf ja jb hta))).symm
  ·
   refine bN mixed (by kernel_rfl) ?_
   repeat (first | refine dr rfl rfl (fun _ hx _ => qae rfl ⟨rfl, rfl⟩) ?_ | refine dr rfl rfl (fun _ hx _ => qam (sz := 5) rfl rfl (hx.c _ _ hg1) (Aa _) ⟨rfl, rfl⟩) ?_ | refine dr rfl rfl (fun _ hx _ => qam (sz := 5) rfl rfl (hx.c _ _ hg2) (Aa _) ⟨rfl, rfl⟩) ?_ | refine dr rfl rfl (fun _ hx _ => qab rfl rfl (fa _ hx) ⟨rfl, rfl⟩) ?_ | refine dr rfl rfl (fun _ hx _ => qab rfl rfl (fb _ hx) ⟨rfl, rfl⟩) ?_ | refine dr rfl rfl (fun _ hx _ => qbi rfl rfl hf ⟨rfl, rfl⟩) ?_ | refine dr rfl rfl (fun _ hx _ => qan rfl ⟨rfl, rfl⟩) ?_ | refine dr rfl rfl (fun _ hx _ => qaf rfl rfl (hx.c _ _ hg1) rfl ⟨rfl, rfl⟩) ?_ | refine dr rfl rfl (fun _ hx _ => qaf rfl rfl (hx.c _ _ hg2) rfl ⟨rfl, rfl⟩) ?_ | refine dr rfl rfl (fun _ hx _ => qaz (q1.ext hx) rfl ⟨rfl, rfl⟩) ?_ | refine dr rfl rfl (fun _ hx _ => qaz (p1.ext hx) rfl ⟨rfl, rfl⟩) ?_ | refine dr rfl rfl (fun _ hx _ => qak rfl rfl rfl (by omega) ⟨rfl, rfl⟩) ?_ | refine dr rfl rfl (fun _ hx _ => qag (v := .bool _) rfl rfl ⟨rfl, rfl⟩) ?_)
   refine aX ?_
   repeat (first | refine W.w ?_ | refine aE rfl ?_ | refine zz rfl (qaa rfl ?_))
   refine ⟨_, aC rfl, rfl, xh, ?_, rfl⟩
   exact congrArg Value.bool (Af (fun e => hl (by rw [e]))).symm
 ·
  refine bN mixed (by kernel_rfl) ?_
  repeat (first | refine dr rfl rfl (fun _ hx _ => qae rfl ⟨rfl, rfl⟩) ?_ | refine dr rfl rfl (fun _ hx _ => qam (sz := 5) rfl rfl (hx.c _ _ hg1) (Aa _) ⟨rfl, rfl⟩) ?_ | refine dr rfl rfl (fun _ hx _ => qam (sz := 5) rfl rfl (hx.c _ _ hg2) (Aa _) ⟨rfl, rfl⟩) ?_ | refine dr rfl rfl (fun _ hx _ => qab rfl rfl (fa _ hx) ⟨rfl, rfl⟩) ?_ | refine dr rfl rfl (fun _ hx _ => qab rfl rfl (fb _ hx) ⟨rfl, rfl⟩) ?_ | refine dr rfl rfl (fun _ hx _ => qbg rfl rfl hf ⟨rfl, rfl⟩) ?_ | refine dr rfl rfl (fun _ hx _ => qag (v := .bool _) rfl rfl ⟨rfl, rfl⟩) ?_ | refine bX rfl rfl rfl ?_)
  refine aX ?_
  repeat (first | refine W.w ?_ | refine aE rfl ?_ | refine zz rfl (qaa rfl ?_))
  refine ⟨_, aC rfl, rfl, xh, ?_, rfl⟩
  exact congrArg Value.bool (Af (fun e => hf (by rw [e]))).symm
instance i_rlay : FnC prog 64 := ⟨Tryz.f64, func64, by kernel_rfl, by kernel_rfl⟩
def layG (x : SetM) (line : Bytes) : SetM × Bool :=
 if (ungroupR line).2 = true ∧ mayGroup x.nodes (ungroupR line).1 = true ∧ x.groups.length < 5 then ({ x with groups := x.groups ++ [(ungroupR line).1] }, true) else (x, false)
theorem qgI {n : Int} {l : List Int} (h : mayGroup n l = true) : l.length ≤ 3 := by
 unfold mayGroup at h
 rw [Ae, Aq] at h
 exact h.2.2
theorem qcA : (24 : TypeId) ≠ 77 ∧ (24 : TypeId) ≠ 3 := by decide
theorem qeF {vg : Value} (h1 : oneB vg = true) (x : SetM) : (setC vg x).all oneB = true := by
 unfold setC
 simp only [Bc, h1]
 rfl
theorem rlay_c (x : SetM) (vg : Value) (line : Bytes) (h : Heap) (t : Tabs h) {B : Nat} (g : GO B h vg x.groups) (hl : line.length ≤ 100000000) : ACalls prog 64 [.agg (setC vg x).toArray, str line] h fun u h' => ∃ B' vg', u = .tuple #[.agg (setC vg' (layG x line).1).toArray, .bool (layG x line).2] ∧ GO B' h' vg' (layG x line).1.groups ∧ Ext h h' := by
 refine aL fun wf => ?_
 refine aD func64 rfl rfl ?_
 refine aR ?_
 refine aY ?_
 refine zz rfl (qaS rfl (by intro e; cases e) ?_)
 generalize hH : h.alloc _ = H1
 have g2 : H1.get h.next = some ⟨setC vg x, 24, true⟩ := hH ▸ aB _ _
 have x2 : Ext h H1 := hH ▸ wf.ext _
 have w2 : WF H1 := hH ▸ wf.alloc _
 have n2 : H1.next = h.next + 1 := hH ▸ rfl
 clear hH
 refine zz rfl (qax ?_)
 refine aS (h := H1.alloc (setB set0)) rfl ?_
 obtain ⟨H2, hQ, g4, x4, w4, n4⟩ := aq w2 (setB set0)
 rw [hQ]
 have t2 := t.ext (x2.trans x4)
 have gl := g.len
 have ga := g.all
 obtain ⟨vs, o0, s2, s4⟩ := g.ex
 have s1 := o0.rs
 have h1 : (setC vg x).all oneB = true := qeF (cV s1).1 x
 have ho : vs.all oneB = true := by
  rw [Ai]
  intro w hw
  obtain ⟨k, hk⟩ := Dt hw
  have hk1 := (Av.1 hk).1
  obtain ⟨_, oq⟩ := s4 k w _ hk (At (by omega))
  exact (cV oq.rs).1
 repeat (first | refine W.w ?_ | refine zz rfl (qaj rfl ?_) | refine zz rfl (qaa rfl ?_))
 refine zz rfl (qat (evs := [str line]) rfl rfl ((rungroup_c line H2 t2 (by omega)).wf_post.mono ?_))
 rintro _ H3 ⟨⟨v, rfl, ov, x5⟩, w5, n5⟩
 have x7 : Ext h H3 := (x2.trans x4).trans x5
 have q2 := (x4.trans x5).c _ _ g2
 have q4 := x5.c _ _ g4
 have z1 := s1.ext x7
 have cm := qcQ x vg v (ungroupR line).1 H3 ov.rs
 cases hu : (ungroupR line).2 with
 | false =>
  have hno : layG x line = (x, false) := by unfold layG; rw [hu]; rfl
  repeat (first | refine W.w ?_ | refine aK rfl rfl ?_ | (refine zz rfl ?_; first | refine qae rfl ?_ | refine qaC rfl ?_ | refine qaa rfl ?_ | refine qav rfl rfl ?_ | refine qao (v := v) rfl ?_ | refine qaF rfl ?_))
  repeat (first | refine W.w ?_ | refine aK rfl rfl ?_ | refine aE rfl ?_ | refine aJ rfl (qaq (vs := setC vg x) rfl rfl rfl h1 q4 rfl ?_) | (refine zz rfl ?_; first | refine qae rfl ?_ | refine qaa rfl ?_ | refine qag (v := .bool _) rfl rfl ?_ | refine qam (sz := 5) rfl rfl q2 (Aa _) ?_))
  have ef : Ext h (H3.set H1.next ⟨setC vg x, 24, true⟩) := wf.ext_set x7 (by omega) _
  exact ⟨_, aV rfl rfl rfl (aF _ _ _) (Aa _), B, vg, by rw [hno]; rfl, by rw [hno]; exact g.pres fun j b hj _ => ef.c j b hj, ef⟩
 | true =>
  have hlen := qgI (qcb hu).1
  have cm := cm (by omega)
  cases hm : mayGroup x.nodes (ungroupR line).1 with
  | false =>
   rw [hm] at cm
   have hno : layG x line = (x, false) := by unfold layG; rw [hm]; exact Ac fun e => by cases e.2.1
   repeat (first | refine W.w ?_ | refine aK rfl rfl ?_ | refine aE rfl ?_ | (refine zz rfl ?_; first | refine qae rfl ?_ | refine qaC rfl ?_ | refine qaa rfl ?_ | refine qav rfl rfl ?_ | refine qao (v := v) rfl ?_ | refine qam (sz := 5) rfl rfl q2 (Aa _) ?_ | refine qal (v := v) rfl ?_ | refine qab rfl rfl cm ?_ | refine qag (v := .bool _) rfl rfl ?_ | refine qaF rfl ?_))
   repeat (first | refine W.w ?_ | refine zz rfl (qaa rfl ?_) | refine aJ rfl (qaq (vs := setC vg x) rfl rfl rfl h1 q4 rfl ?_))
   have ef : Ext h (H3.set H1.next ⟨setC vg x, 24, true⟩) := wf.ext_set x7 (by omega) _
   exact ⟨_, aV rfl rfl rfl (aF _ _ _) (Aa _), B, vg, by rw [hno]; rfl, by rw [hno]; exact g.pres fun j b hj _ => ef.c j b hj, ef⟩
  | true =>
   rw [hm] at cm
   by_cases h5 : x.groups.length < 5
   ·
    have hyes : layG x line = ({ x with groups := x.groups ++ [(ungroupR line).1] }, true) := by unfold layG; exact Ah ⟨hu, hm, h5⟩
    repeat (first | refine W.w ?_ | refine aG rfl ?_ | (refine zz rfl ?_; first | refine qae rfl ?_ | refine qaC rfl ?_ | refine qaa rfl ?_ | refine qav rfl rfl ?_ | refine qao (v := v) rfl ?_ | refine qam (sz := 5) rfl rfl q2 (Aa _) ?_ | refine qal (v := v) rfl ?_ | refine qab rfl rfl cm ?_ | refine qag (v := .bool _) rfl rfl ?_ | refine qan rfl ?_ | refine qaf rfl rfl q2 rfl ?_ | refine qaz z1 rfl ?_ | refine qai rfl rfl rfl (by omega) ?_ | refine qaF rfl ?_))
    refine zz rfl (qaX (by_ := 24) (z := .slice none 0 0) (B := H3.next) (e := 77) rfl w5 (Aa _) (bP _ _ _) rfl rfl z1.src rfl ho (by simp only [maxLen, Ag]; omega) (by simp only [Ag]; omega) ?_)
    intro u1 H4 o1 k1 w6 n6
    have x8 : Ext H3 H4 := k1.ext (bP H3.next H3 77) w5 (Aa _) (aU H3)
    repeat (first | refine zz rfl (qal (v := v) rfl ?_) | refine zz rfl (qaN [v] rfl rfl rfl rfl (by intro a ha; rw [Ax.1 ha]; exact (cV ov.rs).1) ?_))
    have gr := aB H4 ⟨[v], 77, true⟩
    have xr := w6.ext ⟨[v], 77, true⟩
    have wr := w6.alloc ⟨[v], 77, true⟩
    have o2 := o1.alloc w6 ⟨[v], 77, true⟩
    have nr : (H4.alloc ⟨[v], 77, true⟩).next = H4.next + 1 := rfl
    generalize H4.alloc ⟨[v], 77, true⟩ = H5 at gr xr wr o2 nr ⊢
    have rb : RS H5 (.slice (some ⟨H4.next, 0, some 1⟩) 1 1) [v] := bK gr rfl
    refine zz rfl (qaX (by_ := 24) (z := .slice none 0 0) (B := H3.next) (e := 77) rfl wr (by omega) o2 rfl rfl rb.src rfl (by simp [(cV ov.rs).1]) (by simp only [maxLen, Ct, Ad, Ag]; omega) (by simp only [Ct, Ad, Ag]; omega) ?_)
    intro u2 H6 o3 k3 w7 n7
    have x9 : Ext H3 H6 := k3.ext o2 w5 (Aa _) (x8.trans xr)
    have p2 := x9.c _ _ q2
    have p4 := x9.c _ _ q4
    repeat (first | refine zz rfl (qan rfl ?_))
    refine aJ rfl (qaw (v := u2) rfl rfl (cV o3.rs).1 p2 rfl (by show 0 + 1 < 5; omega) ?_)
    refine aS (h := H6.set h.next ⟨setC u2 x, 24, true⟩) rfl ?_
    have d2 := aF H6 h.next ⟨setC u2 x, 24, true⟩
    have d4 : (H6.set h.next ⟨setC u2 x, 24, true⟩).get H1.next = _ := (aH (by omega)).trans p4
    have dx : Ext h (H6.set h.next ⟨setC u2 x, 24, true⟩) := wf.ext_set (x7.trans x9) (Aa _) _
    have do3 : OS H3.next (H6.set h.next ⟨setC u2 x, 24, true⟩) 77 u2 (([] ++ vs) ++ [v]) := bV o3 (qbT p2 qcA.1)
    have dov : OS H2.next (H6.set h.next ⟨setC u2 x, 24, true⟩) 3 v (iv64 (ungroupR line).1) := bV (bV ov fun j b hj _ => x9.c j b hj) (qbT p2 qcA.2)
    generalize H6.set h.next ⟨setC u2 x, 24, true⟩ = H7 at d2 d4 dx do3 dov ⊢
    have h2 : (setC u2 x).all oneB = true := qeF (cV do3.rs).1 x
    repeat (first | refine W.w ?_ | refine zz rfl (qaa rfl ?_) | refine zz rfl (qam (sz := 5) rfl rfl d2 (Aa _) ?_) | refine aJ rfl (qaq (vs := setC u2 x) rfl rfl rfl h2 d4 rfl ?_))
    have ef : Ext h (H7.set H1.next ⟨setC u2 x, 24, true⟩) := wf.ext_set dx (by omega) _
    have eo := bV do3 (qbT (x := ⟨setC u2 x, 24, true⟩) d4 qcA.1)
    have ev := bV dov (qbT (x := ⟨setC u2 x, 24, true⟩) d4 qcA.2)
    refine ⟨_, aV rfl rfl rfl (aF _ _ _) (Aa _), H3.next, u2, by rw [hyes]; rfl, ?_, ef⟩
    rw [hyes]
    rw [Ct] at eo
    refine ⟨⟨_, eo, by simp [s2], fun k w g hw hg => ?_⟩, by show (x.groups ++ [_]).length ≤ _; rw [An, Ad, Ag]; omega, fun g hg => ?_⟩
    ·
     replace hg : (x.groups ++ [(ungroupR line).1])[k]? = some g := hg
     rw [List.getElem?_append] at hw hg
     by_cases hk : k < x.groups.length
     ·
      rw [Ah (by omega)] at hw
      rw [Ah hk] at hg
      obtain ⟨B', oq⟩ := s4 k w g hw hg
      exact ⟨B', bV oq fun j b hj _ => ef.c j b hj⟩
     ·
      rw [Ac (by omega)] at hw
      rw [Ac hk] at hg
      rw [s2] at hw
      obtain ⟨rfl, rfl⟩ : v = w ∧ (ungroupR line).1 = g := by
       have hk1 := (Av.1 hg).1
       simp only [Ad, Ag] at hk1
       rw [show k - x.groups.length = 0 by omega] at hw hg
       exact ⟨by simpa using hw, by simpa using hg⟩
      exact ⟨_, ev⟩
    ·
     rcases Bh.1 hg with hg | hg
     ·
      exact ga g hg
     ·
      rw [Ax.1 hg]
      omega
   ·
    have hno : layG x line = (x, false) := by unfold layG; exact Ac fun e => h5 e.2.2
    repeat (first | refine W.w ?_ | refine aE rfl ?_ | (refine zz rfl ?_; first | refine qae rfl ?_ | refine qaC rfl ?_ | refine qaa rfl ?_ | refine qav rfl rfl ?_ | refine qao (v := v) rfl ?_ | refine qam (sz := 5) rfl rfl q2 (Aa _) ?_ | refine qal (v := v) rfl ?_ | refine qab rfl rfl cm ?_ | refine qag (v := .bool _) rfl rfl ?_ | refine qan rfl ?_ | refine qaf rfl rfl q2 rfl ?_ | refine qaz z1 rfl ?_ | refine qak rfl rfl rfl (by omega) ?_ | refine qaF rfl ?_))
    repeat (first | refine W.w ?_ | refine zz rfl (qaa rfl ?_) | refine aJ rfl (qaq (vs := setC vg x) rfl rfl rfl h1 q4 rfl ?_))
    have ef : Ext h (H3.set H1.next ⟨setC vg x, 24, true⟩) := wf.ext_set x7 (by omega) _
    exact ⟨_, aV rfl rfl rfl (aF _ _ _) (Aa _), B, vg, by rw [hno]; rfl, by rw [hno]; exact g.pres fun j b hj _ => ef.c j b hj, ef⟩
end Go.Proofs.YtigmojilaadbhaaGreatDoor
/- . -/
namespace Go.Proofs.YtigmojilaadbhaaGreatDoor
open Go Go.Eng Go.Pln Go.Proofs.Tryz
open Go.Lib hiding splitN
attribute [local irreducible] AWp AL DAL AOp TAL
instance i_rsplit : FnC prog 62 := ⟨Tryz.f62, func62, by kernel_rfl, by kernel_rfl⟩
structure SpI (h : Heap) (s : Bytes) (i at_ : Nat) (ws : List Bytes) (H : Heap) (u : Value) : Prop where
 gr : Gr h 9 (ws.map str) H u
 len : ws.length ≤ i
 hi : i ≤ s.length
 ha : at_ ≤ i
 eq : splitN s = (ws ++ (splitN (s.drop at_)).1, (splitN (s.drop at_)).2)
 no : noN ((s.take i).drop at_) = true
theorem rsplit_c (s : Bytes) (h : Heap) (hl : s.length ≤ 1000000000) : ACalls prog 62 [str s] h fun u h' => ∃ v, u = .tuple #[v, str (splitN s).2] ∧ Gr h 9 ((splitN s).1.map str) h' v := by
 refine aL fun wf => ?_
 refine aD func62 rfl rfl ?_
 repeat (first | refine W.w ?_ | (refine zz rfl ?_; first | refine qad rfl ?_ | refine qaR rfl ?_ | refine qah rfl ?_))
 refine bB (α := Nat × Nat × List Bytes × Heap × Value) (fun d => [(0, str s), (4, d.2.2.2.2), (5, .int .i64 (d.2.1 : Nat)), (6, .int .i64 (d.1 : Nat))]) (fun d => d.2.2.2.1) (fun d => SpI h s d.1 d.2.1 d.2.2.1 d.2.2.2.1 d.2.2.2.2) (fun d => s.length - d.1) (0, 0, [], h, .slice none 0 0)
  ⟨Gr.nil wf _, Aa _, Ao _, Aa _, rfl, rfl⟩ (aI (aA rfl (aA rfl (aA rfl (aA rfl aN))))) ?_
 rintro ⟨i, at_, ws, H, u⟩ ii
 replace ii : SpI h s i at_ ws H u := ii
 show AWp _ _ _ _ [(0, str s), (4, u), (5, .int .i64 (at_ : Nat)), (6, .int .i64 (i : Nat))] H
 obtain ⟨gg, hw, hi, hat, heq, hnb⟩ := ii
 obtain ⟨ua, uc, hu⟩ := bC gg.os.rs
 have hwl : (((s.take ((i : Nat) : Int).toNat).drop ((at_ : Nat) : Int).toNat)) = (s.take i).drop at_ := rfl
 by_cases hlt : i < s.length
 ·
  obtain ⟨c, hc⟩ := gX (l := s) (k := i) hlt
  have hcb : (bstr s)[((i : Nat) : Int).toNat]? = some c := (qcv s i).trans hc
  by_cases h10 : c = 10
  ·
   have hcn : c.toNat = 10 := by rw [h10]; rfl
   have hd : s.drop at_ = (s.take i).drop at_ ++ 10 :: s.drop (i + 1) := by
    conv => lhs; rw [← Dc i s]
    rw [Cs (by rw [Bb]; omega), qcN hc, h10]
   have heq2 : splitN s = ((ws ++ [(s.take i).drop at_]) ++ (splitN (s.drop (i + 1))).1, (splitN (s.drop (i + 1))).2) := by rw [heq, hd, qep _ hnb]; simp
   repeat (first | refine W.w ?_ | refine aE rfl ?_ | (refine zz rfl ?_; first | refine qac rfl ?_ | refine qaj rfl ?_ | refine qaG rfl ?_ | refine qak rfl rfl rfl (by omega) ?_ | refine qaK rfl rfl (by omega) hcb ?_ | refine qal (v := u) rfl ?_ | refine qa8 (s := s) (l := ((at_ : Nat) : Int)) (m := ((i : Nat) : Int)) rfl rfl rfl (by omega) (by omega) (by omega) ?_ | refine qaN [str ((s.take i).drop at_)] rfl rfl rfl rfl (qfX _) ?_))
   generalize (s.take i).drop at_ = w at hnb hwl heq2 ⊢
   obtain ⟨H3, hQ, gr, xr, wr, _⟩ := aq gg.wf ⟨[str w], 9, true⟩
   rw [hQ]
   have rb : RS H3 (.slice (some ⟨H.next, 0, some 1⟩) 1 1) [str w] := bK gr rfl
   have n3 := wr.lt gr
   have g3 := gg.more xr wr (by omega)
   refine zz rfl (qaX (by_ := 16) (z := .string ⟨#[]⟩) (B := h.next) (e := 9) rfl wr g3.nx g3.os rfl rfl rb.src rfl rfl (by rw [Ap]; simp only [maxLen, Ad, Ag]; omega) (by rw [Ap]; simp only [Ad, Ag]; omega) ?_)
   intro u' H4 o4 k4 wf4 n4
   have g4 : Gr h 9 _ H4 u' := ⟨o4, k4.ext g3.os wf (Aa _) g3.ext, wf4, Bi g3.nx n4⟩
   repeat (first | refine W.w ?_ | (refine zz rfl ?_; first | refine qac rfl ?_ | refine qad rfl ?_ | refine qao (v := u') rfl ?_ | refine qau rfl rfl (by omega) ?_))
   exact ⟨(i + 1, i + 1, ws ++ [w], H4, u'), ⟨by show Gr h _ ((ws ++ [w]).map str) H4 u'; rw [Cx]; exact g4, by show (ws ++ [w]).length ≤ i + 1; rw [An, Ad, Ag]; omega, hlt, Aa _, heq2, by simp [noN]⟩, by show s.length - (i + 1) < s.length - i; omega, aI (aA rfl (aA rfl (aA rfl (aA rfl aN))))⟩
  ·
   have hcn : c.toNat ≠ 10 := fun e => h10 (UInt8.toNat_inj.1 (by rw [e]; rfl))
   repeat (first | refine W.w ?_ | refine aE rfl ?_ | refine aG rfl ?_ | (refine zz rfl ?_; first | refine qac rfl ?_ | refine qaj rfl ?_ | refine qad rfl ?_ | refine qaG rfl ?_ | refine qak rfl rfl rfl (by omega) ?_ | refine qai rfl rfl rfl (by omega) ?_ | refine qaK rfl rfl (by omega) hcb ?_ | refine qau rfl rfl (by omega) ?_))
   refine ⟨(i + 1, at_, ws, H, u), ⟨gg, by show ws.length ≤ i + 1; omega, hlt, by show at_ ≤ i + 1; omega, heq, ?_⟩, by show s.length - (i + 1) < s.length - i; omega, aI (aA rfl (aA rfl (aA rfl (aA rfl aN))))⟩
   show noN ((s.take (i + 1)).drop at_) = true
   rw [Bf, hc, Cs (by rw [Bb]; omega)]
   unfold noN at hnb ⊢
   rw [Dn, hnb]
   simpa using h10
 ·
  obtain rfl : i = s.length := by omega
  rw [Au] at hnb
  have hsp := qea hnb
  rw [hsp] at heq
  repeat (first | refine aW ?_ | refine aR ?_ | refine aY ?_ | refine aG rfl ?_ | refine aP ?_ | (refine zz rfl ?_; first | refine qac rfl ?_ | refine qaj rfl ?_ | refine qaG rfl ?_ | refine qai rfl rfl rfl (by omega) ?_))
  refine bN mixed (by kernel_rfl) ?_
  repeat (first | refine dr rfl rfl (fun _ hx _ => qac rfl ⟨rfl, rfl⟩) ?_ | refine dr rfl rfl (fun _ hx _ => qaj rfl ⟨rfl, rfl⟩) ?_ | refine dr rfl rfl (fun _ hx _ => qah rfl ⟨rfl, rfl⟩) ?_ | refine dr rfl rfl (fun _ hx _ => qal (v := u) rfl ⟨rfl, rfl⟩) ?_ | refine dr rfl rfl (fun _ hx _ => qa8 (s := s) (l := ((at_ : Nat) : Int)) (m := ((s.length : Nat) : Int)) rfl rfl rfl (by omega) (by omega) (by omega) ⟨rfl, rfl⟩) ?_ | refine dr rfl rfl (fun _ hx _ => qao (v := u) rfl ⟨rfl, rfl⟩) ?_)
  refine aX ?_
  repeat (first | refine aM ?_)
  refine ⟨_, bG rfl, u, ?_, ?_⟩
  ·
   show Value.tuple #[u, str ((s.take s.length).drop at_)] = _
   rw [Au, heq]
  ·
   rw [heq, Ck]
   exact gg
instance i_rparse : FnC prog 27 := ⟨Tryz.f27, func27, by kernel_rfl, by kernel_rfl⟩
theorem layR_yes {s : ScrM} {line : Bytes} (h : (layG s.setup line).2 = true) (ha : s.acts = []) : layR s line = some { s with setup := (layG s.setup line).1 } := by
 unfold layG at h ⊢
 unfold layR
 split at h
 ·
  rename_i hc
  rw [Ah ⟨hc.1, hc.2.1, hc.2.2, ha⟩, Ah hc]
 ·
  cases h
theorem layR_no {s : ScrM} {line : Bytes} (h : ¬ ((layG s.setup line).2 = true ∧ s.acts = [])) : layR s line = if (ulV line).2 = 0 ∧ mayIn s.setup (ulV line).1 = true ∧ s.acts.length < 65536 then some { s with acts := s.acts ++ [(ulV line).1] } else none := by
 unfold layR
 have hn : ¬ ((ungroupR line).2 = true ∧ mayGroup s.setup.nodes (ungroupR line).1 = true ∧ s.setup.groups.length < 5 ∧ s.acts = []) := fun e => h ⟨by unfold layG; rw [Ah ⟨e.1, e.2.1, e.2.2.1⟩], e.2.2.2⟩
 rw [Ac hn]
 unfold ulV
 cases unlineR line with
 | none => exact (Ac fun e => by cases e.1).symm
 | some a => simp
theorem layAll_app (lay : ScrM → Bytes → Option ScrM) : ∀ {l : List Bytes} {s t : ScrM} {n : Nat} (m : List Bytes), layAll lay s n l = (some t, n + l.length) → layAll lay s n (l ++ m) = layAll lay t (n + l.length) m
 | [], s, t, n, m, h => by
  simp only [layAll, Prod.mk.injEq, Option.some.injEq] at h
  rw [h.1]
  rfl
 | x :: l, s, t, n, m, h => by
  rw [layAll] at h
  rw [Bw, layAll]
  cases hx : lay s x with
  | none => rw [hx] at h; cases h
  | some u =>
   rw [hx] at h
   simp only at h ⊢
   have h' : layAll lay u (n + 1) l = (some t, n + 1 + l.length) := by rw [h, Ad]; congr 1; omega
   rw [layAll_app lay m h', Ad]
   congr 1
   omega
end Go.Proofs.YtigmojilaadbhaaGreatDoor
/- . -/
namespace Go.Proofs.YtigmojilaadbhaaGreatDoor
open Go Go.Eng Go.Pln
open Go.Lib hiding splitN
attribute [local irreducible] AWp AL DAL AOp TAL
theorem split_len (s : Bytes) : (∀ y ∈ (splitN s).1, y.length ≤ s.length) ∧ (splitN s).1.length ≤ s.length := by
 have hc := qee s
 have key : ∀ l : List Bytes, (∀ y ∈ l, y.length ≤ (catN l).length) ∧ l.length ≤ (catN l).length := by
  intro l
  induction l with
  | nil => exact ⟨fun y hy => (by cases hy), Ao _⟩
  | cons z l ih =>
   have e : (catN (z :: l)).length = z.length + 1 + (catN l).length := by
    show ((z ++ [10]) ++ catN l).length = _
    simp only [An, Ad, Ag]
   rw [e]
   refine ⟨fun y hy => ?_, by rw [Ad]; omega⟩
   rcases Ak.1 hy with rfl | hy
   ·
    omega
   ·
    have := ih.1 y hy
    omega
 have e := congrArg List.length hc
 rw [An] at e
 obtain ⟨k1, k2⟩ := key (splitN s).1
 exact ⟨fun y hy => by have := k1 y hy; omega, by omega⟩
section
variable {text x : Bytes} {l : List Bytes} (hle : ¬ 1048576 < text.length)
include hle
theorem qhp (h : (splitN text).1 = []) : parseR text = (scr0, 0, 4) := by
 unfold parseR parseW
 rw [Ac hle, h]
theorem qhT (h : (splitN text).1 = x :: l) (hf : (firstR x).2 = false) : parseR text = (scr0, 0, 4) := by
 unfold parseR parseW
 rw [Ac hle, h]
 simp only [hf]
 rfl
theorem parseR_lay (h : (splitN text).1 = x :: l) (hf : (firstR x).2 = true) {n : Nat} (hl : layAll layR ⟨(firstR x).1, []⟩ 1 l = (none, n)) : parseR text = (scr0, (n : Int), 4) := by
 unfold parseR parseW
 rw [Ac hle, h]
 simp only [hf, hl, if_true]
theorem parseR_end (h : (splitN text).1 = x :: l) (hf : (firstR x).2 = true) {n : Nat} {s : ScrM} (hl : layAll layR ⟨(firstR x).1, []⟩ 1 l = (some s, n)) : parseR text = if (splitN text).2 ≠ [] ∨ s.setup.groups.length < 2 then (scr0, (n : Int), 4) else (s, 0, 0) := by
 unfold parseR parseW
 rw [Ac hle, h]
 simp only [hf, hl, if_true]
end
def PaR (h : Heap) (text : Bytes) (u : Value) (h' : Heap) : Prop := ∃ Bg Ba vg va, u = .tuple #[.agg (scrC vg va (parseR text).1.setup).toArray, .int .i64 (parseR text).2.1, .int .i64 (parseR text).2.2] ∧ GO Bg h' vg (parseR text).1.setup.groups ∧ AO Ba h' va (parseR text).1.acts ∧ Ext h h'
structure RpI (h : Heap) (j2 j7 Bv : Nat) (v : Value) (ls l : List Bytes) (x0 : SetM) (k : Nat) (s : ScrM) (H : Heap) : Prop where
 ly : layAll layR ⟨x0, []⟩ 1 (l.take k) = (some s, 1 + k)
 kl : k ≤ l.length
 ext : Ext h H
 wf : WF H
 nx : h.next ≤ H.next
 n2 : h.next ≤ j2
 n7 : h.next ≤ j7
 ne : j2 ≠ j7
 g2 : H.get j2 = some scrB0
 rw_ : OS Bv H 9 v (ls.map str)
 o : ∃ Bg vg va, H.get j7 = some (scrB vg va s.setup) ∧ GO Bg H vg s.setup.groups ∧ AO h.next H va s.acts
end Go.Proofs.YtigmojilaadbhaaGreatDoor
/- . -/
namespace Go.Proofs.YtigmojilaadbhaaGreatDoor
open Go Go.Eng Go.Pln Go.Proofs.Tryz
open Go.Lib hiding splitN
attribute [local irreducible] AWp AL DAL AOp TAL
theorem firstR_grp (z : Bytes) : (firstR z).1.groups = [] := by
 unfold firstR
 split
 ·
  split <;> rfl
 ·
  rfl
theorem GO.setS {B i : Nat} {h : Heap} {vg : Value} {gs : List (List Int)} {x y : Blk} (g : GO B h vg gs) (hi : h.get i = some x) (hx : x.elem = 24) : GO B (h.set i y) vg gs :=
 g.pres fun j b hj he => (aH fun e => by
  subst e; rw [hi] at hj; cases hj
  rcases he with he | he
  ·
   exact qcA.1 (hx.symm.trans he)
  ·
   exact qcA.2 (hx.symm.trans he)).trans hj
theorem ulV_keep (w : Bytes) : (ulV w).1.keep.length ≤ 1000 := by
 unfold ulV
 rw [← unline_eq]
 cases hu : unlineP w with
 | none => exact Ao _
 | some a =>
  have hml := (qbI w a).1 hu
  have hq := (qev (by omega) (by omega) a).1 hml.1
  have := hq.2.2.2.2.2.2.2.2
  unfold kp at this
  rw [Ae] at this
  have := of_decide_eq_true this.2
  show a.keep.length ≤ 1000
  omega
section
variable {x0 : SetM} {l : List Bytes} {k : Nat} {s s' : ScrM} {w : Bytes} (ly : layAll layR ⟨x0, []⟩ 1 (l.take k) = (some s, 1 + k)) (hw : l[k]? = some w)
include ly hw
theorem rp_bad (hn : layR s w = none) : layAll layR ⟨x0, []⟩ 1 l = (none, 1 + k) := by
 have hd : l = l.take k ++ w :: l.drop (k + 1) := by
  obtain ⟨hk, rfl⟩ := Av.1 hw
  conv => lhs; rw [← Dc k l, Dz hk]
 rw [hd, Go.Pln.layAll_app layR _ _ _ ly, layAll, hn]
theorem rp_step (hs : layR s w = some s') : layAll layR ⟨x0, []⟩ 1 (l.take (k + 1)) = (some s', 1 + (k + 1)) := by
 rw [Bf, hw, Go.Pln.layAll_app layR _ _ _ ly]
 show layAll layR s (1 + k) [w] = _
 show (match layR s w with | some t => layAll layR t (1 + k + 1) [] | none => (none, 1 + k)) = _
 rw [hs]
 rfl
end
theorem rparse_c (text : Bytes) (h : Heap) (t : Tabs h) (h8 : 8 ≤ h.next) (hl : text.length ≤ 100000000) : ACalls prog 27 [str text] h fun u h' => PaR h text u h' := by
 refine aL fun wf => ?_
 refine aD func27 rfl rfl ?_
 obtain ⟨sl1, sl2⟩ := split_len text
 repeat (first | refine W.w ?_)
 refine zz rfl (qax ?_)
 refine aS (h := h.alloc scrB0) rfl ?_
 obtain ⟨H1, hQ, e2, ex, w2, n2⟩ := aq wf scrB0
 rw [hQ]
 by_cases hlong : 1048576 < text.length
 ·
  have hbad : parseR text = (scr0, 0, 3) := by unfold parseR parseW; rw [Ah hlong]
  repeat (first | refine W.w ?_ | refine aE rfl ?_ | refine aJ rfl (qaq (vs := scrC nilS nilS set0) rfl rfl rfl rfl e2 rfl ?_) | (refine zz rfl ?_; first | refine qaj rfl ?_ | refine qad rfl ?_ | refine qaG rfl ?_ | refine qak rfl rfl rfl (by omega) ?_ | refine qay (out := scrC nilS nilS set0) rfl rfl ?_))
  exact ⟨_, bY rfl rfl rfl (aF _ _ _) (Aa _), 0, 0, nilS, nilS, by rw [hbad]; rfl, by rw [hbad]; exact dA _ _, by rw [hbad]; exact dF _ _, wf.ext_set ex (Aa _) _⟩
 have hle : text.length ≤ 1048576 := by omega
 repeat (first | refine W.w ?_ | refine aG rfl ?_ | (refine zz rfl ?_; first | refine qaj rfl ?_ | refine qad rfl ?_ | refine qaG rfl ?_ | refine qai rfl rfl rfl (by omega) ?_))
 refine zz rfl (qat (evs := [str text]) rfl rfl ((rsplit_c text H1 (by omega)).mono ?_))
 rintro _ H2 ⟨v, rfl, gw⟩
 have o2 := gw.os
 have x3 := gw.ext
 have w3 := gw.wf
 have n3 := gw.nx
 clear gw
 repeat (first | refine W.w ?_ | (refine zz rfl ?_; first | refine qaC rfl ?_ | refine qah rfl ?_ | refine qav rfl rfl ?_ | refine qao (v := v) rfl ?_))
 refine zz rfl (qax ?_)
 refine aS (h := H2.alloc scrB0) rfl ?_
 have e7 := aB H2 scrB0
 have x4 := w3.ext scrB0
 have w4 := w3.alloc scrB0
 have n4 : (H2.alloc scrB0).next = H2.next + 1 := rfl
 have l2 := w2.lt e2
 generalize H2.alloc scrB0 = H3 at e7 x4 w4 n4 ⊢
 generalize hj7 : H2.next = j7 at e7 n4 ⊢
 replace e2 := x4.c _ _ (x3.c _ _ e2)
 replace ex := ex.trans (x3.trans x4)
 have o3 := bV o2 fun j b hj _ => x4.c j b hj
 generalize hls : (splitN text).1 = ls at sl1 sl2 o3 o2 ⊢
 generalize hrest : (splitN text).2 = rest
 have rs := o3.rs
 obtain ⟨ua, uc, hu⟩ := bC rs
 have hml : (ls.map str).length = ls.length := Ap _
 cases ls with
 | nil =>
  have hbad := qhp hlong hls
  repeat (first | refine W.w ?_ | refine aE rfl ?_ | refine aG rfl ?_ | refine aJ rfl (qaq (vs := scrC nilS nilS set0) rfl rfl rfl rfl e2 rfl ?_) | (refine zz rfl ?_; first | refine qae rfl ?_ | refine qad rfl ?_ | refine qaa rfl ?_ | refine qal (v := v) rfl ?_ | refine qaz rs rfl ?_ | refine qay (out := scrC nilS nilS set0) rfl rfl ?_ | refine qaZ rfl rfl rfl ?_ | refine qaF rfl ?_))
  exact ⟨_, bY rfl rfl rfl (aF _ _ _) (Aa _), 0, 0, nilS, nilS, by rw [hbad]; rfl, by rw [hbad]; exact dA _ _, by rw [hbad]; exact dF _ _, wf.ext_set ex (Aa _) _⟩
 | cons x l =>
  have k0 : ((x :: l).map str)[(0 : Int).toNat]? = some (str x) := rfl
  have hxl := sl1 x Bl
  have hll : (x :: l).length = l.length + 1 := rfl
  repeat (first | refine W.w ?_ | refine aE rfl ?_ | (refine zz rfl ?_; first | refine qae rfl ?_ | refine qaa rfl ?_ | refine qal (v := v) rfl ?_ | refine qaz rs rfl ?_ | refine qak rfl rfl rfl (by omega) ?_ | refine qas rs rfl rfl (by omega) k0 fun _ => ?_ | refine qar (bL rs k0) rfl rfl ?_))
  refine zz rfl (qat (evs := [str x]) rfl rfl ((runfirst_c x H3 (t.ext ex) (by omega)).wf_post.mono ?_))
  rintro _ H4 ⟨⟨rfl, x5⟩, w5, n5⟩
  have q7 := x5.c _ _ e7
  have q2 := x5.c _ _ e2
  repeat (first | refine W.w ?_ | refine aJ rfl (qbt (vs := (setC nilS (firstR x).1).toArray) rfl rfl rfl rfl q7 rfl (Ab rfl) ?_) | (refine zz rfl ?_; first | refine qae rfl ?_ | refine qaC rfl ?_ | refine qaa rfl ?_ | refine qav rfl rfl ?_ | refine qan rfl ?_ | refine qaF rfl ?_))
  have hG : H4.set j7 ⟨splice scrB0.cells 0 (setC nilS (firstR x).1).toArray.toList, scrB0.elem, true⟩ = H4.set j7 (scrB nilS nilS (firstR x).1) := rfl
  rw [hG]
  have c7 := aF H4 j7 (scrB nilS nilS (firstR x).1)
  have c2 : (H4.set j7 (scrB nilS nilS (firstR x).1)).get h.next = some scrB0 := (aH (by omega)).trans q2
  have cx : Ext h (H4.set j7 (scrB nilS nilS (firstR x).1)) := wf.ext_set (ex.trans x5) (by omega) _
  have cw : WF (H4.set j7 (scrB nilS nilS (firstR x).1)) := w5.set (w5.lt q7) _
  have cn : h.next ≤ (H4.set j7 (scrB nilS nilS (firstR x).1)).next := by show h.next ≤ H4.next; omega
  have co : OS H1.next (H4.set j7 (scrB nilS nilS (firstR x).1)) 9 v ((x :: l).map str) := bV (bV o3 fun j b hj _ => x5.c j b hj) (qbT q7 (by decide))
  generalize H4.set j7 (scrB nilS nilS (firstR x).1) = H5 at c7 c2 cx cw cn co ⊢
  clear e2 ex e7 x4 w4 x3 w3 o2 o3 x5 w5 n5 q7 q2 hG rs
  cases hf : (firstR x).2 with
  | false =>
   have hbad := qhT hlong hls hf
   have e2 := c2
   have ex := cx
   repeat (first | refine W.w ?_ | refine aE rfl ?_ | refine zz rfl (qad rfl ?_) | refine zz rfl (qay (out := scrC nilS nilS set0) rfl rfl ?_) | refine aJ rfl (qaq (vs := scrC nilS nilS set0) rfl rfl rfl rfl e2 rfl ?_))
   exact ⟨_, bY rfl rfl rfl (aF _ _ _) (Aa _), 0, 0, nilS, nilS, by rw [hbad]; rfl, by rw [hbad]; exact dA _ _, by rw [hbad]; exact dF _ _, wf.ext_set ex (Aa _) _⟩
  | true =>
   have i0 : RpI h h.next j7 H1.next v (x :: l) l (firstR x).1 0 ⟨(firstR x).1, []⟩ H5 := ⟨rfl, Ao _, cx, cw, cn, Aa _, by omega, by omega, c2, co, 0, nilS, nilS, c7, by rw [firstR_grp]; exact dA _ _, dF _ _⟩
   have h7 : h.next < j7 := by omega
   clear c7 c2 cx cw cn co
   repeat (first | refine W.w ?_ | refine aG rfl ?_ | refine zz rfl (qad rfl ?_))
   refine bB (α := Nat × ScrM × Heap) (fun d => [(2, ptr h.next), (5, v), (6, str rest), (7, ptr j7), (9, .int .i64 ((1 + d.1 : Nat) : Int))]) (fun d => d.2.2) (fun d => RpI h h.next j7 H1.next v (x :: l) l (firstR x).1 d.1 d.2.1 d.2.2) (fun d => l.length - d.1) (0, ⟨(firstR x).1, []⟩, H5) i0
    (aI (aA rfl (aA rfl (aA rfl (aA rfl (aA rfl aN)))))) ?_
   rintro ⟨k, s, H⟩ ii
   replace ii : RpI h h.next j7 H1.next v (x :: l) l (firstR x).1 k s H := ii
   show AWp _ _ _ _ [(2, ptr h.next), (5, v), (6, str rest), (7, ptr j7), (9, .int .i64 ((1 + k : Nat) : Int))] H
   clear i0
   obtain ⟨Bg, vg, va, o7, og, oa⟩ := ii.o
   have o2 := ii.g2
   have hkl := ii.kl
   have hnx := ii.nx
   have ort := ii.rw_
   have tH := t.ext ii.ext
   have rs := ort.rs
   have gl := og.len
   have al := oa.len
   obtain ⟨vs, p1, p2, p3⟩ := og.ex
   by_cases hlt : k < l.length
   ·
    obtain ⟨w, hw⟩ := gX (l := l) (k := k) hlt
    have kw : ((x :: l).map str)[((1 + k : Nat) : Int).toNat]? = some (str w) := by
     rw [Dq, Bm, Ei, Di, hw]; rfl
    have hwl := sl1 w (Ay _ (Aw hw))
    repeat (first | refine W.w ?_ | refine aE rfl ?_ | (refine zz rfl ?_; first | refine qac rfl ?_ | refine qal (v := v) rfl ?_ | refine qaz rs rfl ?_ | refine qak rfl rfl rfl (by omega) ?_))
    refine AWp.cutI (α := Nat × Nat × Value × Heap) (fun d => [(2, ptr h.next), (5, v), (6, str rest), (7, ptr j7), (9, .int .i64 ((1 + k : Nat) : Int)), (10, ptr d.1), (11, .bool (layG s.setup w).2)]) (fun d => d.2.2.2)
     (fun d => d.2.2.2.get d.1 = some ⟨setC d.2.2.1 (layG s.setup w).1, 24, true⟩ ∧ GO d.2.1 d.2.2.2 d.2.2.1 (layG s.setup w).1.groups ∧ Ext H d.2.2.2 ∧ WF d.2.2.2 ∧ H.next ≤ d.2.2.2.next ∧ H.next ≤ d.1) ?_ ?_
    ·
     refine cD (t := OT.seq [(0, .P), (1, .R), (2, .P), (3, .P), (4, .R), (5, .R)] (.alt (OT.seq [(6, .X), (7, .P), (8, .P), (9, .P), (10, .X), (11, .W), (12, .P)] .nil) (OT.seq [(10, .X), (6, .X), (7, .P), (8, .P), (9, .P), (11, .W), (12, .P)] .nil))) mixed (by kernel_rfl) ?_
     repeat (first | refine tr rfl rfl (fun _ hx _ => qam (sz := 5) rfl rfl (hx.c _ _ o7) (Ab rfl) ⟨rfl, rfl⟩) ?_ | refine tr rfl rfl (fun _ hx _ => qas (rs.ext hx) rfl rfl (by omega) kw fun _ => ⟨rfl, rfl⟩) ?_ | refine tr rfl rfl (fun _ hx _ => qar (bL (rs.ext hx) kw) rfl rfl ⟨rfl, rfl⟩) ?_ | refine tp rfl rfl (fun h' hn => qac rfl ⟨rfl, rfl⟩) ?_ | refine tp rfl rfl (fun h' hn => qan rfl ⟨rfl, rfl⟩) ?_ | refine tp rfl rfl (fun h' hn => qal (v := v) rfl ⟨rfl, rfl⟩) ?_)
     refine TAL.two ?_ ?_
     ·
      refine cW rfl rfl rfl (qat (evs := [.agg (setC vg s.setup).toArray, str w]) rfl rfl ((rlay_c s.setup vg w H tH og (by omega)).wf_post.mono ?_))
      rintro _ K ⟨⟨B', vg', rfl, gK, xK⟩, wK, nK⟩
      refine ⟨xK, ?_⟩
      repeat (first | refine tp rfl rfl (fun h' hn => qaC rfl ⟨rfl, rfl⟩) ?_ | refine tp rfl rfl (fun h' hn => qav rfl rfl ⟨rfl, rfl⟩) ?_)
      refine cW rfl rfl rfl (qax ⟨wK.ext _, ?_⟩)
      have g1 := aB K (setB set0)
      refine dG rfl rfl (qaq (vs := setC vg' (layG s.setup w).1) rfl rfl rfl (qeF gK.one _) g1 rfl ?_)
      repeat (first | refine tp rfl rfl (fun h' hn => qaa rfl ⟨rfl, rfl⟩) ?_)
      refine bD ?_
      exact ⟨(K.next, B', vg', (K.alloc (setB set0)).set K.next ⟨setC vg' (layG s.setup w).1, 24, true⟩), ⟨aF _ _ _, (gK.pres fun j b hj _ => (wK.ext (setB set0)).c j b hj).setS g1 rfl, wK.ext_set (wK.ext _) (Aa _) _ |> xK.trans, (wK.alloc _).set ((wK.alloc _).lt g1) _, by show H.next ≤ K.next + 1; omega, nK⟩, aI (aA rfl (aA rfl (aA rfl (aA rfl (aA rfl (aA rfl (aA rfl aN)))))))⟩
     ·
      have g1 := aB H (setB set0)
      have x1 := ii.wf.ext (setB set0)
      have w1 := ii.wf.alloc (setB set0)
      refine cW rfl rfl rfl (qax ⟨ii.wf.ext _, ?_⟩)
      refine cW rfl rfl rfl (qat (evs := [.agg (setC vg s.setup).toArray, str w]) rfl rfl ((rlay_c s.setup vg w (H.alloc (setB set0)) (tH.ext x1) (og.pres fun j b hj _ => x1.c j b hj) (by omega)).wf_post.mono ?_))
      rintro _ K ⟨⟨B', vg', rfl, gK, xK⟩, wK, nK⟩
      refine ⟨xK, ?_⟩
      have g2 := xK.c _ _ g1
      have nK' : H.next + 1 ≤ K.next := nK
      repeat (first | refine tp rfl rfl (fun h' hn => qaC rfl ⟨rfl, rfl⟩) ?_ | refine tp rfl rfl (fun h' hn => qav rfl rfl ⟨rfl, rfl⟩) ?_)
      refine dG rfl rfl (qaq (vs := setC vg' (layG s.setup w).1) rfl rfl rfl (qeF gK.one _) g2 rfl ?_)
      repeat (first | refine tp rfl rfl (fun h' hn => qaa rfl ⟨rfl, rfl⟩) ?_)
      refine bD ?_
      exact ⟨(H.next, B', vg', K.set H.next ⟨setC vg' (layG s.setup w).1, 24, true⟩), ⟨aF _ _ _, gK.setS g2 rfl, ii.wf.ext_set (x1.trans xK) (Aa _) _, wK.set (wK.lt g2) _, by show H.next ≤ K.next; omega, Aa _⟩, aI (aA rfl (aA rfl (aA rfl (aA rfl (aA rfl (aA rfl (aA rfl aN)))))))⟩
    ·
     rintro ⟨j10, B', vg', K⟩ ⟨g10, gK, xK, wK, nK, n10⟩
     replace g10 : K.get j10 = some ⟨setC vg' (layG s.setup w).1, 24, true⟩ := g10
     replace gK : GO B' K vg' (layG s.setup w).1.groups := gK
     replace xK : Ext H K := xK
     replace wK : WF K := wK
     replace nK : H.next ≤ K.next := nK
     replace n10 : H.next ≤ j10 := n10
     show AWp _ _ _ _ [(2, ptr h.next), (5, v), (6, str rest), (7, ptr j7), (9, .int .i64 ((1 + k : Nat) : Int)), (10, ptr j10), (11, .bool (layG s.setup w).2)] K
     have p7 := xK.c _ _ o7
     have p2 := xK.c _ _ o2
     have l7 := ii.wf.lt o7
     have xk := ii.ext.trans xK
     have tK := t.ext xk
     have ak := oa.pres fun j b hj _ => xK.c j b hj
     have gk := og.pres fun j b hj _ => xK.c j b hj
     have ok := bV ort fun j b hj _ => xK.c j b hj
     obtain ⟨rows, d1, d2, d3⟩ := ak.ex
     have hn7 : h.next ≤ K.next := by omega
     by_cases hP : (layG s.setup w).2 = true ∧ s.acts = []
     ·
      have hs := layR_yes hP.1 hP.2
      have ha0 : rows.length = 0 := by rw [d2, hP.2]; rfl
      have hv1 : (setC vg' (layG s.setup w).1).all oneB = true := qeF gK.one _
      rw [hP.1]
      repeat (first | refine aW ?_ | refine aR ?_ | refine aY ?_ | refine aE rfl ?_ | refine aP ?_ | refine aJ rfl (qbt (vs := (setC vg' (layG s.setup w).1).toArray) rfl rfl hv1 rfl p7 rfl (Ab rfl) ?_) | (refine zz rfl ?_; first | refine qac rfl ?_ | refine qae rfl ?_ | refine qad rfl ?_ | refine qan rfl ?_ | refine qaf rfl rfl p7 rfl ?_ | refine qaA d1.rn rfl ?_ | refine qak rfl rfl rfl (by omega) ?_ | refine qag (v := .bool _) rfl rfl ?_ | refine qam (sz := 5) rfl rfl g10 (Aa _) ?_ | refine qau rfl rfl (by omega) ?_))
      have hG : K.set j7 ⟨splice (scrB vg va s.setup).cells 0 (setC vg' (layG s.setup w).1).toArray.toList, (scrB vg va s.setup).elem, true⟩ = K.set j7 (scrB vg' va (layG s.setup w).1) := rfl
      rw [hG]
      refine ⟨(k + 1, { s with setup := (layG s.setup w).1 }, K.set j7 (scrB vg' va (layG s.setup w).1)), ⟨rp_step ii.ly hw hs, hlt, wf.ext_set xk ii.n7 _, wK.set (wK.lt p7) _, hn7, ii.n2, ii.n7, ii.ne, (aH ii.ne).trans p2, bV ok (qbT p7 (show (44 : TypeId) ≠ 9 by decide)), B', vg', va, aF _ _ _, gK.set p7 rfl, ak.set p7 rfl⟩, by show l.length - (k + 1) < l.length - k; omega, aI (aA rfl (aA rfl (aA rfl (aA rfl (aA rfl aN)))))⟩
     ·
      have hno := layR_no hP
      refine AWp.cutI (α := Unit) (fun _ => [(2, ptr h.next), (5, v), (6, str rest), (7, ptr j7), (9, .int .i64 ((1 + k : Nat) : Int))]) (fun _ => K) (fun _ => True) ?_ ?_
      ·
       cases hlg : (layG s.setup w).2 with
       | false =>
        repeat (first | refine W.w ?_ | refine aK rfl rfl ?_ | refine aG rfl ?_ | refine zz rfl (qae rfl ?_) | refine zz rfl (qag (v := .bool _) rfl rfl ?_))
        exact ⟨(), trivial, aI (aA rfl (aA rfl (aA rfl (aA rfl (aA rfl aN)))))⟩
       | true =>
        have ha0 : rows.length ≠ 0 := fun e => hP ⟨hlg, Ce.1 (d2 ▸ e)⟩
        repeat (first | refine W.w ?_ | refine aG rfl ?_ | (refine zz rfl ?_; first | refine qae rfl ?_ | refine qan rfl ?_ | refine qaf rfl rfl p7 rfl ?_ | refine qaA d1.rn rfl ?_ | refine qai rfl rfl rfl (by omega) ?_ | refine qag (v := .bool _) rfl rfl ?_))
        exact ⟨(), trivial, aI (aA rfl (aA rfl (aA rfl (aA rfl (aA rfl aN)))))⟩
      ·
       rintro _ _
       have rk := ok.rs
       clear g10 gK d1 d2 d3
       repeat (first | refine W.w ?_ | (refine zz rfl ?_; first | refine qac rfl ?_ | refine qal (v := v) rfl ?_ | refine qas rk rfl rfl (by omega) kw fun _ => ?_ | refine qar (bL rk kw) rfl rfl ?_))
       refine zz rfl (qat (evs := [str w]) rfl rfl ((runline_c w K tK (by omega) (by omega)).wf_post.mono ?_))
       rintro _ K1 ⟨⟨q, rfl, oq, x1⟩, w1, n1⟩
       have hkl1 := ulV_keep w
       have ar := oq.r (by omega)
       have e1 := qaO ar
       repeat (first | (refine zz rfl ?_; first | refine qaC rfl ?_ | refine qav rfl rfl ?_ | refine qax ?_))
       refine aJ rfl (qaL (vs := actC q (ulV w).1) rfl rfl rfl rfl e1 ?_)
       refine aS (h := K1.alloc ⟨actC q (ulV w).1, 40, true⟩) rfl ?_
       obtain ⟨G, hQ, g2, z2, w2', n2'⟩ := aq w1 ⟨actC q (ulV w).1, 40, true⟩
       rw [hQ]
       have xG := x1.trans z2
       have f7 := xG.c _ _ p7
       have f2 := xG.c _ _ p2
       have xg := xk.trans xG
       have ag := ak.pres fun j b hj _ => xG.c j b hj
       have gg := gk.pres fun j b hj _ => xG.c j b hj
       have og1 := bV ok fun j b hj _ => xG.c j b hj
       have oq2 : ActO K.next G q (ulV w).1 := oq.ext z2
       have ar2 := oq2.r (by omega)
       obtain ⟨rows, d1, d2, d3⟩ := ag.ex
       have hbad0 := fun (hn : layR s w = none) => parseR_lay hlong hls hf (rp_bad ii.ly hw hn)
       have cm := rmayIn_c s.setup vg q (ulV w).1 G gg.rg ar2
       by_cases he : (ulV w).2 = 0
       ·
        cases hmi : mayIn s.setup (ulV w).1 with
        | false =>
         rw [hmi] at cm
         have hbad := hbad0 (by rw [hno, Ac fun e => by rw [hmi] at e; cases e.2.1])
         repeat (first | refine W.w ?_ | refine aK rfl rfl ?_ | refine aE rfl ?_ | refine aJ rfl (qaq (vs := scrC nilS nilS set0) rfl rfl rfl rfl f2 rfl ?_) | (refine zz rfl ?_; first | refine qac rfl ?_ | refine qae rfl ?_ | refine qad rfl ?_ | refine qai rfl rfl rfl (by omega) ?_ | refine qan rfl ?_ | refine qam (sz := 5) rfl rfl f7 (Ab rfl) ?_ | refine qam (sz := 33) rfl rfl g2 (Aa _) ?_ | refine qab rfl rfl cm ?_ | refine qag (v := .bool _) rfl rfl ?_ | refine qay (out := scrC nilS nilS set0) rfl rfl ?_ | refine qaF rfl ?_))
         exact ⟨_, bY rfl rfl rfl (aF _ _ _) (Aa _), 0, 0, nilS, nilS, by rw [hbad]; rfl, by rw [hbad]; exact dA _ _, by rw [hbad]; exact dF _ _, wf.ext_set xg (Aa _) _⟩
        | true =>
         rw [hmi] at cm
         by_cases hfull : s.acts.length < 65536
         ·
          have hs : layR s w = some { s with acts := s.acts ++ [(ulV w).1] } := by rw [hno, Ah ⟨he, hmi, hfull⟩]
          repeat (first | refine W.w ?_ | refine aG rfl ?_ | (refine zz rfl ?_; first | refine qac rfl ?_ | refine qae rfl ?_ | refine qad rfl ?_ | refine qai rfl rfl rfl (by omega) ?_ | refine qan rfl ?_ | refine qam (sz := 5) rfl rfl f7 (Ab rfl) ?_ | refine qam (sz := 33) rfl rfl g2 (Aa _) ?_ | refine qab rfl rfl cm ?_ | refine qaf rfl rfl f7 rfl ?_ | refine qaA d1.rn rfl ?_ | refine qag (v := .bool _) rfl rfl ?_ | refine qaF rfl ?_))
          refine zz rfl (qd5 (sz := 33) (row := actC q (ulV w).1) (by decide) (by decide) rfl rfl ?_)
          obtain ⟨G2, hQ, gr, xr, wr, nr⟩ := aq w2' ⟨actC q (ulV w).1, 40, true⟩
          rw [hQ]
          have rb : RN 33 G2 (.slice (some ⟨G.next, 0, some 33⟩) 1 1) [actC q (ulV w).1] := RN.row1 rfl gr
          have d14 := d1.ext xr
          refine zz rfl (qcy (m := 1) (B := h.next) (e := 40) (news := [actC q (ulV w).1]) rfl wr (by omega) d14 rfl rfl rb.src rfl (by intro w hw; rw [Ax.1 hw]; rfl) (by simpa using qaO ar2) (by rw [d2]; simp only [maxLen]; omega) (by rw [d2]; omega) ?_)
          intro u' G3 o5 _ k5 wf5 n5
          have p5 := qfH k5 d14
          have e5 := p5 _ _ (xr.c _ _ f7) (.inr qc0.2.2.1)
          have f25 := p5 _ _ (xr.c _ _ f2) (.inr qc0.2.2.1)
          have sg : GO Bg G3 vg s.setup.groups := (gg.pres fun j b hj _ => xr.c j b hj).pres fun j b hj he => p5 j b hj (.inr (by rcases he with he | he <;> rw [he] <;> decide))
          have sa : AO h.next G3 u' (s.acts ++ [(ulV w).1]) := by
           refine ⟨⟨rows ++ [actC q (ulV w).1], o5, by simp [d2], fun k w' g hw' hg => ?_⟩, by rw [An, Ad, Ag]; omega, fun g hg => ?_⟩
           ·
            rcases Bx k rows.length with hk | hk
            ·
             rw [Bs hk] at hw'
             rw [Bs (by omega)] at hg
             obtain ⟨q', er, B', h4⟩ := d3 k w' g hw' hg
             exact ⟨q', er, B', h4.elem (fun j b hj he => p5 j b (xr.c j b hj) (.inr (by rw [he]; decide))) (fun j b hj he => p5 j b (xr.c j b hj) (.inr (by rw [he]; decide)))⟩
            ·
             rw [Bn hk] at hw'
             rw [Bn (by omega)] at hg
             have hk0 : k - rows.length = 0 := by
              have := (Av.1 hw').1
              simp at this; omega
             rw [hk0] at hw'
             rw [show k - s.acts.length = 0 by omega] at hg
             simp at hw' hg
             subst hw' hg
             exact ⟨q, rfl, _, oq2.elem (fun j b hj he => p5 j b (xr.c j b hj) (.inr (by rw [he]; decide))) (fun j b hj he => p5 j b (xr.c j b hj) (.inr (by rw [he]; decide)))⟩
           ·
            rcases Bh.1 hg with hg | hg
            ·
             exact ag.all g hg
            ·
             rw [Ax.1 hg]; exact hkl1
          repeat (first | refine W.w ?_ | refine aJ rfl (qaw (b := scrB vg va s.setup) rfl rfl o5.one e5 rfl (by exact Ab rfl) ?_) | (refine zz rfl ?_; first | refine qac rfl ?_ | refine qad rfl ?_ | refine qan rfl ?_ | refine qau rfl rfl (by omega) ?_))
          have x3 : Ext h G3 := (Kp2.act (i := j7) k5 d14 n5).over wf (Aa _) ii.n7 (xg.trans xr)
          refine ⟨(k + 1, { s with acts := s.acts ++ [(ulV w).1] }, G3.set j7 (scrB vg u' s.setup)), ⟨rp_step ii.ly hw hs, hlt, wf.ext_set x3 ii.n7 _, wf5.set (wf5.lt e5) _, by show h.next ≤ G3.next; omega, ii.n2, ii.n7, ii.ne, (aH ii.ne).trans f25, bV (bV (bV og1 fun j b hj _ => xr.c j b hj) fun j b hj he => p5 j b hj (.inr (by rw [he]; decide))) (qbT e5 (show (44 : TypeId) ≠ 9 by decide)), Bg, vg, u', aF _ _ _, sg.set e5 rfl, sa.set e5 rfl⟩, by show l.length - (k + 1) < l.length - k; omega, aI (aA rfl (aA rfl (aA rfl (aA rfl (aA rfl aN)))))⟩
         ·
          have hbad := hbad0 (by rw [hno, Ac fun e => hfull e.2.2])
          repeat (first | refine W.w ?_ | refine aE rfl ?_ | refine aJ rfl (qaq (vs := scrC nilS nilS set0) rfl rfl rfl rfl f2 rfl ?_) | (refine zz rfl ?_; first | refine qac rfl ?_ | refine qae rfl ?_ | refine qad rfl ?_ | refine qak rfl rfl rfl (by omega) ?_ | refine qai rfl rfl rfl (by omega) ?_ | refine qan rfl ?_ | refine qam (sz := 5) rfl rfl f7 (Ab rfl) ?_ | refine qam (sz := 33) rfl rfl g2 (Aa _) ?_ | refine qab rfl rfl cm ?_ | refine qaf rfl rfl f7 rfl ?_ | refine qaA d1.rn rfl ?_ | refine qag (v := .bool _) rfl rfl ?_ | refine qay (out := scrC nilS nilS set0) rfl rfl ?_ | refine qaF rfl ?_))
          exact ⟨_, bY rfl rfl rfl (aF _ _ _) (Aa _), 0, 0, nilS, nilS, by rw [hbad]; rfl, by rw [hbad]; exact dA _ _, by rw [hbad]; exact dF _ _, wf.ext_set xg (Aa _) _⟩
       ·
        have hbad := hbad0 (by rw [hno, Ac fun e => he e.1])
        repeat (first | refine W.w ?_ | refine aK rfl rfl ?_ | refine aE rfl ?_ | refine aJ rfl (qaq (vs := scrC nilS nilS set0) rfl rfl rfl rfl f2 rfl ?_) | (refine zz rfl ?_; first | refine qac rfl ?_ | refine qae rfl ?_ | refine qad rfl ?_ | refine qak rfl rfl rfl (by omega) ?_ | refine qag (v := .bool _) rfl rfl ?_ | refine qay (out := scrC nilS nilS set0) rfl rfl ?_))
        exact ⟨_, bY rfl rfl rfl (aF _ _ _) (Aa _), 0, 0, nilS, nilS, by rw [hbad]; rfl, by rw [hbad]; exact dA _ _, by rw [hbad]; exact dF _ _, wf.ext_set xg (Aa _) _⟩
   ·
    obtain rfl : k = l.length := by omega
    have hly := ii.ly
    rw [Au] at hly
    have hend := parseR_end hlong hls hf hly
    rw [hrest] at hend
    by_cases hr : rest = []
    ·
     by_cases hg2 : s.setup.groups.length < 2
     ·
      have hbad : parseR text = (scr0, ((1 + l.length : Nat) : Int), 4) := by rw [hend, Ah (.inr hg2)]
      repeat (first | refine aW ?_ | refine aR ?_ | refine aY ?_ | refine aE rfl ?_ | refine aG rfl ?_ | refine aM ?_ | refine aP ?_ | refine aJ rfl (qaq (vs := scrC nilS nilS set0) rfl rfl rfl rfl o2 rfl ?_) | (refine zz rfl ?_; first | refine qac rfl ?_ | refine qae rfl ?_ | refine qaj rfl ?_ | refine qad rfl ?_ | refine qal (v := v) rfl ?_ | refine qaz rs rfl ?_ | refine qak rfl rfl rfl (by omega) ?_ | refine qai rfl rfl rfl (by omega) ?_ | refine qbi (a := rest) (b := []) rfl rfl hr ?_ | refine qan rfl ?_ | refine qaf rfl rfl o7 rfl ?_ | refine qaz p1.rs rfl ?_ | refine qag (v := .bool _) rfl rfl ?_ | refine qay (out := scrC nilS nilS set0) rfl rfl ?_))
      exact ⟨_, bY rfl rfl rfl (aF _ _ _) (Aa _), 0, 0, nilS, nilS, by rw [hbad, show ((1 + l.length : Nat) : Int) = (((x :: l).map str).length : Nat) by rw [hml, hll, Ei]]; rfl, by rw [hbad]; exact dA _ _, by rw [hbad]; exact dF _ _, wf.ext_set ii.ext (Aa _) _⟩
     ·
      have hgood : parseR text = (s, 0, 0) := by rw [hend, Ac fun e => e.elim (fun e => e hr) hg2]
      repeat (first | refine aW ?_ | refine aR ?_ | refine aY ?_ | refine aG rfl ?_ | refine aM ?_ | refine aP ?_ | refine dD ?_ | refine aJ rfl (qaq (vs := scrC vg va s.setup) rfl rfl rfl (qcB og.one oa.one _) o2 rfl ?_) | (refine zz rfl ?_; first | refine qac rfl ?_ | refine qae rfl ?_ | refine qaj rfl ?_ | refine qad rfl ?_ | refine qal (v := v) rfl ?_ | refine qaz rs rfl ?_ | refine qai rfl rfl rfl (by omega) ?_ | refine qbi (a := rest) (b := []) rfl rfl hr ?_ | refine qan rfl ?_ | refine qaf rfl rfl o7 rfl ?_ | refine qaz p1.rs rfl ?_ | refine qag (v := .bool _) rfl rfl ?_ | refine qam (sz := 6) rfl rfl o7 (Aa _) ?_))
      exact ⟨_, bY rfl rfl rfl (aF _ _ _) (Aa _), Bg, h.next, vg, va, by rw [hgood]; rfl, by rw [hgood]; exact og.set o2 rfl, by rw [hgood]; exact oa.set o2 rfl, wf.ext_set ii.ext (Aa _) _⟩
    ·
     have hbad : parseR text = (scr0, ((1 + l.length : Nat) : Int), 4) := by rw [hend, Ah (.inl hr)]
     repeat (first | refine aW ?_ | refine aK rfl rfl ?_ | refine aR ?_ | refine aY ?_ | refine aE rfl ?_ | refine aG rfl ?_ | refine aM ?_ | refine aP ?_ | refine aJ rfl (qaq (vs := scrC nilS nilS set0) rfl rfl rfl rfl o2 rfl ?_) | (refine zz rfl ?_; first | refine qac rfl ?_ | refine qae rfl ?_ | refine qaj rfl ?_ | refine qad rfl ?_ | refine qal (v := v) rfl ?_ | refine qaz rs rfl ?_ | refine qai rfl rfl rfl (by omega) ?_ | refine qbg (a := rest) (b := []) rfl rfl hr ?_ | refine qag (v := .bool _) rfl rfl ?_ | refine qay (out := scrC nilS nilS set0) rfl rfl ?_))
     exact ⟨_, bY rfl rfl rfl (aF _ _ _) (Aa _), 0, 0, nilS, nilS, by rw [hbad, show ((1 + l.length : Nat) : Int) = (((x :: l).map str).length : Nat) by rw [hml, hll, Ei]]; rfl, by rw [hbad]; exact dA _ _, by rw [hbad]; exact dF _ _, wf.ext_set ii.ext (Aa _) _⟩
end Go.Proofs.YtigmojilaadbhaaGreatDoor
/- . -/
namespace Go.Proofs.YtigmojilaadbhaaGreatDoor
open Go Go.Eng Go.Pln Go.Lib Go.Proofs.Tryz
attribute [local irreducible] AWp AL DAL AOp TAL
instance i_rsame : FnC prog 28 := ⟨Tryz.f28, func28, by kernel_rfl, by kernel_rfl⟩
theorem rsame_c (a b : ScrM) (va vb ua ub : Value) (h : Heap) (t : Tabs h) (ja : SetJ a.setup) (jb : SetJ b.setup) (ra : RG h va a.setup.groups) (rb : RG h vb b.setup.groups) (sa : RA h ua a.acts) (sb : RA h ub b.acts) : ACalls prog 28 [.agg (scrC va ua a.setup).toArray, .agg (scrC vb ub b.setup).toArray] h fun u h' => u = .bool (decide (a = b)) ∧ h' = h := by
 refine aL fun wf => aO ?_
 refine aD func28 rfl rfl ?_
 repeat (first | refine W.w ?_ | refine zz rfl (qaa rfl ?_) | refine zz rfl (qaS rfl (by intro e; cases e) ?_))
 generalize hH : h.alloc _ = H1
 have hg0 : H1.get h.next = some ⟨scrC va ua a.setup, 44, true⟩ := hH ▸ aB _ _
 have hx1 : Ext h H1 := hH ▸ wf.ext _
 have wf1 : WF H1 := hH ▸ wf.alloc _
 skip
 generalize hH2 : H1.alloc _ = H
 have hg2 : H.get H1.next = some ⟨scrC vb ub b.setup, 44, true⟩ := hH2 ▸ aB _ _
 have hx2 : Ext H1 H := hH2 ▸ wf1.ext _
 have hg1 : H.get h.next = some ⟨scrC va ua a.setup, 44, true⟩ := hx2.c _ _ hg0
 have xh : Ext h H := hx1.trans hx2
 clear hH hH2
 have tH := t.ext xh
 have cS := rsameSet_c a.setup b.setup va vb H tH ja jb (ra.ext xh) (rb.ext xh)
 have la := sa.len
 have lb := sb.len
 obtain ⟨ws, q1, q2, q3⟩ := (sa.ext xh).ex
 obtain ⟨us, p1, p2, p3⟩ := (sb.ext xh).ex
 by_cases hs : a.setup = b.setup
 ·
  rw [Al hs] at cS
  by_cases hl : a.acts.length = b.acts.length
  ·
   repeat (first | refine W.w ?_ | refine aG rfl ?_ | (refine zz rfl ?_; first | refine qae rfl ?_ | refine qad rfl ?_ | refine qan rfl ?_ | refine qam (sz := 5) rfl rfl hg1 (Ab rfl) ?_ | refine qam (sz := 5) rfl rfl hg2 (Ab rfl) ?_ | refine qab rfl rfl cS ?_ | refine qaf rfl rfl hg1 rfl ?_ | refine qaf rfl rfl hg2 rfl ?_ | refine qaA q1 rfl ?_ | refine qaA p1 rfl ?_ | refine qai rfl rfl rfl (by omega) ?_ | refine qag (v := .bool _) rfl rfl ?_ | refine qaF rfl ?_))
   refine bB (α := Nat) (fun k => [(2, ptr h.next), (3, ptr H1.next), (4, .bool false), (5, .int .i64 (k : Nat))]) (fun _ => H) (fun k => k ≤ a.acts.length ∧ a.acts.take k = b.acts.take k) (fun k => a.acts.length - k) 0 ⟨Ao _, rfl⟩ (aI (aA rfl (aA rfl (aA rfl (aA rfl aN))))) ?_
   rintro k ⟨hk, hta⟩
   by_cases hlt : k < a.acts.length
   ·
    obtain ⟨g1, e1⟩ := gX (l := a.acts) (k := k) hlt
    obtain ⟨g2, e2⟩ := gX (l := b.acts) (k := k) (by omega)
    obtain ⟨w1, e3⟩ := gX (l := ws) (k := k) (by omega)
    obtain ⟨w2, e4⟩ := gX (l := us) (k := k) (by omega)
    obtain ⟨x1, rfl, o1⟩ := q3 k w1 g1 e3 e1
    obtain ⟨x2, rfl, o2⟩ := p3 k w2 g2 e4 e2
    have k1 : ws[((k : Nat) : Int).toNat]? = some (actC x1 g1) := e3
    have k2 : us[((k : Nat) : Int).toNat]? = some (actC x2 g2) := e4
    have d1 := q1.elt k1
    have d2 := p1.elt k2
    have c1 := fun (G : Heap) (hx : Ext H G) => qdr x1 x2 g1 g2 G (o1.ext hx) (o2.ext hx)
    repeat (first | refine W.w ?_ | refine aE rfl ?_ | (refine zz rfl ?_; first | refine qac rfl ?_ | refine qan rfl ?_ | refine qaf rfl rfl hg1 rfl ?_ | refine qaA q1 rfl ?_ | refine qak rfl rfl rfl (by omega) ?_))
    by_cases he : g1 = g2
    ·
     rw [Al he] at c1
     refine bN mixed (by kernel_rfl) ?_
     repeat (first | refine dr rfl rfl (fun _ hx _ => qac rfl ⟨rfl, rfl⟩) ?_ | refine dr rfl rfl (fun _ hx _ => qan rfl ⟨rfl, rfl⟩) ?_ | refine dr rfl rfl (fun _ hx _ => qaf rfl rfl (hx.c _ _ hg1) rfl ⟨rfl, rfl⟩) ?_ | refine dr rfl rfl (fun _ hx _ => qaf rfl rfl (hx.c _ _ hg2) rfl ⟨rfl, rfl⟩) ?_ | refine dr rfl rfl (fun _ hx _ => qaD (q1.ext hx) rfl rfl (by omega) k1 ⟨rfl, rfl⟩) ?_ | refine dr rfl rfl (fun _ hx _ => qaD (p1.ext hx) rfl rfl (by omega) k2 ⟨rfl, rfl⟩) ?_ | refine dr rfl rfl (fun _ hx _ => qaW (d1.ext hx) rfl rfl rfl ⟨rfl, rfl⟩) ?_ | refine dr rfl rfl (fun _ hx _ => qaW (d2.ext hx) rfl rfl rfl ⟨rfl, rfl⟩) ?_ | refine dr rfl rfl (fun _ hx _ => qab rfl rfl (c1 _ hx) ⟨rfl, rfl⟩) ?_ | refine dr rfl rfl (fun _ hx _ => qaF rfl ⟨rfl, rfl⟩) ?_)
     refine aX ?_
     repeat (first | refine W.w ?_ | refine aG rfl ?_ | (refine zz rfl ?_; first | refine qac rfl ?_ | refine qad rfl ?_ | refine qau rfl rfl (by omega) ?_))
     exact ⟨k + 1, ⟨hlt, qgY hta e1 e2 he⟩, by omega, aI (aA rfl (aA rfl (aA rfl (aA rfl aN))))⟩
    ·
     rw [Af he] at c1
     refine bN mixed (by kernel_rfl) ?_
     repeat (first | refine dr rfl rfl (fun _ hx _ => qac rfl ⟨rfl, rfl⟩) ?_ | refine dr rfl rfl (fun _ hx _ => qan rfl ⟨rfl, rfl⟩) ?_ | refine dr rfl rfl (fun _ hx _ => qaf rfl rfl (hx.c _ _ hg1) rfl ⟨rfl, rfl⟩) ?_ | refine dr rfl rfl (fun _ hx _ => qaf rfl rfl (hx.c _ _ hg2) rfl ⟨rfl, rfl⟩) ?_ | refine dr rfl rfl (fun _ hx _ => qaD (q1.ext hx) rfl rfl (by omega) k1 ⟨rfl, rfl⟩) ?_ | refine dr rfl rfl (fun _ hx _ => qaD (p1.ext hx) rfl rfl (by omega) k2 ⟨rfl, rfl⟩) ?_ | refine dr rfl rfl (fun _ hx _ => qaW (d1.ext hx) rfl rfl rfl ⟨rfl, rfl⟩) ?_ | refine dr rfl rfl (fun _ hx _ => qaW (d2.ext hx) rfl rfl rfl ⟨rfl, rfl⟩) ?_ | refine dr rfl rfl (fun _ hx _ => qab rfl rfl (c1 _ hx) ⟨rfl, rfl⟩) ?_ | refine dr rfl rfl (fun _ hx _ => qaF rfl ⟨rfl, rfl⟩) ?_)
     refine aX ?_
     repeat (first | refine W.w ?_ | refine aE rfl ?_ | refine zz rfl (qaa rfl ?_))
     refine ⟨_, aC rfl, rfl, xh, ?_, rfl⟩
     exact congrArg Value.bool (Af fun e => he (by subst e; rw [e1] at e2; cases e2; rfl)).symm
   ·
    obtain rfl : k = a.acts.length := by omega
    repeat (first | refine aW ?_ | refine aR ?_ | refine aY ?_ | refine aG rfl ?_ | refine aM ?_ | refine aP ?_ | (refine zz rfl ?_; first | refine qac rfl ?_ | refine qaa rfl ?_ | refine qan rfl ?_ | refine qaf rfl rfl hg1 rfl ?_ | refine qaA q1 rfl ?_ | refine qai rfl rfl rfl (by omega) ?_))
    refine ⟨_, aC rfl, rfl, xh, ?_, rfl⟩
    rw [Au, hl, Au] at hta
    exact congrArg Value.bool (Al (by cases a; cases b; simp only at hs hta; subst hs hta; rfl)).symm
  ·
   repeat (first | refine W.w ?_ | refine aE rfl ?_ | (refine zz rfl ?_; first | refine qae rfl ?_ | refine qaa rfl ?_ | refine qan rfl ?_ | refine qam (sz := 5) rfl rfl hg1 (Ab rfl) ?_ | refine qam (sz := 5) rfl rfl hg2 (Ab rfl) ?_ | refine qab rfl rfl cS ?_ | refine qaf rfl rfl hg1 rfl ?_ | refine qaf rfl rfl hg2 rfl ?_ | refine qaA q1 rfl ?_ | refine qaA p1 rfl ?_ | refine qak rfl rfl rfl (by omega) ?_ | refine qag (v := .bool _) rfl rfl ?_ | refine qaF rfl ?_))
   exact ⟨_, aC rfl, rfl, xh, congrArg Value.bool (Af fun e => hl (by rw [e])).symm, rfl⟩
 ·
  rw [Af hs] at cS
  repeat (first | refine W.w ?_ | refine aK rfl rfl ?_ | refine aE rfl ?_ | (refine zz rfl ?_; first | refine qae rfl ?_ | refine qaa rfl ?_ | refine qan rfl ?_ | refine qam (sz := 5) rfl rfl hg1 (Ab rfl) ?_ | refine qam (sz := 5) rfl rfl hg2 (Ab rfl) ?_ | refine qab rfl rfl cS ?_ | refine qag (v := .bool _) rfl rfl ?_ | refine qaF rfl ?_))
  exact ⟨_, aC rfl, rfl, xh, congrArg Value.bool (Af fun e => hs (by rw [e])).symm, rfl⟩
end Go.Proofs.YtigmojilaadbhaaGreatDoor
/- . -/
namespace Go.Proofs.YtigmojilaadbhaaGreatDoor
open Go Go.Eng Go.Pln Go.Lib
attribute [local irreducible] AWp AL DAL AOp TAL
theorem rise_in {nodes : Int} : ∀ {l : List Int} {p : Int}, riseM nodes p l = true → ∀ n ∈ l, p < n ∧ n < nodes
 | [], _, _, n, hn => by cases hn
 | m :: l, p, h, n, hn => by
  rw [riseM, Ae, Aq] at h
  rcases Ak.1 hn with rfl | hn
  ·
   exact h.1
  ·
   have := rise_in h.2 n hn
   exact ⟨by omega, this.2⟩
theorem setJ_of {x : SetM} (h : maySet x = true) : SetJ x ∧ x.groups.length ≤ 5 ∧ ∀ g ∈ x.groups, (groupL g).length ≤ 100000 := by
 unfold maySet at h
 rw [Ae, Ae, Aq, Ai] at h
 obtain ⟨⟨h1, h2⟩, h3⟩ := h
 unfold sizesM at h1
 replace h1 := of_decide_eq_true h1
 have key : ∀ l ∈ x.groups, (∀ n ∈ l, 0 ≤ n ∧ n < 5) ∧ l.length ≤ 3 := by
  intro l hl
  have h4 := h3 l hl
  unfold mayGroup at h4
  rw [Ae, Aq] at h4
  exact ⟨fun n hn => by have := rise_in h4.1 n hn; omega, h4.2.2⟩
 refine ⟨⟨⟨by omega, by omega⟩, ⟨by omega, by omega⟩, ⟨by omega, by omega⟩, ⟨by omega, by omega⟩, fun l hl => ⟨fun n hn => ?_, ?_⟩⟩, h2.2, fun l hl => ?_⟩
 ·
  have := (key l hl).1 n hn
  exact ⟨by omega, by omega⟩
 ·
  have := (key l hl).2
  omega
 ·
  obtain ⟨k1, k2⟩ := key l hl
  have := words_len (m := 200) (k := 4) (ws := wGroup :: l.map itoa) (fun w hw => by
   rcases Ak.1 hw with rfl | hw
   ·
    decide
   ·
    obtain ⟨n, hn, rfl⟩ := Bp.1 hw
    have := k1 n hn
    exact itoa_lenI (by omega) (by omega)) (by rw [Ad, Ap]; omega)
  unfold groupL
  omega
end Go.Proofs.YtigmojilaadbhaaGreatDoor
