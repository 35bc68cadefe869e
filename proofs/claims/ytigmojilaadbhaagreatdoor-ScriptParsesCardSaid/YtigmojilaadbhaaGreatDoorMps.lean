/-
  Texts of one claim, merged: 8 parts.
-/
import Derived.Test.YtigmojilaadbhaaGreatDoorMpr
import Derived.Test.YtigmojilaadbhaaGreatDoorMpk
import Derived.Test.YtigmojilaadbhaaGreatDoorMpj
import Derived.Test.YtigmojilaadbhaaGreatDoorMpg
set_option maxHeartbeats 16000000
/- . -/
namespace Go.Proofs.YtigmojilaadbhaaGreatDoor
open Go Go.Eng Go.Pln Go.Lib Go.Proofs.Tryz
attribute [local irreducible] AWp AL DAL AOp
instance i_sameActR : FnC prog 23 := ⟨Tryz.f23, func23, by kernel_rfl, by kernel_rfl⟩
theorem qdr (p q : ActV) (a b : ActM) (h : Heap) (ra : ActR h p a) (rb : ActR h q b) : ACalls prog 23 [.agg (actC p a).toArray, .agg (actC q b).toArray] h fun u h' => u = .bool (decide (a = b)) ∧ h' = h := by
 refine aL fun wf => aO ?_
 refine aD func23 rfl rfl ?_
 repeat (first | refine W.w ?_ | refine zz rfl (qaa rfl ?_) | refine zz rfl (qaS rfl (by intro e; cases e) ?_))
 generalize hH : h.alloc _ = H1
 have hg0 : H1.get h.next = some ⟨actC p a, 40, true⟩ := hH ▸ aB _ _
 have hx1 : Ext h H1 := hH ▸ wf.ext _
 have wf1 : WF H1 := hH ▸ wf.alloc _
 skip
 generalize hH2 : H1.alloc _ = H
 have hg2 : H.get H1.next = some ⟨actC q b, 40, true⟩ := hH2 ▸ aB _ _
 have hx2 : Ext H1 H := hH2 ▸ wf1.ext _
 have hg1 : H.get h.next = some ⟨actC p a, 40, true⟩ := hx2.c _ _ hg0
 have hx : Ext h H := hx1.trans hx2
 clear hH hH2
 obtain ⟨a1, a2, a3⟩ := ra.ext hx
 obtain ⟨b1, b2, b3⟩ := rb.ext hx
 have cA := qfs p.q q.q a.ask b.ask H a1 b1
 have cM := qff p.c q.c a.cmd b.cmd H a2 b2
 have r1 := a3.rn
 have s1 := b3.rn
 obtain ⟨ua, uc, hu⟩ := r1.slice
 obtain ⟨va, vc, hv⟩ := s1.slice
 have l1 : (a.keep.map keptR).length = a.keep.length := Ap _
 have l2 : (b.keep.map keptR).length = b.keep.length := Ap _
 have hlen := a3.len
 by_cases hall : a.kind = b.kind ∧ a.node = b.node ∧ a.group = b.group ∧ a.client = b.client ∧ a.n = b.n ∧ a.ask = b.ask ∧ a.cmd = b.cmd ∧ a.keep.length = b.keep.length
 ·
  obtain ⟨e1, e2, e3, e4, e5, e6, e7, e8⟩ := hall
  rw [Al e6] at cA
  rw [Al e7] at cM
  repeat (first | refine W.w ?_ | refine aG rfl ?_ | (refine zz rfl ?_; first | refine qae rfl ?_ | refine qad rfl ?_ | refine qan rfl ?_ | refine qaf rfl rfl hg1 rfl ?_ | refine qaf rfl rfl hg2 rfl ?_ | refine qam (sz := 7) rfl rfl hg1 (Ab rfl) ?_ | refine qam (sz := 7) rfl rfl hg2 (Ab rfl) ?_ | refine qam (sz := 20) rfl rfl hg1 (Ab rfl) ?_ | refine qam (sz := 20) rfl rfl hg2 (Ab rfl) ?_ | refine qaA r1 rfl ?_ | refine qaA s1 rfl ?_ | refine qai rfl rfl rfl (by omega) ?_ | refine qag (v := .bool _) rfl rfl ?_ | refine qab rfl rfl cA ?_ | refine qab rfl rfl cM ?_ | refine qaF rfl ?_))
  refine bB (α := Nat) (fun k => [(2, ptr h.next), (3, ptr H1.next), (5, .int .i64 (k : Nat))]) (fun _ => H) (fun k => k ≤ a.keep.length ∧ a.keep.take k = b.keep.take k) (fun k => a.keep.length - k) 0 ⟨Ao _, rfl⟩ (aI (aA rfl (aA rfl (aA rfl aN)))) ?_
  rintro k ⟨hk, hp⟩
  by_cases hlt : k < a.keep.length
  ·
   obtain ⟨x, hxa⟩ := gX (l := a.keep) (k := k) hlt
   obtain ⟨y, hyb⟩ := gX (l := b.keep) (k := k) (by omega)
   have hx2 : (a.keep.map keptR)[((k : Nat) : Int).toNat]? = some (keptR x) := by simp [hxa]
   have hy2 : (b.keep.map keptR)[((k : Nat) : Int).toNat]? = some (keptR y) := by simp [hyb]
   have px := r1.elt hx2
   have py := s1.elt hy2
   have hte := qeJ hp hxa hyb
   have heq := qgg x y
   by_cases hxy : x = y
   ·
    rw [Al hxy] at heq
    repeat (first | refine W.w ?_ | refine aE rfl ?_ | (refine zz rfl ?_; first | refine qac rfl ?_ | refine qan rfl ?_ | refine qaf rfl rfl hg1 rfl ?_ | refine qaA r1 rfl ?_ | refine qak rfl rfl rfl (by omega) ?_))
    refine bJ (σ := [(0, .R), (1, .R), (2, .R), (3, .R), (4, .R), (5, .R), (6, .R), (7, .R), (8, .R), (9, .R), (10, .R)]) mixed (by kernel_rfl) ?_
    repeat (first | refine dr rfl rfl (fun _ hx _ => qac rfl ⟨rfl, rfl⟩) ?_ | refine dr rfl rfl (fun _ hx _ => qan rfl ⟨rfl, rfl⟩) ?_ | refine dr rfl rfl (fun _ hx _ => qaf rfl rfl (hx.c _ _ hg1) rfl ⟨rfl, rfl⟩) ?_ | refine dr rfl rfl (fun _ hx _ => qaf rfl rfl (hx.c _ _ hg2) rfl ⟨rfl, rfl⟩) ?_ | refine dr rfl rfl (fun _ hx _ => qaD (r1.ext hx) rfl rfl (by omega) hx2 ⟨rfl, rfl⟩) ?_ | refine dr rfl rfl (fun _ hx _ => qaD (s1.ext hx) rfl rfl (by omega) hy2 ⟨rfl, rfl⟩) ?_ | refine dr rfl rfl (fun _ hx _ => qaW (px.ext hx) rfl rfl rfl ⟨rfl, rfl⟩) ?_ | refine dr rfl rfl (fun _ hx _ => qaW (py.ext hx) rfl rfl rfl ⟨rfl, rfl⟩) ?_ | refine dr rfl rfl (fun _ hx _ => qd4 (xs := keptR x) (ys := keptR y) rfl rfl rfl heq ⟨rfl, rfl⟩) ?_)
    refine aX ?_
    repeat (first | refine W.w ?_ | refine aG rfl ?_ | (refine zz rfl ?_; first | refine qac rfl ?_ | refine qad rfl ?_ | refine qau rfl rfl (by omega) ?_))
    exact ⟨k + 1, ⟨hlt, hte.2 hxy⟩, by omega, aI (aA rfl (aA rfl (aA rfl aN)))⟩
   ·
    rw [Af hxy] at heq
    repeat (first | refine W.w ?_ | refine aE rfl ?_ | (refine zz rfl ?_; first | refine qac rfl ?_ | refine qan rfl ?_ | refine qaf rfl rfl hg1 rfl ?_ | refine qaA r1 rfl ?_ | refine qak rfl rfl rfl (by omega) ?_))
    refine bJ (σ := [(0, .R), (1, .R), (2, .R), (3, .R), (4, .R), (5, .R), (6, .R), (7, .R), (8, .R), (9, .R), (10, .R)]) mixed (by kernel_rfl) ?_
    repeat (first | refine dr rfl rfl (fun _ hx _ => qac rfl ⟨rfl, rfl⟩) ?_ | refine dr rfl rfl (fun _ hx _ => qan rfl ⟨rfl, rfl⟩) ?_ | refine dr rfl rfl (fun _ hx _ => qaf rfl rfl (hx.c _ _ hg1) rfl ⟨rfl, rfl⟩) ?_ | refine dr rfl rfl (fun _ hx _ => qaf rfl rfl (hx.c _ _ hg2) rfl ⟨rfl, rfl⟩) ?_ | refine dr rfl rfl (fun _ hx _ => qaD (r1.ext hx) rfl rfl (by omega) hx2 ⟨rfl, rfl⟩) ?_ | refine dr rfl rfl (fun _ hx _ => qaD (s1.ext hx) rfl rfl (by omega) hy2 ⟨rfl, rfl⟩) ?_ | refine dr rfl rfl (fun _ hx _ => qaW (px.ext hx) rfl rfl rfl ⟨rfl, rfl⟩) ?_ | refine dr rfl rfl (fun _ hx _ => qaW (py.ext hx) rfl rfl rfl ⟨rfl, rfl⟩) ?_ | refine dr rfl rfl (fun _ hx _ => qd4 (xs := keptR x) (ys := keptR y) rfl rfl rfl heq ⟨rfl, rfl⟩) ?_)
    refine aX ?_
    repeat (first | refine W.w ?_ | refine aE rfl ?_ | refine zz rfl (qaa rfl ?_))
    exact ⟨_, aC rfl, rfl, hx, congrArg Value.bool (Af fun e => hxy (hte.1 (by rw [e]))).symm, rfl⟩
  ·
   obtain rfl : k = a.keep.length := by omega
   rw [Au, e8, Au] at hp
   repeat (first | refine aW ?_ | refine aR ?_ | refine aY ?_ | refine aG rfl ?_ | refine aM ?_ | refine aP ?_ | (refine zz rfl ?_; first | refine qac rfl ?_ | refine qaa rfl ?_ | refine qan rfl ?_ | refine qaf rfl rfl hg1 rfl ?_ | refine qaA r1 rfl ?_ | refine qai rfl rfl rfl (by omega) ?_))
   exact ⟨_, aC rfl, rfl, hx, congrArg Value.bool (Al (act_ext.2 ⟨e1, e2, e3, e4, e5, e6, e7, hp⟩)).symm, rfl⟩
 ·
  repeat' (first | refine W.w ?_ | refine aK rfl rfl ?_ | refine aE rfl ?_ | refine aG rfl ?_ | (refine zz rfl ?_; first | refine qae rfl ?_ | refine qad rfl ?_ | refine qaa rfl ?_ | refine qan rfl ?_ | refine qaf rfl rfl hg1 rfl ?_ | refine qaf rfl rfl hg2 rfl ?_ | refine qam (sz := 7) rfl rfl hg1 (Ab rfl) ?_ | refine qam (sz := 7) rfl rfl hg2 (Ab rfl) ?_ | refine qam (sz := 20) rfl rfl hg1 (Ab rfl) ?_ | refine qam (sz := 20) rfl rfl hg2 (Ab rfl) ?_ | refine qaA r1 rfl ?_ | refine qaA s1 rfl ?_ | refine qaU rfl rfl cA (fun c => ?_) (fun c => ?_) | refine qaU rfl rfl cM (fun c => ?_) (fun c => ?_) | refine qaF rfl ?_ | refine qaT rfl rfl rfl (fun c => ?_) (fun c => ?_) | refine qag (v := .bool _) rfl rfl ?_))
  all_goals first | (refine ⟨_, aC rfl, rfl, hx, congrArg Value.bool (Af fun e => ?_).symm, rfl⟩; subst e; clear cA cM; first | contradiction | omega | (simp at *; done) | grind) | (exfalso; clear cA cM; grind)
end Go.Proofs.YtigmojilaadbhaaGreatDoor
/- . -/
namespace Go.Pln
open Go Go.Lib
abbrev knA : Bytes := [116, 105, 109, 101, 114, 32, 48, 32, 49]
abbrev knB : Bytes := [97, 115, 107, 32, 49, 32, 48, 32, 49, 32, 112, 117, 116, 32, 97, 32, 37]
abbrev knC : Bytes := [112, 108, 97, 110, 32, 48, 32, 109, 111, 118, 101, 32, 37, 32, 50]
abbrev knD : Bytes := [112, 108, 97, 110, 32, 48, 32, 109, 111, 118, 101, 32, 97]
abbrev knE : Bytes := [104, 101, 97, 114, 32, 48, 49]
abbrev knF : Bytes := [99, 114, 97, 115, 104, 32, 48, 32, 97, 32, 49, 32, 97, 32, 50]
abbrev knT : Bytes := [115, 101, 116, 117, 112, 32, 49, 32, 49, 48, 50, 52, 32, 54, 52, 32, 50, 53, 54, 10, 103, 114, 111, 117, 112, 32, 48, 10, 103, 114, 111, 117, 112, 32, 48, 10, 116, 105, 109, 101, 114, 32, 48, 32, 49, 10]
abbrev knU : Bytes := [115, 101, 116, 117, 112, 32, 49, 32, 49, 48, 50, 52, 32, 54, 52, 32, 50, 53, 54, 10, 103, 114, 111, 117, 112, 32, 49, 10, 103, 114, 111, 117, 112, 32, 48, 10, 116, 105, 109, 101, 114, 32, 48, 32, 49, 10]
abbrev knV : Bytes := [115, 101, 116, 117, 112, 32, 49, 32, 49, 48, 50, 52, 32, 54, 52, 32, 50, 53, 54, 10, 103, 114, 111, 117, 112, 32, 48, 10, 103, 114, 111, 117, 112, 32, 48, 10, 116, 105, 109, 101, 114, 32, 48, 32, 50, 10]
abbrev knW : Bytes := [115, 101, 116, 117, 112, 32, 49, 32, 49, 48, 50, 52, 32, 54, 52, 32, 50, 53, 54, 10, 103, 114, 111, 117, 112, 32, 48, 10]
abbrev knX : Bytes := [115, 101, 116, 117, 112, 32, 49, 32, 49, 48, 50, 52, 32, 54, 52, 32, 50, 53, 54, 10, 103, 114, 111, 117, 112, 32, 48, 10, 103, 114, 111, 117, 112, 32, 48, 10, 116, 105, 109, 101, 114, 32, 49, 32, 49, 10]
def knL : ActM := { act0 with kind := 1, group := 1 }
def knM : ActM := { act0 with kind := 10, client := 1, group := 1, ask := { ask0 with kind := 2, key := [97] } }
def knN : ActM := { act0 with kind := 1, node := 5 }
def knO : ActM := { act0 with kind := 9, cmd := { cmd0 with kind := 8, group := 2 } }
theorem qiH : mayAct 5 5 knL = true ∧ lineM knL = knA := by decide +kernel
theorem qin : mayAct 5 5 knM = true ∧ lineM knM = knB := by decide +kernel
theorem knN_line : mayAct 5 5 knN = false := by decide +kernel
theorem knC_act : unlineP knC = some knO := (qbI _ _).2 (by decide +kernel)
theorem knD_act : unlineP knD = none := by decide +kernel
theorem knE_act : unlineP knE = none := by decide +kernel
theorem knF_act : unlineP knF = none := by decide +kernel
theorem qiJ : (parseP knT).2 = (0, 0) ∧ (parseP knT).1.setup.groups.length = 2 ∧ (parseP knT).1.acts.length = 1 := by decide +kernel
theorem knU_read : (parseP knU).2 = (1, 4) ∧ (parseP knU).1.acts.length = 0 := by decide +kernel
theorem knV_read : (parseP knV).2 = (3, 4) ∧ (parseP knV).1.acts.length = 0 := by decide +kernel
theorem knW_read : (parseP knW).2 = (2, 4) ∧ (parseP knW).1.acts.length = 0 := by decide +kernel
theorem knX_read : (parseP knX).2 = (3, 4) ∧ (parseP knX).1.acts.length = 0 := by decide +kernel
end Go.Pln
/- . -/
namespace Go.Proofs.YtigmojilaadbhaaGreatDoor
open Go Go.Eng Go.Pln Go.Lib Go.Proofs.Tryz
attribute [local irreducible] AWp AL DAL AOp TAL
instance i_lnum : FnC prog 20 := ⟨Tryz.f20, func20, by kernel_rfl, by kernel_rfl⟩
instance i_lwrong : FnC prog 37 := ⟨Tryz.f37, func37, by kernel_rfl, by kernel_rfl⟩
instance i_lknown : FnC prog 15 := ⟨Tryz.f15, func15, by kernel_rfl, by kernel_rfl⟩
theorem qgU (e : Int) (h : Heap) : ACalls prog 20 [.int .i64 e] h fun u h' => u = .int .i64 e ∧ h' = h := by
 refine aD func20 rfl rfl ?_
 repeat (first | refine W.w ?_ | refine zz rfl (qac rfl ?_) | refine zz rfl (qad rfl ?_))
 exact ⟨_, aC rfl, rfl, rfl⟩
theorem qdQ (text : Bytes) (n : Int) (h : Heap) (t : Tabs h) (h8 : 8 ≤ h.next) (hl : text.length ≤ 100000000) (hr : (parseP text).2 = (n, 4) ∧ (parseP text).1.acts.length = 0) : ACalls prog 37 [str text, .int .i64 n] h fun u h' => u = .bool true ∧ h' = h := by
 refine aL fun wf => aO ?_
 refine aD func37 rfl rfl ?_
 obtain ⟨e1, e2⟩ := Prod.mk.inj hr.1
 have ea := hr.2
 repeat (first | refine W.w ?_ | refine zz rfl (qaj rfl ?_) | refine zz rfl (qaa rfl ?_))
 refine zz rfl (qat (evs := [str text]) rfl rfl ((qhr text h t h8 hl).wf_post.mono ?_))
 rintro _ H1 ⟨⟨B, vg, va, rfl, hg, hav, x1⟩, w1, n1⟩
 rw [e1, e2]
 have h1 := qcB hg.one hav.one (parseP text).1.setup
 repeat (first | (refine zz rfl ?_; first | refine qaC rfl ?_ | refine qav rfl rfl ?_ | refine qax ?_))
 refine aJ rfl (qaL (vs := scrC vg va (parseP text).1.setup) rfl rfl rfl rfl h1 ?_)
 refine aS (h := H1.alloc (scrB vg va (parseP text).1.setup)) rfl ?_
 obtain ⟨H2, hQ, g2, x2, _, _⟩ := aq w1 (scrB vg va (parseP text).1.setup)
 rw [hQ]
 obtain ⟨rows, r1, r2, _⟩ := (hav.ra.ext x2).ex
 have c4 := qgU 4 H2
 repeat (first | refine W.w ?_ | (refine zz rfl ?_; first | refine qac rfl ?_ | refine qae rfl ?_ | refine qad rfl ?_ | refine qaa rfl ?_ | refine qak (a := n) (b := n) rfl rfl rfl rfl ?_ | refine qab rfl rfl c4 ?_ | refine qan rfl ?_ | refine qaf rfl rfl g2 rfl ?_ | refine qaA r1 rfl ?_ | refine qak rfl rfl rfl (by omega) ?_ | refine qag (v := .bool _) rfl rfl ?_))
 exact ⟨_, aC rfl, rfl, x1.trans x2, rfl, rfl⟩
theorem qio (h : Heap) (t : Tabs h) (h8 : 8 ≤ h.next) : ACalls prog 15 [] h fun u h' => u = .bool true ∧ h' = h := by
 refine aL fun wf => aO ?_
 refine aD func15 rfl rfl ?_
 have c1 := qiC actV0 knL h t ((cR 0 h knL rfl rfl rfl).r (Ao _))
 rw [show lineV knL = .tuple #[str knA, .int .i64 0] by unfold lineV; rw [Ah qiH.1, qiH.2]] at c1
 repeat (first | refine W.w ?_ | (refine zz rfl ?_; first | refine qaC rfl ?_ | refine qad rfl ?_ | refine qaa rfl ?_ | refine qah rfl ?_ | refine qay (out := actC actV0 knL) rfl rfl ?_ | refine qab rfl rfl c1 ?_ | refine qav rfl rfl ?_))
 refine zz rfl (qaN (bv [97]) rfl rfl rfl rfl (qcr _) ?_)
 refine aS (h := h.alloc ⟨bv [97], 5, true⟩) rfl ?_
 have x1 := wf.ext ⟨bv [97], 5, true⟩
 have w1 := wf.alloc ⟨bv [97], 5, true⟩
 have g1 := aB h ⟨bv [97], 5, true⟩
 have o1 : OS 0 (h.alloc ⟨bv [97], 5, true⟩) 5 (.slice (some ⟨h.next, 0, some 1⟩) 1 1) (bv [97]) := OS.new (Ao _) rfl
 have n1 : 8 ≤ (h.alloc ⟨bv [97], 5, true⟩).next := by show 8 ≤ h.next + 1; omega
 generalize h.alloc ⟨bv [97], 5, true⟩ = H1 at x1 w1 g1 o1 n1 ⊢
 have c2 := qiC ⟨⟨.slice (some ⟨h.next, 0, some 1⟩) 1 1, nilS, nilS, nilS⟩, cmdV0, nilS⟩ knM H1 (t.ext x1) ⟨⟨o1.rb, bR _, bR _, bR _⟩, bQ _, RK.nil _⟩
 rw [show lineV knM = .tuple #[str knB, .int .i64 0] by unfold lineV; rw [Ah qin.1, qin.2]] at c2
 have c3 := qiC actV0 knN H1 (t.ext x1) ((cR 0 H1 knN rfl rfl rfl).r (Ao _))
 rw [show lineV knN = .tuple #[str [], .int .i64 2] by unfold lineV; rw [Ac (by rw [knN_line]; decide)]] at c3
 refine zz rfl (qhZ rfl rfl g1 rfl ?_)
 repeat (first | refine W.w ?_ | (refine zz rfl ?_; first | refine qaC rfl ?_ | refine qad rfl ?_ | refine qah rfl ?_ | refine qay (out := askC ⟨.slice (some ⟨h.next, 0, some 1⟩) 1 1, nilS, nilS, nilS⟩ knM.ask) rfl rfl ?_ | refine qay (out := actC ⟨⟨.slice (some ⟨h.next, 0, some 1⟩) 1 1, nilS, nilS, nilS⟩, cmdV0, nilS⟩ knM) rfl rfl ?_ | refine qab rfl rfl c2 ?_ | refine qav rfl rfl ?_ | refine qay (out := actC actV0 knN) rfl rfl ?_ | refine qab rfl rfl c3 ?_))
 skip
 have c2 := (qdc knC H1 (t.ext x1) (by omega) (by decide)).wf_post
 rw [show unA knC = (knO, 0) by unfold unA; rw [knC_act]] at c2
 refine zz rfl (qat (evs := [str knC]) rfl rfl (c2.mono ?_))
 rintro _ K2 ⟨⟨q2, rfl, ⟨⟨B2, o2⟩, k2⟩, y2⟩, v2, m2⟩
 have e2 := qaO (o2.r k2)
 repeat (first | (refine zz rfl ?_; first | refine qaC rfl ?_ | refine qav rfl rfl ?_ | refine qax ?_))
 refine aJ rfl (qaL (vs := actC q2 knO) rfl rfl rfl rfl e2 ?_)
 refine aS (h := K2.alloc ⟨actC q2 knO, 40, true⟩) rfl ?_
 obtain ⟨H2, hQ, g2, z2, w2, nQ⟩ := aq v2 ⟨actC q2 knO, 40, true⟩
 rw [hQ]
 have n2 : 8 ≤ H2.next := by omega
 have x2 := x1.trans (y2.trans z2)
 repeat (first | refine W.w ?_ | refine zz rfl (qad rfl ?_))
 have c3 := (qdc knD H2 (t.ext x2) (by omega) (by decide)).wf_post
 rw [show unA knD = (act0, 4) by unfold unA; rw [knD_act]] at c3
 refine zz rfl (qat (evs := [str knD]) rfl rfl (c3.mono ?_))
 rintro _ K3 ⟨⟨q3, rfl, ⟨⟨B3, o3⟩, k3⟩, y3⟩, v3, m3⟩
 have e3 := qaO (o3.r k3)
 repeat (first | (refine zz rfl ?_; first | refine qaC rfl ?_ | refine qav rfl rfl ?_ | refine qax ?_))
 refine aJ rfl (qaL (vs := actC q3 act0) rfl rfl rfl rfl e3 ?_)
 refine aS (h := K3.alloc ⟨actC q3 act0, 40, true⟩) rfl ?_
 obtain ⟨H3, hQ, g3, z3, w3, nQ⟩ := aq v3 ⟨actC q3 act0, 40, true⟩
 rw [hQ]
 have n3 : 8 ≤ H3.next := by omega
 have x3 := x2.trans (y3.trans z3)
 repeat (first | refine W.w ?_ | refine zz rfl (qad rfl ?_))
 have c4 := (qdc knE H3 (t.ext x3) (by omega) (by decide)).wf_post
 rw [show unA knE = (act0, 4) by unfold unA; rw [knE_act]] at c4
 refine zz rfl (qat (evs := [str knE]) rfl rfl (c4.mono ?_))
 rintro _ K4 ⟨⟨q4, rfl, ⟨⟨B4, o4⟩, k4⟩, y4⟩, v4, m4⟩
 have e4 := qaO (o4.r k4)
 repeat (first | (refine zz rfl ?_; first | refine qaC rfl ?_ | refine qav rfl rfl ?_ | refine qax ?_))
 refine aJ rfl (qaL (vs := actC q4 act0) rfl rfl rfl rfl e4 ?_)
 refine aS (h := K4.alloc ⟨actC q4 act0, 40, true⟩) rfl ?_
 obtain ⟨H4, hQ, g4, z4, w4, nQ⟩ := aq v4 ⟨actC q4 act0, 40, true⟩
 rw [hQ]
 have n4 : 8 ≤ H4.next := by omega
 have x4 := x3.trans (y4.trans z4)
 repeat (first | refine W.w ?_ | refine zz rfl (qad rfl ?_))
 have c5 := (qdc knF H4 (t.ext x4) (by omega) (by decide)).wf_post
 rw [show unA knF = (act0, 4) by unfold unA; rw [knF_act]] at c5
 refine zz rfl (qat (evs := [str knF]) rfl rfl (c5.mono ?_))
 rintro _ K5 ⟨⟨q5, rfl, ⟨⟨B5, o5⟩, k5⟩, y5⟩, v5, m5⟩
 have e5 := qaO (o5.r k5)
 repeat (first | (refine zz rfl ?_; first | refine qaC rfl ?_ | refine qav rfl rfl ?_ | refine qax ?_))
 refine aJ rfl (qaL (vs := actC q5 act0) rfl rfl rfl rfl e5 ?_)
 refine aS (h := K5.alloc ⟨actC q5 act0, 40, true⟩) rfl ?_
 obtain ⟨H5, hQ, g5, z5, w5, nQ⟩ := aq v5 ⟨actC q5 act0, 40, true⟩
 rw [hQ]
 have n5 : 8 ≤ H5.next := by omega
 have x5 := x4.trans (y5.trans z5)
 have u2 := z5.c _ _ (y5.c _ _ (z4.c _ _ (y4.c _ _ (z3.c _ _ (y3.c _ _ g2)))))
 have s2 : ActR H5 q2 knO := ((o2.r k2).ext (z2.trans (y3.trans z3))).ext ((y4.trans z4).trans (y5.trans z5))
 repeat (first | refine W.w ?_ | (refine zz rfl ?_; first | refine qad rfl ?_ | refine qay (out := cmdC cmdV0 knO.cmd) rfl rfl ?_ | refine qay (out := actC actV0 knO) rfl rfl ?_ | refine qax ?_))
 refine aJ rfl (qaL (vs := actC actV0 knO) rfl rfl rfl rfl rfl ?_)
 refine aS (h := H5.alloc ⟨actC actV0 knO, 40, true⟩) rfl ?_
 obtain ⟨H6, hQ, g6, z6, w6, nQ⟩ := aq w5 ⟨actC actV0 knO, 40, true⟩
 rw [hQ]
 have n6 : 8 ≤ H6.next := by omega
 have x6 := x5.trans z6
 repeat (first | refine W.w ?_)
 refine zz rfl (qat (evs := [str knT]) rfl rfl ((qhr knT H6 (t.ext x6) n6 (by decide)).wf_post.mono ?_))
 rintro _ K7 ⟨⟨B7, vg, va, rfl, hg, hav, y7⟩, v7, m7⟩
 obtain ⟨e1, e2⟩ := Prod.mk.inj qiJ.1
 obtain ⟨_, lg, la⟩ := qiJ
 rw [e1, e2]
 have h1 := qcB hg.one hav.one (parseP knT).1.setup
 repeat (first | (refine zz rfl ?_; first | refine qaC rfl ?_ | refine qav rfl rfl ?_ | refine qax ?_))
 refine aJ rfl (qaL (vs := scrC vg va (parseP knT).1.setup) rfl rfl rfl rfl h1 ?_)
 refine aS (h := K7.alloc (scrB vg va (parseP knT).1.setup)) rfl ?_
 obtain ⟨H7, hQ, g7, z7, _, nQ⟩ := aq v7 (scrB vg va (parseP knT).1.setup)
 rw [hQ]
 have n7 : 8 ≤ H7.next := by omega
 have x7 := x6.trans (y7.trans z7)
 obtain ⟨rows, r1, r2, _⟩ := (hav.ra.ext z7).ex
 obtain ⟨vs, q1, q2', _⟩ := (hg.rg.ext z7)
 have p2 := (z6.trans (y7.trans z7)).c _ _ u2
 have p6 := (y7.trans z7).c _ _ g6
 have d0 := qgU 0 H7
 have d2 := qgU 2 H7
 have d4 := qgU 4 H7
 have dS := qdr q2 actV0 knO knO H7 (s2.ext (z6.trans (y7.trans z7))) ⟨AskR.nil _, ⟨AskR.nil _, ⟨bR _, bR _⟩, cZ _, bR _, bR _⟩, RK.nil _⟩
 rw [show decide (knO = knO) = true by decide] at dS
 have dU := qdQ knU 1 H7 (t.ext x7) n7 (by decide) knU_read
 have dV := qdQ knV 3 H7 (t.ext x7) n7 (by decide) knV_read
 have dW := qdQ knW 2 H7 (t.ext x7) n7 (by decide) knW_read
 have dX := qdQ knX 3 H7 (t.ext x7) n7 (by decide) knX_read
 repeat (first | refine W.w ?_ | (refine zz rfl ?_; first | refine qac rfl ?_ | refine qae rfl ?_ | refine qaj rfl ?_ | refine qad rfl ?_ | refine qaa rfl ?_ | refine qaP (a := knA) (b := knA) rfl rfl rfl ?_ | refine qaP (a := knB) (b := knB) rfl rfl rfl ?_ | refine qag (v := .bool _) rfl rfl ?_ | refine qab rfl rfl d0 ?_ | refine qab rfl rfl d2 ?_ | refine qab rfl rfl d4 ?_ | refine qak rfl rfl rfl (by omega) ?_ | refine qam (sz := 33) rfl rfl p2 (Aa _) ?_ | refine qam (sz := 33) rfl rfl p6 (Aa _) ?_ | refine qab rfl rfl dS ?_ | refine qan rfl ?_ | refine qaf rfl rfl g7 rfl ?_ | refine qaz q1 rfl ?_ | refine qaA r1 rfl ?_ | refine qab rfl rfl dU ?_ | refine qab rfl rfl dV ?_ | refine qab rfl rfl dW ?_ | refine qab rfl rfl dX ?_ | refine qau rfl rfl (by omega) ?_))
 exact ⟨_, aC rfl, rfl, x7, rfl, rfl⟩
instance i_rword : FnC prog 102 := ⟨Tryz.f102, func102, by kernel_rfl, by kernel_rfl⟩
instance i_rdigit : FnC prog 164 := ⟨Tryz.f164, func164, by kernel_rfl, by kernel_rfl⟩
instance i_runword : FnC prog 141 := ⟨Tryz.f141, func141, by kernel_rfl, by kernel_rfl⟩
structure Gr (h : Heap) (e : TypeId) (vs : List Value) (H : Heap) (u : Value) : Prop where
 os : OS h.next H e u vs
 ext : Ext h H
 wf : WF H
 nx : h.next ≤ H.next
theorem Gr.nil {h : Heap} (wf : WF h) (e : TypeId) : Gr h e [] h (.slice none 0 0) := ⟨bP _ _ _, aU h, wf, Aa _⟩
theorem Gr.more {h H H' : Heap} {e : TypeId} {vs : List Value} {u : Value} (g : Gr h e vs H u) (hx : Ext H H') (wf : WF H') (hn : H.next ≤ H'.next) : Gr h e vs H' u := ⟨g.os.ext hx, g.ext.trans hx, wf, Bi g.nx hn⟩
section
variable {ρ : Operand → Value} {h : Heap} {K : Value → Heap → Prop} {dst : Option Tmp} {ty : TypeId} {pos : String} {aft : Array Edge} {g : Option (Nat × Bool)} {t t' : TypeId} {x y : Operand}
theorem op_sub8 {a b : Nat} (h0 : b ≤ a) (h1 : a < 256) (hx : ρ x = .int .u8 (a : Nat)) (hy : ρ y = .int .u8 (b : Nat)) (kk : K (.int .u8 ((a - b : Nat) : Int)) h) : AOp prog ⟨dst, .binOp .sub t x y t', ty, pos, aft, g⟩ ρ h K := by
 refine qaZ hx hy (v := .int .u8 ((a - b : Nat) : Int)) ?_ kk
 show some (Value.int .u8 (IntKind.u8.wrap ((a : Int) - (b : Int)))) = _
 have e : IntKind.u8.wrap ((a : Int) - (b : Int)) = ((a : Int) - (b : Int)) % 256 := rfl
 rw [e]
 refine congrArg some (congrArg (Value.int .u8) ?_)
 omega
theorem op_add8 {a b : Nat} (h1 : a + b < 256) (hx : ρ x = .int .u8 (a : Nat)) (hy : ρ y = .int .u8 (b : Nat)) (kk : K (.int .u8 ((a + b : Nat) : Int)) h) : AOp prog ⟨dst, .binOp .add t x y t', ty, pos, aft, g⟩ ρ h K := by
 refine qaZ hx hy (v := .int .u8 ((a + b : Nat) : Int)) ?_ kk
 show some (Value.int .u8 (IntKind.u8.wrap ((a : Int) + (b : Int)))) = _
 have e : IntKind.u8.wrap ((a : Int) + (b : Int)) = ((a : Int) + (b : Int)) % 256 := rfl
 rw [e]
 refine congrArg some (congrArg (Value.int .u8) ?_)
 omega
theorem op_mul8 {a : Nat} (h1 : a * 16 < 256) (hx : ρ x = .int .u8 (a : Nat)) (hy : ρ y = .int .u8 16) (kk : K (.int .u8 ((a * 16 : Nat) : Int)) h) : AOp prog ⟨dst, .binOp .mul t x y t', ty, pos, aft, g⟩ ρ h K := by
 refine qaZ hx hy (v := .int .u8 ((a * 16 : Nat) : Int)) ?_ kk
 show some (Value.int .u8 (IntKind.u8.wrap ((a : Int) * 16))) = _
 have e : IntKind.u8.wrap ((a : Int) * 16) = ((a : Int) * 16) % 256 := rfl
 rw [e]
 refine congrArg some (congrArg (Value.int .u8) ?_)
 omega
end
theorem hex_ix : ∀ n : Fin 16, (bstr wordHex)[((n.val : Nat) : Int).toNat]? = some (hexC n.val) := by decide +kernel
theorem rword_c (v : Value) (l : Bytes) (h : Heap) (r : RB h v l) (hl : l.length ≤ 100000000) : ACalls prog 102 [v] h fun u h' => u = str (wordM l) ∧ h' = h := by
 refine aL fun wf => aO ?_
 refine aD func102 rfl rfl ?_
 obtain ⟨va, vc, hv⟩ := bC r
 by_cases h0 : l.length = 0
 ·
  have hl0 : l = [] := Ce.1 h0
  repeat (first | refine W.w ?_ | refine aE rfl ?_ | (refine zz rfl ?_; first | refine qah rfl ?_ | refine qal (v := v) rfl ?_ | refine qaJ r rfl ?_ | refine qak rfl rfl rfl (by omega) ?_))
  refine ⟨_, aC rfl, rfl, aU h, ?_, rfl⟩
  rw [hl0]
  rfl
 ·
  have hne : ¬ l = [] := fun e => h0 (by rw [e]; rfl)
  repeat (first | refine W.w ?_ | refine aG rfl ?_ | (refine zz rfl ?_; first | refine qad rfl ?_ | refine qaR rfl ?_ | refine qah rfl ?_ | refine qal (v := v) rfl ?_ | refine qaJ r rfl ?_ | refine qai rfl rfl rfl (by omega) ?_))
  refine bB (α := Nat × Heap × Value) (fun d => [(0, v), (3, d.2.2), (4, .int .i64 (d.1 : Nat))]) (fun d => d.2.1) (fun d => d.1 ≤ l.length ∧ Gr h 5 (bv ((l.take d.1).flatMap encB)) d.2.1 d.2.2) (fun d => l.length - d.1) (0, h, .slice none 0 0) ⟨Ao _, Gr.nil wf _⟩
   (aI (aA rfl (aA rfl (aA rfl aN)))) ?_
  rintro ⟨k, H, u⟩ ⟨hk, gg⟩
  replace hk : k ≤ l.length := hk
  replace gg : Gr h 5 (bv ((l.take k).flatMap encB)) H u := gg
  show AWp _ _ _ _ [(0, v), (3, u), (4, .int .i64 (k : Nat))] H
  have rH := r.ext gg.ext
  have ru := bC gg.os.rs
  obtain ⟨ua, uc, hu⟩ := ru
  have hlen := qcT (l.take k)
  rw [Bb] at hlen
  by_cases hlt : k < l.length
  ·
   obtain ⟨ch, hc⟩ := gX (l := l) (k := k) hlt
   have hft := qc6 (f := encB) hc
   have lc := ch.toNat_lt
   by_cases hp1 : plainC ch = true
   ·
    have he := qct hp1
    obtain ⟨q1, q2, q3⟩ : 32 < ch.toNat ∧ ch.toNat < 127 ∧ ch.toNat ≠ 37 := of_decide_eq_true hp1
    repeat (first | refine W.w ?_ | refine aE rfl ?_ | (refine zz rfl ?_; first | refine qac rfl ?_ | refine qae rfl ?_ | refine qal (v := v) rfl ?_ | refine qal (v := u) rfl ?_ | refine qaJ rH rfl ?_ | refine qak rfl rfl rfl (by omega) ?_ | refine qag (v := .bool _) rfl rfl ?_ | refine qas rH rfl rfl (by omega) (bvAt hc rfl) fun _ => ?_ | refine qar (bL rH (bvAt hc rfl)) rfl rfl ?_ | refine qaN (bv [ch]) rfl rfl rfl rfl (qcr _) ?_))
    obtain ⟨H3, hQ, gr, xr, wr, _⟩ := aq gg.wf ⟨bv [ch], 5, true⟩
    rw [hQ]
    have rb : RB H3 (.slice (some ⟨H.next, 0, some 1⟩) 1 1) [ch] := bK gr rfl
    have n3 := wr.lt gr
    have g3 := gg.more xr wr (by omega)
    refine zz rfl (qaX (z := .int .u8 0) (B := h.next) (e := 5) rfl wr g3.nx g3.os rfl rfl rb.src (qaE _) (qcG _) (by rw [qaE]; simp only [maxLen, Ad, Ag]; omega) (by rw [qaE]; simp only [Ad, Ag]; omega) ?_)
    intro u' H4 o4 k4 wf4 n4
    rw [← qbQ] at o4
    have g4 : Gr h 5 _ H4 u' := ⟨o4, k4.ext g3.os wf (Aa _) g3.ext, wf4, Bi g3.nx n4⟩
    repeat (first | refine W.w ?_ | (refine zz rfl ?_; first | refine qac rfl ?_ | refine qad rfl ?_ | refine qao (v := u') rfl ?_ | refine qau rfl rfl (by omega) ?_))
    exact ⟨(k + 1, H4, u'), ⟨hlt, by show Gr h _ (bv ((l.take (k + 1)).flatMap encB)) H4 u'; rw [hft, he]; exact g4⟩, by show l.length - (k + 1) < l.length - k; omega, aI (aA rfl (aA rfl (aA rfl aN)))⟩
   ·
    have he := qeq hp1
    have hp2 : ¬ (32 < ch.toNat ∧ ch.toNat < 127 ∧ ch.toNat ≠ 37) := fun e => hp1 (Al e)
    have hA := hex_ix ⟨ch.toNat / 16, by omega⟩
    have hB := hex_ix ⟨ch.toNat % 16, by omega⟩
    repeat' (first | refine W.w ?_ | refine aK rfl rfl ?_ | refine aE rfl ?_ | refine aG rfl ?_ | (refine zz rfl ?_; first | refine qac rfl ?_ | refine qae rfl ?_ | refine qal (v := v) rfl ?_ | refine qaJ rH rfl ?_ | refine qak rfl rfl rfl (by omega) ?_ | refine qai rfl rfl rfl (by omega) ?_ | refine qag (v := .bool _) rfl rfl ?_ | refine qas rH rfl rfl (by omega) (bvAt hc rfl) fun _ => ?_ | refine qar (bL rH (bvAt hc rfl)) rfl rfl ?_ | refine qaT rfl rfl rfl (fun c => ?_) (fun c => ?_)))
    all_goals first | (exfalso; omega) | skip
    all_goals (
     refine cD (t := OT.seq [(0, .R), (1, .R), (2, .R), (3, .R), (4, .R), (5, .R), (6, .R), (7, .R), (8, .R), (9, .R), (10, .R), (11, .R), (12, .R), (13, .X), (14, .W), (15, .R)] .nil) mixed (by kernel_rfl) ?_
     repeat (first | refine tr rfl rfl (fun _ hx _ => qac rfl ⟨rfl, rfl⟩) ?_ | refine tr rfl rfl (fun _ hx _ => qal (v := v) rfl ⟨rfl, rfl⟩) ?_ | refine tr rfl rfl (fun _ hx _ => qal (v := u) rfl ⟨rfl, rfl⟩) ?_ | refine tr rfl rfl (fun _ hx _ => qas (rH.ext hx) rfl rfl (by omega) (bvAt hc rfl) fun _ => ⟨rfl, rfl⟩) ?_ | refine tr rfl rfl (fun _ hx _ => qar (bL (rH.ext hx) (bvAt hc rfl)) rfl rfl ⟨rfl, rfl⟩) ?_ | refine tr rfl rfl (fun _ hx _ => op_shr4 rfl rfl ⟨rfl, rfl⟩) ?_ | refine tr rfl rfl (fun _ hx _ => qig rfl rfl ⟨rfl, rfl⟩) ?_ | refine tr rfl rfl (fun _ hx _ => qaK rfl rfl (by omega) hA ⟨rfl, rfl⟩) ?_ | refine tr rfl rfl (fun _ hx _ => qaK rfl rfl (by omega) hB ⟨rfl, rfl⟩) ?_)
     refine cW rfl rfl rfl (qaN (bv [37, hexC (ch.toNat / 16), hexC (ch.toNat % 16)]) rfl rfl rfl rfl (qcr _) ⟨gg.wf.ext _, ?_⟩)
     obtain ⟨H3, hQ, gr, xr, wr, _⟩ := aq gg.wf ⟨bv [37, hexC (ch.toNat / 16), hexC (ch.toNat % 16)], 5, true⟩
     rw [hQ]
     have rb : RB H3 (.slice (some ⟨H.next, 0, some 1⟩) 3 3) [37, hexC (ch.toNat / 16), hexC (ch.toNat % 16)] := bK gr rfl
     have n3 := wr.lt gr
     have g3 := gg.more xr wr (by omega)
     refine TAL.w rfl rfl rfl (qaX (z := .int .u8 0) (B := h.next) (e := 5) rfl wr g3.nx g3.os rfl rfl rb.src (qaE _) (qcG _) (by rw [qaE]; simp only [maxLen, Ad, Ag]; omega) (by rw [qaE]; simp only [Ad, Ag]; omega) ?_)
     intro u' H4 o4 k4 wf4 n4
     rw [← qbQ] at o4
     have g4 : Gr h 5 _ H4 u' := ⟨o4, k4.ext g3.os wf (Aa _) g3.ext, wf4, Bi g3.nx n4⟩
     repeat (first | refine tr rfl rfl (fun _ hx _ => qao (v := u') rfl ⟨rfl, rfl⟩) ?_)
     refine bD ?_
     repeat (first | refine W.w ?_ | (refine zz rfl ?_; first | refine qac rfl ?_ | refine qad rfl ?_ | refine qau rfl rfl (by omega) ?_))
     exact ⟨(k + 1, H4, u'), ⟨hlt, by show Gr h _ (bv ((l.take (k + 1)).flatMap encB)) H4 u'; rw [hft, he]; exact g4⟩, by show l.length - (k + 1) < l.length - k; omega, aI (aA rfl (aA rfl (aA rfl aN)))⟩)
  ·
   obtain rfl : k = l.length := by omega
   rw [Au] at gg
   have rb : RB H u (l.flatMap encB) := gg.os.rs
   repeat (first | refine aW ?_ | refine aR ?_ | refine aY ?_ | refine aG rfl ?_ | refine aM ?_ | refine aP ?_ | (refine zz rfl ?_; first | refine qac rfl ?_ | refine qah rfl ?_ | refine qal (v := v) rfl ?_ | refine qal (v := u) rfl ?_ | refine qaJ rH rfl ?_ | refine qai rfl rfl rfl (by omega) ?_ | refine qap rb rfl ?_))
   have e : wordM l = l.flatMap encB := by unfold wordM; rw [Ac hne]
   rw [e]
   exact ⟨_, aC rfl, rfl, gg.ext, rfl, rfl⟩
theorem qcC (c : UInt8) (h : Heap) : ACalls prog 164 [.int .u8 (c.toNat : Int)] h fun u h' => u = .int .u8 ((digR c : Nat) : Int) ∧ h' = h := by
 refine aD func164 rfl rfl ?_
 have hc := c.toNat_lt
 unfold digR
 by_cases h1 : 48 ≤ c.toNat ∧ c.toNat ≤ 57
 ·
  rw [Ah h1]
  repeat (first | refine W.w ?_ | refine aE rfl ?_ | (refine zz rfl ?_; first | refine qac rfl ?_ | refine qae rfl ?_ | refine qad rfl ?_ | refine qak rfl rfl rfl (by omega) ?_ | refine qag (v := .bool _) rfl rfl ?_ | refine op_sub8 (a := c.toNat) (b := 48) h1.1 hc rfl rfl ?_))
  exact ⟨_, aC rfl, rfl, rfl⟩
 ·
  rw [Ac h1]
  by_cases h2 : 65 ≤ c.toNat ∧ c.toNat ≤ 70
  ·
   rw [Ah h2]
   repeat' (first | refine W.w ?_ | refine aE rfl ?_ | refine aG rfl ?_ | (refine zz rfl ?_; first | refine qac rfl ?_ | refine qae rfl ?_ | refine qad rfl ?_ | refine qak rfl rfl rfl (by omega) ?_ | refine qai rfl rfl rfl (by omega) ?_ | refine qag (v := .bool _) rfl rfl ?_ | refine op_sub8 (a := c.toNat) (b := 65) h2.1 hc rfl rfl ?_ | refine op_add8 (a := c.toNat - 65) (b := 10) (by omega) rfl rfl ?_))
   all_goals first | (exfalso; omega) | exact ⟨_, aC rfl, congrArg (Value.int .u8) (by omega), rfl⟩
  ·
   rw [Ac h2]
   repeat' (first | refine W.w ?_ | refine aK rfl rfl ?_ | refine aG rfl ?_ | (refine zz rfl ?_; first | refine qac rfl ?_ | refine qae rfl ?_ | refine qad rfl ?_ | refine qai rfl rfl rfl (by omega) ?_ | refine qag (v := .bool _) rfl rfl ?_ | refine qaT rfl rfl rfl (fun c => ?_) (fun c => ?_)))
   all_goals first | (exfalso; omega) | exact ⟨_, aC rfl, rfl, rfl⟩
instance i_rwords : FnC prog 55 := ⟨Tryz.f55, func55, by kernel_rfl, by kernel_rfl⟩
instance i_rnames : FnC prog 101 := ⟨Tryz.f101, func101, by kernel_rfl, by kernel_rfl⟩
instance i_rName : FnC prog 49 := ⟨Tryz.f49, func49, by kernel_rfl, by kernel_rfl⟩
instance i_rB : FnC prog 51 := ⟨Tryz.f51, func51, by kernel_rfl, by kernel_rfl⟩
theorem qcN {α : Type} {s : List α} {k : Nat} {c : α} (hc : s[k]? = some c) : s.drop k = c :: s.drop (k + 1) := by
  obtain ⟨hk, rfl⟩ := Av.1 hc
  exact Dz hk
theorem digR_lt (c : UInt8) : digR c ≤ 16 := by
  unfold digR
  have := c.toNat_lt
  split
  · omega
  · split <;> omega
structure UrI (h : Heap) (s : Bytes) (i : Nat) (acc : Bytes) (H : Heap) (u : Value) : Prop where
  le : i ≤ s.length
  eq : unR s = (unR (s.drop i)).map (acc ++ ·)
  gr : Gr h 5 (bv acc) H u
  len : acc.length ≤ i
theorem map_app {o : Option Bytes} {acc : Bytes} {c : UInt8} : (o.map (c :: ·)).map (acc ++ ·) = o.map ((acc ++ [c]) ++ ·) := by
  cases o <;> simp
def UwOk (h : Heap) (s : Bytes) (u : Value) (h' : Heap) : Prop := ∃ v b, u = .tuple #[v, .bool (unwordR s).isSome] ∧ OS h.next h' 5 v (bv b) ∧ b.length ≤ s.length ∧ Ext h h' ∧ ((unwordR s).isSome = true → unwordR s = some b)
theorem runword_c (s : Bytes) (h : Heap) (hl : s.length ≤ 100000000) : ACalls prog 141 [str s] h fun u h' => UwOk h s u h' := by
  refine aL fun wf => ?_
  refine aD func141 rfl rfl ?_
  by_cases h0 : s = [37]
  · repeat (first | refine W.w ?_ | refine aE rfl ?_ | (refine zz rfl ?_; first | refine qaj rfl ?_ | refine qaR rfl ?_ | refine qaa rfl ?_ | refine qaP (a := s) (b := [37]) rfl rfl h0 ?_))
    have e : unwordR s = some [] := by unfold unwordR; rw [Ah h0]
    exact ⟨_, bG rfl, .slice none 0 0, [], by rw [e]; rfl, bP _ _ _, Ao _, aU h, fun _ => e⟩
  have hno : unR s = none → ∀ H u, Gr h 5 (bv []) H u → Ext h H → UwOk h s (.tuple #[.slice none 0 0, .bool false]) H := fun e H u g x => by
    have e2 : unwordR s = none := by unfold unwordR; rw [Ac h0, e]
    exact ⟨.slice none 0 0, [], by rw [e2]; rfl, bP _ _ _, Ao _, x, fun q => by rw [e2] at q; cases q⟩
  repeat (first | refine W.w ?_ | refine aG rfl ?_ | (refine zz rfl ?_; first | refine qaj rfl ?_ | refine qad rfl ?_ | refine qaR rfl ?_ | refine qaa rfl ?_ | refine qaM (a := s) (b := [37]) rfl rfl h0 ?_))
  refine bB (α := Nat × Bytes × Heap × Value) (fun d => [(0, str s), (4, d.2.2.2), (5, .int .i64 (d.1 : Nat))]) (fun d => d.2.2.1) (fun d => UrI h s d.1 d.2.1 d.2.2.1 d.2.2.2) (fun d => s.length - d.1) (0, [], h, .slice none 0 0) ⟨Ao _, by simp, Gr.nil wf _, Aa _⟩
    (aI (aA rfl (aA rfl (aA rfl aN)))) ?_
  rintro ⟨k, acc, H, u⟩ ii
  replace ii : UrI h s k acc H u := ii
  show AWp _ _ _ _ [(0, str s), (4, u), (5, .int .i64 (k : Nat))] H
  obtain ⟨hk, heq, gg, hal⟩ := ii
  obtain ⟨ua, uc, hu⟩ := bC gg.os.rs
  have nil' : Gr h 5 (bv []) H (.slice none 0 0) := ⟨bP _ _ _, gg.ext, gg.wf, gg.nx⟩
  by_cases hlt : k < s.length
  · obtain ⟨c, hc⟩ := gX (l := s) (k := k) hlt
    have hcb : (bstr s)[((k : Nat) : Int).toNat]? = some c := (qcv s k).trans hc
    have hd := qcN hc
    by_cases h37 : c = 37
    · have hcn : c.toNat = 37 := by rw [h37]; rfl
      by_cases h2 : k + 2 < s.length
      · obtain ⟨a, ha⟩ : ∃ a, s[k + 1]? = some a := ⟨_, At (by omega)⟩
        obtain ⟨b, hb⟩ : ∃ b, s[k + 2]? = some b := ⟨_, At h2⟩
        have hab : (bstr s)[(((k : Nat) : Int) + 1).toNat]? = some a := (qcv s (k + 1)).trans ha
        have hbb : (bstr s)[(((k : Nat) : Int) + 2).toNat]? = some b := (qcv s (k + 2)).trans hb
        have hd2 : s.drop k = 37 :: a :: b :: s.drop (k + 3) := by rw [hd, qcN ha, qcN hb, h37]
        have la := digR_lt a
        have lb := digR_lt b
        by_cases hdg : digR a < 16 ∧ digR b < 16
        · have hu2 : unR s = (unR (s.drop (k + 3))).map ((acc ++ [UInt8.ofNat (digR a * 16 + digR b)]) ++ ·) := by rw [heq, hd2, unR_pct hdg, map_app]
          have hof : (UInt8.ofNat (digR a * 16 + digR b)).toNat = digR a * 16 + digR b := by
            rw [UInt8.toNat_ofNat']
            exact Nat.mod_eq_of_lt (by omega)
          repeat (first | refine W.w ?_ | refine aE rfl ?_ | refine aG rfl ?_ | (refine zz rfl ?_; first | refine qac rfl ?_ | refine qae rfl ?_ | refine qaj rfl ?_ | refine qaG rfl ?_ | refine qak rfl rfl rfl (by omega) ?_ | refine qai rfl rfl rfl (by omega) ?_ | refine qaK rfl rfl (by omega) hcb ?_ | refine qaK rfl rfl (by omega) hab ?_ | refine qaK rfl rfl (by omega) hbb ?_ | refine qab rfl rfl (qcC a H) ?_ | refine qab rfl rfl (qcC b H) ?_ | refine qag (v := .bool _) rfl rfl ?_ | refine qau rfl rfl (by omega) ?_))
          refine cD (t := OT.seq [(0, .R), (1, .R), (2, .R), (3, .R), (4, .R), (5, .R), (6, .R), (7, .R), (8, .R), (9, .R), (10, .R), (11, .R), (12, .R), (13, .X), (14, .W), (15, .R)] .nil) mixed (by kernel_rfl) ?_
          repeat (first | refine tr rfl rfl (fun _ hx _ => qac rfl ⟨rfl, rfl⟩) ?_ | refine tr rfl rfl (fun _ hx _ => qaj rfl ⟨rfl, rfl⟩) ?_ | refine tr rfl rfl (fun _ hx _ => qal (v := u) rfl ⟨rfl, rfl⟩) ?_ | refine tr rfl rfl (fun _ hx _ => qaK rfl rfl (by omega) hab ⟨rfl, rfl⟩) ?_ | refine tr rfl rfl (fun _ hx _ => qaK rfl rfl (by omega) hbb ⟨rfl, rfl⟩) ?_ | refine tr rfl rfl (fun h' hx _ => qab rfl rfl (qcC a h') ⟨rfl, rfl⟩) ?_ | refine tr rfl rfl (fun h' hx _ => qab rfl rfl (qcC b h') ⟨rfl, rfl⟩) ?_ | refine tr rfl rfl (fun _ hx _ => op_mul8 (a := digR a) (by omega) rfl rfl ⟨rfl, rfl⟩) ?_ | refine tr rfl rfl (fun _ hx _ => op_add8 (a := digR a * 16) (b := digR b) (by omega) rfl rfl ⟨rfl, rfl⟩) ?_ | refine tr rfl rfl (fun _ hx _ => qau rfl rfl (by omega) ⟨rfl, rfl⟩) ?_)
          refine cW rfl rfl rfl (qaN (bv [UInt8.ofNat (digR a * 16 + digR b)]) rfl rfl (by rw [show bv [UInt8.ofNat (digR a * 16 + digR b)] = [.int .u8 ((digR a * 16 + digR b : Nat) : Int)] by show [Value.int .u8 ((UInt8.ofNat (digR a * 16 + digR b)).toNat : Int)] = _; rw [hof]]; rfl) rfl (qcr _) ⟨gg.wf.ext _, ?_⟩)
          generalize UInt8.ofNat (digR a * 16 + digR b) = X at hu2 ⊢
          obtain ⟨H3, hQ, gr, xr, wr, _⟩ := aq gg.wf ⟨bv [X], 5, true⟩
          rw [hQ]
          have rb : RB H3 (.slice (some ⟨H.next, 0, some 1⟩) 1 1) [X] := bK gr rfl
          have n3 := wr.lt gr
          have g3 := gg.more xr wr (by omega)
          refine TAL.w rfl rfl rfl (qaX (z := .int .u8 0) (B := h.next) (e := 5) rfl wr g3.nx g3.os rfl rfl rb.src (qaE _) (qcG _) (by rw [qaE]; simp only [maxLen, Ad, Ag]; omega) (by rw [qaE]; simp only [Ad, Ag]; omega) ?_)
          intro u' H4 o4 k4 wf4 n4
          rw [← qbQ] at o4
          have g4 : Gr h 5 _ H4 u' := ⟨o4, k4.ext g3.os wf (Aa _) g3.ext, wf4, Bi g3.nx n4⟩
          repeat (first | refine tr rfl rfl (fun _ hx _ => qao (v := u') rfl ⟨rfl, rfl⟩) ?_)
          refine bD ?_
          repeat (first | refine W.w ?_ | (refine zz rfl ?_; first | refine qac rfl ?_ | refine qad rfl ?_ | refine qau rfl rfl (by omega) ?_))
          exact ⟨(k + 3, acc ++ [X], H4, u'), ⟨by show k + 3 ≤ s.length; omega, hu2, g4, by show (acc ++ [X]).length ≤ k + 3; rw [An, Ad, Ag]; omega⟩, by show s.length - (k + 3) < s.length - k; omega, aI (aA rfl (aA rfl (aA (congrArg (Value.int .i64) (by omega)) aN)))⟩
        · have hu2 : unR s = none := by
            rw [heq, hd2]
            conv => lhs; rw [unR]
            rw [Ah rfl, Ac hdg]
            rfl
          repeat' (first | refine W.w ?_ | refine aK rfl rfl ?_ | refine aE rfl ?_ | refine aG rfl ?_ | (refine zz rfl ?_; first | refine qac rfl ?_ | refine qae rfl ?_ | refine qaj rfl ?_ | refine qaR rfl ?_ | refine qaa rfl ?_ | refine qaG rfl ?_ | refine qak rfl rfl rfl (by omega) ?_ | refine qai rfl rfl rfl (by omega) ?_ | refine qaK rfl rfl (by omega) hcb ?_ | refine qaK rfl rfl (by omega) hab ?_ | refine qaK rfl rfl (by omega) hbb ?_ | refine qab rfl rfl (qcC a H) ?_ | refine qab rfl rfl (qcC b H) ?_ | refine qag (v := .bool _) rfl rfl ?_ | refine qau rfl rfl (by omega) ?_ | refine qaT rfl rfl rfl (fun c => ?_) (fun c => ?_)))
          all_goals first | (exfalso; omega) | exact ⟨_, bG rfl, hno hu2 H _ nil' gg.ext⟩
      · have hu2 : unR s = none := by
          rw [heq, hd, h37]
          cases hr : s.drop (k + 1) with
          | nil => conv => lhs; rw [unR]
                   rw [Ah rfl]; rfl
          | cons x r =>
            cases r with
            | nil => conv => lhs; rw [unR]
                     rw [Ah rfl]; rfl
            | cons y r =>
              exfalso
              have := congrArg List.length hr
              simp only [Dj, Ad] at this
              omega
        repeat (first | refine W.w ?_ | refine aK rfl rfl ?_ | refine aE rfl ?_ | refine aG rfl ?_ | (refine zz rfl ?_; first | refine qac rfl ?_ | refine qae rfl ?_ | refine qaj rfl ?_ | refine qaR rfl ?_ | refine qaa rfl ?_ | refine qaG rfl ?_ | refine qak rfl rfl rfl (by omega) ?_ | refine qai rfl rfl rfl (by omega) ?_ | refine qaK rfl rfl (by omega) hcb ?_ | refine qag (v := .bool _) rfl rfl ?_ | refine qau rfl rfl (by omega) ?_))
        exact ⟨_, bG rfl, hno hu2 H _ nil' gg.ext⟩
    · have hcn : c.toNat ≠ 37 := fun e => h37 (UInt8.toNat_inj.1 (by rw [e]; rfl))
      have hu2 : unR s = (unR (s.drop (k + 1))).map ((acc ++ [c]) ++ ·) := by rw [heq, hd, qgE h37, map_app]
      repeat (first | refine W.w ?_ | refine aE rfl ?_ | (refine zz rfl ?_; first | refine qac rfl ?_ | refine qaj rfl ?_ | refine qaG rfl ?_ | refine qak rfl rfl rfl (by omega) ?_ | refine qaK rfl rfl (by omega) hcb ?_ | refine qal (v := u) rfl ?_ | refine qaN (bv [c]) rfl rfl rfl rfl (qcr _) ?_))
      obtain ⟨H3, hQ, gr, xr, wr, _⟩ := aq gg.wf ⟨bv [c], 5, true⟩
      rw [hQ]
      have rb : RB H3 (.slice (some ⟨H.next, 0, some 1⟩) 1 1) [c] := bK gr rfl
      have n3 := wr.lt gr
      have g3 := gg.more xr wr (by omega)
      refine zz rfl (qaX (z := .int .u8 0) (B := h.next) (e := 5) rfl wr g3.nx g3.os rfl rfl rb.src (qaE _) (qcG _) (by rw [qaE]; simp only [maxLen, Ad, Ag]; omega) (by rw [qaE]; simp only [Ad, Ag]; omega) ?_)
      intro u' H4 o4 k4 wf4 n4
      rw [← qbQ] at o4
      have g4 : Gr h 5 _ H4 u' := ⟨o4, k4.ext g3.os wf (Aa _) g3.ext, wf4, Bi g3.nx n4⟩
      repeat (first | refine aW ?_ | refine aY ?_ | refine aP ?_ | (refine zz rfl ?_; first | refine qac rfl ?_ | refine qad rfl ?_ | refine qao (v := u') rfl ?_ | refine qau rfl rfl (by omega) ?_))
      exact ⟨(k + 1, acc ++ [c], H4, u'), ⟨hlt, hu2, g4, by show (acc ++ [c]).length ≤ k + 1; rw [An, Ad, Ag]; omega⟩, by show s.length - (k + 1) < s.length - k; omega, aI (aA rfl (aA rfl (aA rfl aN)))⟩
  · obtain rfl : k = s.length := by omega
    have hu2 : unR s = some acc := by
      rw [heq, List.drop_length, unR]
      simp
    have rb : RB H u acc := gg.os.rs
    have cw := rword_c u acc H rb (by omega)
    have e2 : unwordR s = if acc ≠ [] ∧ wordM acc = s then some acc else none := by unfold unwordR; rw [Ac h0, hu2]
    by_cases ha : acc = []
    · have e3 : unwordR s = none := by rw [e2, Ac fun e => e.1 ha]
      have hl0 : acc.length = 0 := by rw [ha]; rfl
      repeat (first | refine aW ?_ | refine aK rfl rfl ?_ | refine aR ?_ | refine aY ?_ | refine aG rfl ?_ | refine aM ?_ | refine aP ?_ | (refine zz rfl ?_; first | refine qac rfl ?_ | refine qae rfl ?_ | refine qaj rfl ?_ | refine qaa rfl ?_ | refine qaG rfl ?_ | refine qai rfl rfl rfl (by omega) ?_ | refine qal (v := u) rfl ?_ | refine qao (v := u) rfl ?_ | refine qaJ rb rfl ?_ | refine qag (v := .bool _) rfl rfl ?_))
      exact ⟨_, bG rfl, u, acc, by rw [e3]; rfl, gg.os, hal, gg.ext, fun q => by rw [e3] at q; cases q⟩
    · have hl0 : acc.length ≠ 0 := fun e => ha (Ce.1 e)
      by_cases hw : wordM acc = s
      · have e3 : unwordR s = some acc := by rw [e2, Ah ⟨ha, hw⟩]
        repeat (first | refine aW ?_ | refine aR ?_ | refine aY ?_ | refine aG rfl ?_ | refine aM ?_ | refine aP ?_ | (refine zz rfl ?_; first | refine qac rfl ?_ | refine qae rfl ?_ | refine qaj rfl ?_ | refine qaa rfl ?_ | refine qaG rfl ?_ | refine qak rfl rfl rfl (by omega) ?_ | refine qai rfl rfl rfl (by omega) ?_ | refine qal (v := u) rfl ?_ | refine qao (v := u) rfl ?_ | refine qaJ rb rfl ?_ | refine qab rfl rfl cw ?_ | refine qaP rfl rfl hw ?_ | refine qag (v := .bool _) rfl rfl ?_))
        exact ⟨_, bG rfl, u, acc, by rw [e3]; rfl, gg.os, hal, gg.ext, fun _ => e3⟩
      · have e3 : unwordR s = none := by rw [e2, Ac fun e => hw e.2]
        repeat (first | refine aW ?_ | refine aR ?_ | refine aY ?_ | refine aG rfl ?_ | refine aM ?_ | refine aP ?_ | (refine zz rfl ?_; first | refine qac rfl ?_ | refine qae rfl ?_ | refine qaj rfl ?_ | refine qaa rfl ?_ | refine qaG rfl ?_ | refine qak rfl rfl rfl (by omega) ?_ | refine qai rfl rfl rfl (by omega) ?_ | refine qal (v := u) rfl ?_ | refine qao (v := u) rfl ?_ | refine qaJ rb rfl ?_ | refine qab rfl rfl cw ?_ | refine qaM rfl rfl hw ?_ | refine qag (v := .bool _) rfl rfl ?_))
        exact ⟨_, bG rfl, u, acc, by rw [e3]; rfl, gg.os, hal, gg.ext, fun q => by rw [e3] at q; cases q⟩
instance i_TyD_Sl_Sl_uint8 : TyD prog 135 (.slice 27) := ⟨underlying135⟩
abbrev noB (s : Bytes) : Prop := ∀ c ∈ s, c ≠ 32
theorem qij : ∀ {w : Bytes}, noB w → wordsS w = [w]
 | [], _ => rfl
 | c :: w, h => by rw [wordsS, Ac (h c Bl), qij fun d hd => h d (Ay _ hd)]
theorem qgr : ∀ {w : Bytes} (r : Bytes), noB w → wordsS (w ++ 32 :: r) = w :: wordsS r
 | [], r, _ => by
  show wordsS (32 :: r) = _
  rw [wordsS, Ah rfl]
 | c :: w, r, h => by
  show wordsS (c :: (w ++ 32 :: r)) = _
  rw [wordsS, Ac (h c Bl), qgr r fun d hd => h d (Ay _ hd)]
structure WdI (h : Heap) (s : Bytes) (i at_ : Nat) (ws : List Bytes) (H : Heap) (u : Value) : Prop where
 gr : Gr h 9 (ws.map str) H u
 len : ws.length ≤ i
 alt : (i ≤ s.length ∧ at_ ≤ i ∧ wordsS s = ws ++ wordsS (s.drop at_) ∧ noB ((s.take i).drop at_)) ∨ (i = s.length + 1 ∧ wordsS s = ws)
theorem qfX (w : Bytes) : ∀ v ∈ [str w], oneB v = true := by
 intro v hv
 rw [Ax.1 hv]
 rfl
theorem qfC (s : Bytes) (h : Heap) (hl : s.length ≤ 1000000000) : ACalls prog 55 [str s] h fun u h' => Gr h 9 ((wordsS s).map str) h' u := by
 refine aL fun wf => ?_
 refine aD func55 rfl rfl ?_
 repeat (first | refine W.w ?_ | refine zz rfl (qad rfl ?_) | refine zz rfl (qaR rfl ?_))
 refine bB (α := Nat × Nat × List Bytes × Heap × Value) (fun d => [(0, str s), (3, d.2.2.2.2), (4, .int .i64 (d.2.1 : Nat)), (5, .int .i64 (d.1 : Nat))]) (fun d => d.2.2.2.1) (fun d => WdI h s d.1 d.2.1 d.2.2.1 d.2.2.2.1 d.2.2.2.2) (fun d => s.length + 1 - d.1) (0, 0, [], h, .slice none 0 0)
  ⟨Gr.nil wf _, Aa _, .inl ⟨Ao _, Aa _, rfl, fun c hc => by simp at hc⟩⟩ (aI (aA rfl (aA rfl (aA rfl (aA rfl aN))))) ?_
 rintro ⟨i, at_, ws, H, u⟩ ii
 replace ii : WdI h s i at_ ws H u := ii
 show AWp _ _ _ _ [(0, str s), (3, u), (4, .int .i64 (at_ : Nat)), (5, .int .i64 (i : Nat))] H
 obtain ⟨gg, hw, halt⟩ := ii
 obtain ⟨ua, uc, hu⟩ := bC gg.os.rs
 rcases halt with ⟨hi, hat, heq, hnb⟩ | ⟨hi, heq⟩
 ·
  have hwl : (((s.take ((i : Nat) : Int).toNat).drop ((at_ : Nat) : Int).toNat)) = (s.take i).drop at_ := rfl
  by_cases hlt : i < s.length
  ·
   obtain ⟨c, hc⟩ := gX (l := s) (k := i) hlt
   have hcb : (bstr s)[((i : Nat) : Int).toNat]? = some c := (qcv s i).trans hc
   by_cases h32 : c = 32
   ·
    have hcn : c.toNat = 32 := by rw [h32]; rfl
    have hd : s.drop at_ = (s.take i).drop at_ ++ 32 :: s.drop (i + 1) := by
     conv => lhs; rw [← Dc i s]
     rw [Cs (by rw [Bb]; omega), qcN hc, h32]
    have heq2 : wordsS s = (ws ++ [(s.take i).drop at_]) ++ wordsS (s.drop (i + 1)) := by rw [heq, hd, qgr _ hnb]; simp
    repeat (first | refine W.w ?_ | refine aE rfl ?_ | (refine zz rfl ?_; first | refine qac rfl ?_ | refine qae rfl ?_ | refine qaj rfl ?_ | refine qaG rfl ?_ | refine qak rfl rfl rfl (by omega) ?_ | refine qai rfl rfl rfl (by omega) ?_ | refine qaK rfl rfl (by omega) hcb ?_ | refine qag (v := .bool _) rfl rfl ?_ | refine qal (v := u) rfl ?_ | refine qa8 (s := s) (l := ((at_ : Nat) : Int)) (m := ((i : Nat) : Int)) rfl rfl rfl (by omega) (by omega) (by omega) ?_ | refine qaN [str ((s.take i).drop at_)] rfl rfl rfl rfl (qfX _) ?_))
    generalize (s.take i).drop at_ = w at hnb hwl heq2 ⊢
    obtain ⟨H3, hQ, gr, xr, wr, _⟩ := aq gg.wf ⟨[str w], 9, true⟩
    rw [hQ]
    have rb : RS H3 (.slice (some ⟨H.next, 0, some 1⟩) 1 1) [str w] := bK gr rfl
    have n3 := wr.lt gr
    have g3 := gg.more xr wr (by omega)
    refine zz rfl (qaX (by_ := 16) (z := .string ⟨#[]⟩) (B := h.next) (e := 9) rfl wr g3.nx g3.os rfl rfl rb.src rfl rfl (by rw [Ap]; simp only [maxLen, Ad, Ag]; omega) (by rw [Ap]; simp only [Ad, Ag]; omega) ?_)
    intro u' H4 o4 k4 wf4 n4
    have g4 : Gr h 9 _ H4 u' := ⟨o4, k4.ext g3.os wf (Aa _) g3.ext, wf4, Bi g3.nx n4⟩
    repeat (first | refine W.w ?_ | (refine zz rfl ?_; first | refine qac rfl ?_ | refine qad rfl ?_ | refine qao (v := u') rfl ?_ | refine qau rfl rfl (by omega) ?_))
    exact ⟨(i + 1, i + 1, ws ++ [w], H4, u'), ⟨by show Gr h _ ((ws ++ [w]).map str) H4 u'; rw [Cx]; exact g4, by show (ws ++ [w]).length ≤ i + 1; rw [An, Ad, Ag]; omega, .inl ⟨hlt, Aa _, heq2, fun c hc => by simp at hc⟩⟩, by show s.length + 1 - (i + 1) < s.length + 1 - i; omega, aI (aA rfl (aA rfl (aA rfl (aA rfl aN))))⟩
   ·
    have hcn : c.toNat ≠ 32 := fun e => h32 (UInt8.toNat_inj.1 (by rw [e]; rfl))
    repeat (first | refine W.w ?_ | refine aE rfl ?_ | refine aG rfl ?_ | (refine zz rfl ?_; first | refine qac rfl ?_ | refine qae rfl ?_ | refine qaj rfl ?_ | refine qad rfl ?_ | refine qaG rfl ?_ | refine qak rfl rfl rfl (by omega) ?_ | refine qai rfl rfl rfl (by omega) ?_ | refine qaK rfl rfl (by omega) hcb ?_ | refine qag (v := .bool _) rfl rfl ?_ | refine qau rfl rfl (by omega) ?_))
    refine ⟨(i + 1, at_, ws, H, u), ⟨gg, by show ws.length ≤ i + 1; omega, .inl ⟨hlt, by show at_ ≤ i + 1; omega, heq, ?_⟩⟩, by show s.length + 1 - (i + 1) < s.length + 1 - i; omega, aI (aA rfl (aA rfl (aA rfl (aA rfl aN))))⟩
    show noB ((s.take (i + 1)).drop at_)
    rw [Bf, hc, Cs (by rw [Bb]; omega)]
    intro d hd
    rcases Bh.1 hd with hd | hd
    ·
     exact hnb d hd
    ·
     simp at hd; rw [hd]; exact h32
  ·
   obtain rfl : i = s.length := by omega
   have heq2 : wordsS s = ws ++ [(s.take s.length).drop at_] := by rw [heq, ← qij hnb, Au]
   repeat (first | refine W.w ?_ | refine aK rfl rfl ?_ | refine aE rfl ?_ | (refine zz rfl ?_; first | refine qac rfl ?_ | refine qae rfl ?_ | refine qaj rfl ?_ | refine qaG rfl ?_ | refine qak rfl rfl rfl (by omega) ?_ | refine qag (v := .bool _) rfl rfl ?_ | refine qal (v := u) rfl ?_ | refine qa8 (s := s) (l := ((at_ : Nat) : Int)) (m := ((s.length : Nat) : Int)) rfl rfl rfl (by omega) (by omega) (by omega) ?_ | refine qaN [str ((s.take s.length).drop at_)] rfl rfl rfl rfl (qfX _) ?_))
   generalize (s.take s.length).drop at_ = w at hnb hwl heq2 ⊢
   obtain ⟨H3, hQ, gr, xr, wr, _⟩ := aq gg.wf ⟨[str w], 9, true⟩
   rw [hQ]
   have rb : RS H3 (.slice (some ⟨H.next, 0, some 1⟩) 1 1) [str w] := bK gr rfl
   have n3 := wr.lt gr
   have g3 := gg.more xr wr (by omega)
   refine zz rfl (qaX (by_ := 16) (z := .string ⟨#[]⟩) (B := h.next) (e := 9) rfl wr g3.nx g3.os rfl rfl rb.src rfl rfl (by rw [Ap]; simp only [maxLen, Ad, Ag]; omega) (by rw [Ap]; simp only [Ad, Ag]; omega) ?_)
   intro u' H4 o4 k4 wf4 n4
   have g4 : Gr h 9 _ H4 u' := ⟨o4, k4.ext g3.os wf (Aa _) g3.ext, wf4, Bi g3.nx n4⟩
   repeat (first | refine W.w ?_ | (refine zz rfl ?_; first | refine qac rfl ?_ | refine qad rfl ?_ | refine qao (v := u') rfl ?_ | refine qau rfl rfl (by omega) ?_))
   exact ⟨(s.length + 1, s.length + 1, ws ++ [w], H4, u'), ⟨by show Gr h _ ((ws ++ [w]).map str) H4 u'; rw [Cx]; exact g4, by show (ws ++ [w]).length ≤ s.length + 1; rw [An, Ad, Ag]; omega, .inr ⟨rfl, heq2⟩⟩, by show s.length + 1 - (s.length + 1) < s.length + 1 - s.length; omega, aI (aA rfl (aA rfl (aA rfl (aA rfl aN))))⟩
 ·
  repeat (first | refine aW ?_ | refine aR ?_ | refine aY ?_ | refine aG rfl ?_ | refine aM ?_ | refine aP ?_ | (refine zz rfl ?_; first | refine qac rfl ?_ | refine qaj rfl ?_ | refine qaG rfl ?_ | refine qai rfl rfl rfl (by omega) ?_ | refine qal (v := u) rfl ?_ | refine qao (v := u) rfl ?_))
  refine ⟨_, aC rfl, ?_⟩
  rw [heq]
  exact gg
def namesL : List Bytes := [[], [116, 105, 109, 101, 114], [98, 101, 97, 116], [104, 101, 97, 114], [100, 114, 111, 112], [100, 111, 117, 98, 108, 101], [97, 112, 112, 108, 121], [119, 111, 114, 107], [100, 114, 105, 118, 101], [112, 108, 97, 110], [97, 115, 107], [97, 103, 97, 105, 110], [99, 114, 97, 115, 104], [115, 116, 97, 114, 116]]
theorem names_at : ∀ i : Fin 13, namesL[i.val + 1]? = some (kword (i.val + 1)) := by decide +kernel
theorem strs_ones (ws : List Bytes) : ∀ v ∈ ws.map str, oneB v = true := by
 intro v hv
 obtain ⟨w, _, rfl⟩ := Bp.1 hv
 rfl
theorem rnames_c (h : Heap) : ACalls prog 101 [] h fun u h' => u = .slice (some ⟨h.next, 0, some 1⟩) 14 14 ∧ h' = h.alloc ⟨namesL.map str, 9, true⟩ := by
 refine aD func101 rfl rfl ?_
 repeat (first | refine W.w ?_ | refine zz rfl (qaR rfl ?_) | refine zz rfl (qaN (namesL.map str) rfl rfl rfl rfl (strs_ones _) ?_))
 exact ⟨_, aC rfl, rfl, rfl⟩
theorem rName_c (k : Int) (hk : 1 ≤ k ∧ k ≤ 13) (h : Heap) : ACalls prog 49 [.int .i64 k] h fun u h' => u = str (kword k) ∧ h' = h := by
 refine aL fun wf => aO ?_
 refine aD func49 rfl rfl ?_
 repeat (first | refine W.w ?_ | refine zz rfl (qah rfl ?_))
 refine zz rfl (qat rfl rfl ((rnames_c h).mono ?_))
 rintro _ H1 ⟨rfl, hH1⟩
 cases hH1.symm
 obtain ⟨H1, hQ, g1, x1, _, _⟩ := aq wf ⟨namesL.map str, 9, true⟩
 rw [hQ]
 have r1 : RS H1 (.slice (some ⟨h.next, 0, some 1⟩) 14 14) (namesL.map str) := bK g1 rfl
 have hn : (namesL.map str)[k.toNat]? = some (str (kword k)) := by
  have := names_at ⟨(k - 1).toNat, by omega⟩
  have e1 : (k - 1).toNat + 1 = k.toNat := by omega
  have e2 : (((k - 1).toNat : Nat) : Int) + 1 = k := by omega
  simp only [e1, e2] at this
  rw [Bm, this]
  rfl
 repeat (first | refine W.w ?_ | (refine zz rfl ?_; first | refine qac rfl ?_ | refine qah rfl ?_ | refine qas r1 rfl rfl (by omega) hn fun _ => ?_ | refine qar (bL r1 hn) rfl rfl ?_))
 exact ⟨_, aC rfl, rfl, x1, rfl, rfl⟩
theorem rB_c (s : Bytes) (v : Value) (l : List Bytes) (h : Heap) (r : RBB h v l) (hs : s.length ≤ 100000) (hb : ∀ b ∈ l, b.length ≤ 1000) (hl : l.length ≤ 100) : ACalls prog 51 [str s, v] h fun u h' => u = str (s ++ tailW (l.map wordM)) ∧ h' = h := by
 refine aD func51 rfl rfl ?_
 obtain ⟨vs, r1, r2, r3⟩ := r
 obtain ⟨va, vc, hv⟩ := bC r1
 repeat (first | refine W.w ?_ | refine zz rfl (qad rfl ?_) | refine zz rfl (qah rfl ?_))
 refine bB (α := Nat) (fun k => [(0, str (s ++ tailW ((l.take k).map wordM))), (1, v), (5, .int .i64 (k : Nat))]) (fun _ => h) (fun k => k ≤ l.length ∧ (tailW ((l.take k).map wordM)).length ≤ 3002 * k) (fun k => l.length - k) 0 ⟨Ao _, Aa _⟩ (aI (aA (congrArg str (Ck s).symm) (aA rfl (aA rfl aN)))) ?_
 rintro k ⟨hk, hkl⟩
 by_cases hlt : k < l.length
 ·
  obtain ⟨b, hbk⟩ := gX (l := l) (k := k) hlt
  obtain ⟨x, hx⟩ := gX (l := vs) (k := k) (by omega)
  have hxk : vs[((k : Nat) : Int).toNat]? = some x := hx
  have rb := r3 k x b hx hbk
  have hbl := hb b (Aw hbk)
  have cw := rword_c x b h rb (by omega)
  have hwl : (wordM b).length ≤ 3001 := by
   unfold wordM
   split
   ·
    simp
   ·
    have := qcT b; omega
  have e : s ++ tailW ((l.take (k + 1)).map wordM) = s ++ tailW ((l.take k).map wordM) ++ [32] ++ wordM b := by
   rw [Bf, hbk, Cx, qb6]
   simp [tailW]
  have e2 : tailW ((l.take (k + 1)).map wordM) = tailW ((l.take k).map wordM) ++ 32 :: wordM b := by
   rw [Bf, hbk, Cx, qb6]
   simp [tailW]
  repeat (first | refine W.w ?_ | refine aE rfl ?_ | (refine zz rfl ?_; first | refine qac rfl ?_ | refine qaj rfl ?_ | refine qad rfl ?_ | refine qah rfl ?_ | refine qal (v := v) rfl ?_ | refine qaz r1 rfl ?_ | refine qak rfl rfl rfl (by omega) ?_ | refine qbZ rfl rfl (by simp only [maxLen, An, Ad, Ag]; omega) ?_ | refine qas r1 rfl rfl (by omega) hxk fun _ => ?_ | refine qar (bL r1 hxk) rfl rfl ?_ | refine qab rfl rfl cw ?_ | refine qau rfl rfl (by omega) ?_))
  exact ⟨k + 1, ⟨hlt, by rw [e2, An, Ad]; omega⟩, by omega, aI (aA (congrArg str e.symm) (aA rfl (aA rfl aN)))⟩
 ·
  obtain rfl : k = l.length := by omega
  rw [Au] at hkl ⊢
  repeat (first | refine aW ?_ | refine aR ?_ | refine aY ?_ | refine aG rfl ?_ | refine aM ?_ | refine aP ?_ | (refine zz rfl ?_; first | refine qac rfl ?_ | refine qaj rfl ?_ | refine qah rfl ?_ | refine qal (v := v) rfl ?_ | refine qaz r1 rfl ?_ | refine qai rfl rfl rfl (by omega) ?_))
  exact ⟨_, aC rfl, rfl, rfl⟩
end Go.Proofs.YtigmojilaadbhaaGreatDoor
/- . -/
namespace Go.Pln
open Go Go.Lib
theorem askI_no {w : List Bytes} {i : Nat} (h : w.length ≤ i) : askI w i = (ask0, false) := by unfold askI; rw [Ah h]
theorem qiP {w : List Bytes} {i : Nat} (h : ¬ w.length ≤ i) (hx : w[i]? = some wGet) : askI w i = ({ ask0 with kind := 1, key := (wordI w (i + 1)).getD [] }, (wordI w (i + 1)).isSome) := by
 unfold askI
 rw [Ac h, hx]
 simp only [Bj]
 rw [Ah trivial]
theorem qef {w : List Bytes} {i : Nat} (h : ¬ w.length ≤ i) (hx : w[i]? = some wDelete) : askI w i = ({ ask0 with kind := 3, key := (wordI w (i + 1)).getD [] }, (wordI w (i + 1)).isSome) := by
 unfold askI
 rw [Ac h, hx]
 simp only [Bj]
 rw [Ac (by decide), Ah trivial]
theorem qiF {w : List Bytes} {i : Nat} (h : ¬ w.length ≤ i) (hx : w[i]? = some wPut) : askI w i = ({ ask0 with kind := 2, key := (wordI w (i + 1)).getD [], value := (wordI w (i + 2)).getD [] }, (wordI w (i + 1)).isSome && (wordI w (i + 2)).isSome) := by
 unfold askI
 rw [Ac h, hx]
 simp only [Bj]
 rw [Ac (by decide), Ac (by decide), Ah (by decide), Ac (by decide), Ah trivial]
 rfl
theorem qfb {w : List Bytes} {i : Nat} (h : ¬ w.length ≤ i) (hx : w[i]? = some wFresh) : askI w i = ({ ask0 with kind := 4, none := true, key := (wordI w (i + 1)).getD [], value := (wordI w (i + 2)).getD [] }, (wordI w (i + 1)).isSome && (wordI w (i + 2)).isSome) := by
 unfold askI
 rw [Ac h, hx]
 simp only [Bj]
 rw [Ac (by decide), Ac (by decide), Ah (by decide), Ac (by decide), Ac (by decide)]
 rfl
theorem qgH {w : List Bytes} {i : Nat} (h : ¬ w.length ≤ i) (hx : w[i]? = some wSwap) : askI w i = ({ ask0 with kind := 4, key := (wordI w (i + 1)).getD [], value := (wordI w (i + 2)).getD [], was := (wordI w (i + 3)).getD [] }, (wordI w (i + 1)).isSome && (wordI w (i + 2)).isSome && (wordI w (i + 3)).isSome) := by
 unfold askI
 rw [Ac h, hx]
 simp only [Bj]
 rw [Ac (by decide), Ac (by decide), Ah (by decide), Ah trivial, Ac (by decide)]
 rfl
theorem qgh {w : List Bytes} {i : Nat} (h : ¬ w.length ≤ i) (hx : w[i]? = some wScan) : askI w i = ({ ask0 with kind := 5, key := (wordI w (i + 1)).getD [], «to» := (wordI w (i + 2)).getD [], most := numI w (i + 3) }, (wordI w (i + 1)).isSome && (wordI w (i + 2)).isSome) := by
 unfold askI
 rw [Ac h, hx]
 simp only [Bj]
 rw [Ac (by decide), Ac (by decide), Ac (by decide), Ah trivial]
theorem qg7 {w : List Bytes} {i : Nat} {x : Bytes} (h : ¬ w.length ≤ i) (hx : w[i]? = some x) (h1 : ¬ x = wGet) (h2 : ¬ x = wDelete) (h3 : ¬ x = wPut) (h4 : ¬ x = wFresh) (h5 : ¬ x = wSwap) (h6 : ¬ x = wScan) : askI w i = ({ ask0 with key := (wordI w (i + 1)).getD [] }, (wordI w (i + 1)).isSome) := by
 unfold askI
 rw [Ac h, hx]
 simp only [Bj]
 rw [Ac h1, Ac h2, Ac (by rintro (e | e | e) <;> contradiction), Ac h6]
theorem planI_no {w : List Bytes} (h : w.length < 4) : planI w = (cmd0, false) := by unfold planI; rw [Ah h]
theorem qhQ {w : List Bytes} (h : ¬ w.length < 4) (hx : w[2]? = some wSplit) : planI w = ({ cmd0 with kind := 6, key := (wordI w 3).getD [] }, (wordI w 3).isSome) := by
 unfold planI
 rw [Ac h, hx]
 simp only [Bj]
 rw [Ah trivial]
theorem qh0 {w : List Bytes} (h : ¬ w.length < 4) (hx : w[2]? = some wUnion) : planI w = ({ cmd0 with kind := 7, key := (wordI w 3).getD [] }, (wordI w 3).isSome) := by
 unfold planI
 rw [Ac h, hx]
 simp only [Bj]
 rw [Ac (by decide), Ah trivial]
theorem planI_move {w : List Bytes} (h : ¬ w.length < 4) (hx : w[2]? = some wMove) : planI w = ({ cmd0 with kind := 8, key := (wordI w 3).getD [], group := numI w 4 }, (wordI w 3).isSome) := by
 unfold planI
 rw [Ac h, hx]
 simp only [Bj]
 rw [Ac (by decide), Ac (by decide), Ah trivial]
theorem planI_else {w : List Bytes} {x : Bytes} (h : ¬ w.length < 4) (hx : w[2]? = some x) (h1 : ¬ x = wSplit) (h2 : ¬ x = wUnion) (h3 : ¬ x = wMove) : planI w = ({ cmd0 with key := (wordI w 3).getD [] }, (wordI w 3).isSome) := by
 unfold planI
 rw [Ac h, hx]
 simp only [Bj]
 rw [Ac h1, Ac h2, Ac h3]
end Go.Pln
