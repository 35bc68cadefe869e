/-
  Texts of one claim, merged: 7 parts.
-/
import Derived.Test.YtigmojilaadbhaaGreatDoorMus
import Derived.Test.YtigmojilaadbhaaGreatDoorMuk
set_option maxHeartbeats 16000000
/- . -/
namespace Go.Proofs.YtigmojilaadbhaaGreatDoor
open Go Go.Eng Go.Pln Go.Lib
attribute [local irreducible] AWp AL DAL AOp
instance i_sameActR : FnC Tryz.prog 23 := ⟨Tryz.f23, Tryz.func23, by kernel_rfl, by kernel_rfl⟩
theorem qdg (p q : ActV) (a b : ActM) (h : Heap) (ra : ActR h p a) (rb : ActR h q b) : ACalls Tryz.prog 23 [.agg (actC p a).toArray, .agg (actC q b).toArray] h fun u h' => u = .bool (decide (a = b)) ∧ h' = h := by
 refine ACalls.wf fun wf => ACalls.reset ?_
 refine ACalls.body Tryz.func23 rfl rfl ?_
 repeat (first | refine W.w ?_ | refine zz rfl (qaa rfl ?_) | refine zz rfl (qaV rfl (by intro e; cases e) ?_))
 generalize hH : h.alloc _ = H1
 have hg0 : H1.get h.next = some ⟨actC p a, 40, true⟩ := hH ▸ Heap.alloc_new _ _
 have hx1 : Ext h H1 := hH ▸ wf.ext _
 have wf1 : WF H1 := hH ▸ wf.alloc _
 skip
 generalize hH2 : H1.alloc _ = H
 have hg2 : H.get H1.next = some ⟨actC q b, 40, true⟩ := hH2 ▸ Heap.alloc_new _ _
 have hx2 : Ext H1 H := hH2 ▸ wf1.ext _
 have hg1 : H.get h.next = some ⟨actC p a, 40, true⟩ := hx2.c _ _ hg0
 have hx : Ext h H := hx1.trans hx2
 clear hH hH2
 obtain ⟨a1, a2, a3⟩ := ra.ext hx
 obtain ⟨b1, b2, b3⟩ := rb.ext hx
 have cA := qeQ p.q q.q a.ask b.ask H a1 b1
 have cM := qeW p.c q.c a.cmd b.cmd H a2 b2
 have r1 := a3.rn
 have s1 := b3.rn
 obtain ⟨ua, uc, hu⟩ := r1.slice
 obtain ⟨va, vc, hv⟩ := s1.slice
 have l1 : (a.keep.map keptR).length = a.keep.length := List.length_map _
 have l2 : (b.keep.map keptR).length = b.keep.length := List.length_map _
 have hlen := a3.len
 by_cases hall : a.kind = b.kind ∧ a.node = b.node ∧ a.group = b.group ∧ a.client = b.client ∧ a.n = b.n ∧ a.ask = b.ask ∧ a.cmd = b.cmd ∧ a.keep.length = b.keep.length
 ·
  obtain ⟨e1, e2, e3, e4, e5, e6, e7, e8⟩ := hall
  rw [decide_eq_true e6] at cA
  rw [decide_eq_true e7] at cM
  repeat (first | refine W.w ?_ | refine AWp.c9 rfl ?_ | (refine zz rfl ?_; first | refine qae rfl ?_ | refine qad rfl ?_ | refine qao rfl ?_ | refine qaf rfl rfl hg1 rfl ?_ | refine qaf rfl rfl hg2 rfl ?_ | refine qaj (sz := 7) rfl rfl hg1 (Nat.le_of_ble_eq_true rfl) ?_ | refine qaj (sz := 7) rfl rfl hg2 (Nat.le_of_ble_eq_true rfl) ?_ | refine qaj (sz := 20) rfl rfl hg1 (Nat.le_of_ble_eq_true rfl) ?_ | refine qaj (sz := 20) rfl rfl hg2 (Nat.le_of_ble_eq_true rfl) ?_ | refine qaB r1 rfl ?_ | refine qaB s1 rfl ?_ | refine qak rfl rfl rfl (by omega) ?_ | refine qah (v := .bool _) rfl rfl ?_ | refine qab rfl rfl cA ?_ | refine qab rfl rfl cM ?_ | refine qaL rfl ?_))
  refine AWp.loop (α := Nat) (fun k => [(2, ptr h.next), (3, ptr H1.next), (5, .int .i64 (k : Nat))]) (fun _ => H) (fun k => k ≤ a.keep.length ∧ a.keep.take k = b.keep.take k) (fun k => a.keep.length - k) 0 ⟨Nat.zero_le _, rfl⟩ (Weak.same (EW.cons rfl (EW.cons rfl (EW.cons rfl EW.nil)))) ?_
  rintro k ⟨hk, hp⟩
  by_cases hlt : k < a.keep.length
  ·
   obtain ⟨x, hxa⟩ : ∃ x, a.keep[k]? = some x := ⟨_, List.getElem?_eq_getElem hlt⟩
   obtain ⟨y, hyb⟩ : ∃ y, b.keep[k]? = some y := ⟨_, List.getElem?_eq_getElem (by omega)⟩
   have hx2 : (a.keep.map keptR)[((k : Nat) : Int).toNat]? = some (keptR x) := by simp [hxa]
   have hy2 : (b.keep.map keptR)[((k : Nat) : Int).toNat]? = some (keptR y) := by simp [hyb]
   have px := r1.elt hx2
   have py := s1.elt hy2
   have hte := qeo hp hxa hyb
   have heq := qga x y
   by_cases hxy : x = y
   ·
    rw [decide_eq_true hxy] at heq
    repeat (first | refine W.w ?_ | refine AWp.c8 rfl ?_ | (refine zz rfl ?_; first | refine qac rfl ?_ | refine qao rfl ?_ | refine qaf rfl rfl hg1 rfl ?_ | refine qaB r1 rfl ?_ | refine qam rfl rfl rfl (by omega) ?_))
    refine AWp.draw (σ := [(0, .R), (1, .R), (2, .R), (3, .R), (4, .R), (5, .R), (6, .R), (7, .R), (8, .R), (9, .R), (10, .R)]) mixed (by kernel_rfl) ?_
    repeat (first | refine DAL.r rfl rfl rfl (fun h' hx hn => qac rfl ⟨rfl, rfl⟩) ?_ | refine DAL.r rfl rfl rfl (fun h' hx hn => qao rfl ⟨rfl, rfl⟩) ?_ | refine DAL.r rfl rfl rfl (fun h' hx hn => qaf rfl rfl (hx.c _ _ hg1) rfl ⟨rfl, rfl⟩) ?_ | refine DAL.r rfl rfl rfl (fun h' hx hn => qaf rfl rfl (hx.c _ _ hg2) rfl ⟨rfl, rfl⟩) ?_ | refine DAL.r rfl rfl rfl (fun h' hx hn => qaG (r1.ext hx) rfl rfl (by omega) hx2 ⟨rfl, rfl⟩) ?_ | refine DAL.r rfl rfl rfl (fun h' hx hn => qaG (s1.ext hx) rfl rfl (by omega) hy2 ⟨rfl, rfl⟩) ?_ | refine DAL.r rfl rfl rfl (fun h' hx hn => qa1 (px.ext hx) rfl rfl rfl ⟨rfl, rfl⟩) ?_ | refine DAL.r rfl rfl rfl (fun h' hx hn => qa1 (py.ext hx) rfl rfl rfl ⟨rfl, rfl⟩) ?_ | refine DAL.r rfl rfl rfl (fun h' hx hn => qdO (xs := keptR x) (ys := keptR y) rfl rfl rfl heq ⟨rfl, rfl⟩) ?_)
    refine DAL.nil ?_
    repeat (first | refine W.w ?_ | refine AWp.c9 rfl ?_ | (refine zz rfl ?_; first | refine qac rfl ?_ | refine qad rfl ?_ | refine qas rfl rfl (by omega) ?_))
    exact ⟨k + 1, ⟨hlt, hte.2 hxy⟩, by omega, Weak.same (EW.cons rfl (EW.cons rfl (EW.cons rfl EW.nil)))⟩
   ·
    rw [decide_eq_false hxy] at heq
    repeat (first | refine W.w ?_ | refine AWp.c8 rfl ?_ | (refine zz rfl ?_; first | refine qac rfl ?_ | refine qao rfl ?_ | refine qaf rfl rfl hg1 rfl ?_ | refine qaB r1 rfl ?_ | refine qam rfl rfl rfl (by omega) ?_))
    refine AWp.draw (σ := [(0, .R), (1, .R), (2, .R), (3, .R), (4, .R), (5, .R), (6, .R), (7, .R), (8, .R), (9, .R), (10, .R)]) mixed (by kernel_rfl) ?_
    repeat (first | refine DAL.r rfl rfl rfl (fun h' hx hn => qac rfl ⟨rfl, rfl⟩) ?_ | refine DAL.r rfl rfl rfl (fun h' hx hn => qao rfl ⟨rfl, rfl⟩) ?_ | refine DAL.r rfl rfl rfl (fun h' hx hn => qaf rfl rfl (hx.c _ _ hg1) rfl ⟨rfl, rfl⟩) ?_ | refine DAL.r rfl rfl rfl (fun h' hx hn => qaf rfl rfl (hx.c _ _ hg2) rfl ⟨rfl, rfl⟩) ?_ | refine DAL.r rfl rfl rfl (fun h' hx hn => qaG (r1.ext hx) rfl rfl (by omega) hx2 ⟨rfl, rfl⟩) ?_ | refine DAL.r rfl rfl rfl (fun h' hx hn => qaG (s1.ext hx) rfl rfl (by omega) hy2 ⟨rfl, rfl⟩) ?_ | refine DAL.r rfl rfl rfl (fun h' hx hn => qa1 (px.ext hx) rfl rfl rfl ⟨rfl, rfl⟩) ?_ | refine DAL.r rfl rfl rfl (fun h' hx hn => qa1 (py.ext hx) rfl rfl rfl ⟨rfl, rfl⟩) ?_ | refine DAL.r rfl rfl rfl (fun h' hx hn => qdO (xs := keptR x) (ys := keptR y) rfl rfl rfl heq ⟨rfl, rfl⟩) ?_)
    refine DAL.nil ?_
    repeat (first | refine W.w ?_ | refine AWp.c8 rfl ?_ | refine zz rfl (qaa rfl ?_))
    exact ⟨_, ResV.tmp rfl, rfl, hx, congrArg Value.bool (decide_eq_false fun e => hxy (hte.1 (by rw [e]))).symm, rfl⟩
  ·
   obtain rfl : k = a.keep.length := by omega
   rw [List.take_length, e8, List.take_length] at hp
   repeat (first | refine AL.nil ?_ | refine AWp.seq ?_ | refine AWp.r9 ?_ | refine AWp.c9 rfl ?_ | refine AWp.ret ?_ | refine AWp.exit ?_ | (refine zz rfl ?_; first | refine qac rfl ?_ | refine qaa rfl ?_ | refine qao rfl ?_ | refine qaf rfl rfl hg1 rfl ?_ | refine qaB r1 rfl ?_ | refine qak rfl rfl rfl (by omega) ?_))
   exact ⟨_, ResV.tmp rfl, rfl, hx, congrArg Value.bool (decide_eq_true (act_ext.2 ⟨e1, e2, e3, e4, e5, e6, e7, hp⟩)).symm, rfl⟩
 ·
  repeat' (first | refine W.w ?_ | refine AL.skip rfl rfl ?_ | refine AWp.c8 rfl ?_ | refine AWp.c9 rfl ?_ | (refine zz rfl ?_; first | refine qae rfl ?_ | refine qad rfl ?_ | refine qaa rfl ?_ | refine qao rfl ?_ | refine qaf rfl rfl hg1 rfl ?_ | refine qaf rfl rfl hg2 rfl ?_ | refine qaj (sz := 7) rfl rfl hg1 (Nat.le_of_ble_eq_true rfl) ?_ | refine qaj (sz := 7) rfl rfl hg2 (Nat.le_of_ble_eq_true rfl) ?_ | refine qaj (sz := 20) rfl rfl hg1 (Nat.le_of_ble_eq_true rfl) ?_ | refine qaj (sz := 20) rfl rfl hg2 (Nat.le_of_ble_eq_true rfl) ?_ | refine qaB r1 rfl ?_ | refine qaB s1 rfl ?_ | refine qaR rfl rfl cA (fun c => ?_) (fun c => ?_) | refine qaR rfl rfl cM (fun c => ?_) (fun c => ?_) | refine qaL rfl ?_ | refine qaQ rfl rfl rfl (fun c => ?_) (fun c => ?_) | refine qah (v := .bool _) rfl rfl ?_))
  all_goals first | (refine ⟨_, ResV.tmp rfl, rfl, hx, congrArg Value.bool (decide_eq_false fun e => ?_).symm, rfl⟩; subst e; clear cA cM; first | contradiction | omega | (simp at *; done) | grind) | (exfalso; clear cA cM; grind)
end Go.Proofs.YtigmojilaadbhaaGreatDoor
/- . -/
namespace Go.Pln
open Go Go.Lib
abbrev knA : Bytes := [116, 105, 109, 101, 114, 32, 48, 32, 49]
abbrev knB : Bytes := [97, 115, 107, 32, 49, 32, 48, 32, 49, 32, 112, 117, 116, 32, 97, 32, 37]
abbrev knC : Bytes := [112, 108, 97, 110, 32, 48, 32, 109, 111, 118, 101, 32, 37, 32, 50]
abbrev knD : Bytes := [112, 108, 97, 110, 32, 48, 32, 109, 111, 118, 101, 32, 97]
abbrev knE : Bytes := [104, 101, 97, 114, 32, 48, 49]
abbrev knF : Bytes := [99, 114, 97, 115, 104, 32, 48, 32, 97, 32, 49, 32, 97, 32, 50]
abbrev knT : Bytes := [115, 101, 116, 117, 112, 32, 49, 32, 49, 48, 50, 52, 32, 54, 52, 32, 50, 53, 54, 10, 103, 114, 111, 117, 112, 32, 48, 10, 103, 114, 111, 117, 112, 32, 48, 10, 116, 105, 109, 101, 114, 32, 48, 32, 49, 10]
abbrev knU : Bytes := [115, 101, 116, 117, 112, 32, 49, 32, 49, 48, 50, 52, 32, 54, 52, 32, 50, 53, 54, 10, 103, 114, 111, 117, 112, 32, 49, 10, 103, 114, 111, 117, 112, 32, 48, 10, 116, 105, 109, 101, 114, 32, 48, 32, 49, 10]
abbrev knV : Bytes := [115, 101, 116, 117, 112, 32, 49, 32, 49, 48, 50, 52, 32, 54, 52, 32, 50, 53, 54, 10, 103, 114, 111, 117, 112, 32, 48, 10, 103, 114, 111, 117, 112, 32, 48, 10, 116, 105, 109, 101, 114, 32, 48, 32, 50, 10]
abbrev knW : Bytes := [115, 101, 116, 117, 112, 32, 49, 32, 49, 48, 50, 52, 32, 54, 52, 32, 50, 53, 54, 10, 103, 114, 111, 117, 112, 32, 48, 10]
abbrev knX : Bytes := [115, 101, 116, 117, 112, 32, 49, 32, 49, 48, 50, 52, 32, 54, 52, 32, 50, 53, 54, 10, 103, 114, 111, 117, 112, 32, 48, 10, 103, 114, 111, 117, 112, 32, 48, 10, 116, 105, 109, 101, 114, 32, 49, 32, 49, 10]
def knL : ActM := { act0 with kind := 1, group := 1 }
def knM : ActM := { act0 with kind := 10, client := 1, group := 1, ask := { ask0 with kind := 2, key := [97] } }
def knN : ActM := { act0 with kind := 1, node := 5 }
def knO : ActM := { act0 with kind := 9, cmd := { cmd0 with kind := 8, group := 2 } }
theorem qhH : mayAct 5 5 knL = true ∧ lineM knL = knA := by decide +kernel
theorem qhZ : mayAct 5 5 knM = true ∧ lineM knM = knB := by decide +kernel
theorem knN_line : mayAct 5 5 knN = false := by decide +kernel
theorem knC_act : unlineP knC = some knO := (qbW _ _).2 (by decide +kernel)
theorem knD_act : unlineP knD = none := by decide +kernel
theorem knE_act : unlineP knE = none := by decide +kernel
theorem knF_act : unlineP knF = none := by decide +kernel
theorem qhV : (parseP knT).2 = (0, 0) ∧ (parseP knT).1.setup.groups.length = 2 ∧ (parseP knT).1.acts.length = 1 := by decide +kernel
theorem knU_read : (parseP knU).2 = (1, 4) ∧ (parseP knU).1.acts.length = 0 := by decide +kernel
theorem knV_read : (parseP knV).2 = (3, 4) ∧ (parseP knV).1.acts.length = 0 := by decide +kernel
theorem knW_read : (parseP knW).2 = (2, 4) ∧ (parseP knW).1.acts.length = 0 := by decide +kernel
theorem knX_read : (parseP knX).2 = (3, 4) ∧ (parseP knX).1.acts.length = 0 := by decide +kernel
end Go.Pln
/- . -/
namespace Go.Proofs.YtigmojilaadbhaaGreatDoor
open Go Go.Eng Go.Pln Go.Lib
attribute [local irreducible] AWp AL DAL AOp TAL
instance i_lnum : FnC Tryz.prog 20 := ⟨Tryz.f20, Tryz.func20, by kernel_rfl, by kernel_rfl⟩
instance i_lwrong : FnC Tryz.prog 37 := ⟨Tryz.f37, Tryz.func37, by kernel_rfl, by kernel_rfl⟩
instance i_lknown : FnC Tryz.prog 15 := ⟨Tryz.f15, Tryz.func15, by kernel_rfl, by kernel_rfl⟩
theorem qfH (e : Int) (h : Heap) : ACalls Tryz.prog 20 [.int .i64 e] h fun u h' => u = .int .i64 e ∧ h' = h := by
 refine ACalls.body Tryz.func20 rfl rfl ?_
 repeat (first | refine W.w ?_ | refine zz rfl (qac rfl ?_) | refine zz rfl (qad rfl ?_))
 exact ⟨_, ResV.tmp rfl, rfl, rfl⟩
theorem qdG (text : Bytes) (n : Int) (h : Heap) (t : Tabs h) (h8 : 8 ≤ h.next) (hl : text.length ≤ 100000000) (hr : (parseP text).2 = (n, 4) ∧ (parseP text).1.acts.length = 0) : ACalls Tryz.prog 37 [str text, .int .i64 n] h fun u h' => u = .bool true ∧ h' = h := by
 refine ACalls.wf fun wf => ACalls.reset ?_
 refine ACalls.body Tryz.func37 rfl rfl ?_
 obtain ⟨e1, e2⟩ := Prod.mk.inj hr.1
 have ea := hr.2
 repeat (first | refine W.w ?_ | refine zz rfl (qai rfl ?_) | refine zz rfl (qaa rfl ?_))
 refine zz rfl (qar (evs := [str text]) rfl rfl ((parse_c text h t h8 hl).wf_post.mono ?_))
 rintro _ H1 ⟨⟨B, vg, va, rfl, hg, hav, x1⟩, w1, n1⟩
 rw [e1, e2]
 have h1 := qfa hg.one hav.one (parseP text).1.setup
 repeat (first | (refine zz rfl ?_; first | refine qaH rfl ?_ | refine qav rfl rfl ?_ | refine qaw ?_))
 refine AL.eff rfl (qaE (vs := scrC vg va (parseP text).1.setup) rfl rfl rfl rfl h1 ?_)
 refine AL.heap (h := H1.alloc (scrB vg va (parseP text).1.setup)) rfl ?_
 obtain ⟨H2, hQ, g2, x2, _, _⟩ := aq w1 (scrB vg va (parseP text).1.setup)
 rw [hQ]
 obtain ⟨rows, r1, r2, _⟩ := (hav.ra.ext x2).ex
 have c4 := qfH 4 H2
 repeat (first | refine W.w ?_ | (refine zz rfl ?_; first | refine qac rfl ?_ | refine qae rfl ?_ | refine qad rfl ?_ | refine qaa rfl ?_ | refine qam (a := n) (b := n) rfl rfl rfl rfl ?_ | refine qab rfl rfl c4 ?_ | refine qao rfl ?_ | refine qaf rfl rfl g2 rfl ?_ | refine qaB r1 rfl ?_ | refine qam rfl rfl rfl (by omega) ?_ | refine qah (v := .bool _) rfl rfl ?_))
 exact ⟨_, ResV.tmp rfl, rfl, x1.trans x2, rfl, rfl⟩
theorem qhU (h : Heap) (t : Tabs h) (h8 : 8 ≤ h.next) : ACalls Tryz.prog 15 [] h fun u h' => u = .bool true ∧ h' = h := by
 refine ACalls.wf fun wf => ACalls.reset ?_
 refine ACalls.body Tryz.func15 rfl rfl ?_
 have c1 := qht actV0 knL h t ((ActO.nil 0 h knL rfl rfl rfl).r (Nat.zero_le _))
 rw [show lineV knL = .tuple #[str knA, .int .i64 0] by unfold lineV; rw [if_pos qhH.1, qhH.2]] at c1
 repeat (first | refine W.w ?_ | (refine zz rfl ?_; first | refine qaH rfl ?_ | refine qad rfl ?_ | refine qaa rfl ?_ | refine qag rfl ?_ | refine qax (out := actC actV0 knL) rfl rfl ?_ | refine qab rfl rfl c1 ?_ | refine qav rfl rfl ?_))
 refine zz rfl (qaN (bv [97]) rfl rfl rfl rfl (qcl _) ?_)
 refine AL.heap (h := h.alloc ⟨bv [97], 5, true⟩) rfl ?_
 have x1 := wf.ext ⟨bv [97], 5, true⟩
 have w1 := wf.alloc ⟨bv [97], 5, true⟩
 have g1 := Heap.alloc_new h ⟨bv [97], 5, true⟩
 have o1 : OS 0 (h.alloc ⟨bv [97], 5, true⟩) 5 (.slice (some ⟨h.next, 0, some 1⟩) 1 1) (bv [97]) := OS.new (Nat.zero_le _) rfl
 have n1 : 8 ≤ (h.alloc ⟨bv [97], 5, true⟩).next := by show 8 ≤ h.next + 1; omega
 generalize h.alloc ⟨bv [97], 5, true⟩ = H1 at x1 w1 g1 o1 n1 ⊢
 have c2 := qht ⟨⟨.slice (some ⟨h.next, 0, some 1⟩) 1 1, nilS, nilS, nilS⟩, cmdV0, nilS⟩ knM H1 (t.ext x1) ⟨⟨o1.rb, RB.nil _, RB.nil _, RB.nil _⟩, CmdR.nil _, RK.nil _⟩
 rw [show lineV knM = .tuple #[str knB, .int .i64 0] by unfold lineV; rw [if_pos qhZ.1, qhZ.2]] at c2
 have c3 := qht actV0 knN H1 (t.ext x1) ((ActO.nil 0 H1 knN rfl rfl rfl).r (Nat.zero_le _))
 rw [show lineV knN = .tuple #[str [], .int .i64 2] by unfold lineV; rw [if_neg (by rw [knN_line]; decide)]] at c3
 refine zz rfl (qgM rfl rfl g1 rfl ?_)
 repeat (first | refine W.w ?_ | (refine zz rfl ?_; first | refine qaH rfl ?_ | refine qad rfl ?_ | refine qag rfl ?_ | refine qax (out := askC ⟨.slice (some ⟨h.next, 0, some 1⟩) 1 1, nilS, nilS, nilS⟩ knM.ask) rfl rfl ?_ | refine qax (out := actC ⟨⟨.slice (some ⟨h.next, 0, some 1⟩) 1 1, nilS, nilS, nilS⟩, cmdV0, nilS⟩ knM) rfl rfl ?_ | refine qab rfl rfl c2 ?_ | refine qav rfl rfl ?_ | refine qax (out := actC actV0 knN) rfl rfl ?_ | refine qab rfl rfl c3 ?_))
 skip
 have c2 := (qcw knC H1 (t.ext x1) (by omega) (by decide)).wf_post
 rw [show unA knC = (knO, 0) by unfold unA; rw [knC_act]] at c2
 refine zz rfl (qar (evs := [str knC]) rfl rfl (c2.mono ?_))
 rintro _ K2 ⟨⟨q2, rfl, ⟨⟨B2, o2⟩, k2⟩, y2⟩, v2, m2⟩
 have e2 := qaF (o2.r k2)
 repeat (first | (refine zz rfl ?_; first | refine qaH rfl ?_ | refine qav rfl rfl ?_ | refine qaw ?_))
 refine AL.eff rfl (qaE (vs := actC q2 knO) rfl rfl rfl rfl e2 ?_)
 refine AL.heap (h := K2.alloc ⟨actC q2 knO, 40, true⟩) rfl ?_
 obtain ⟨H2, hQ, g2, z2, w2, nQ⟩ := aq v2 ⟨actC q2 knO, 40, true⟩
 rw [hQ]
 have n2 : 8 ≤ H2.next := by omega
 have x2 := x1.trans (y2.trans z2)
 repeat (first | refine W.w ?_ | refine zz rfl (qad rfl ?_))
 have c3 := (qcw knD H2 (t.ext x2) (by omega) (by decide)).wf_post
 rw [show unA knD = (act0, 4) by unfold unA; rw [knD_act]] at c3
 refine zz rfl (qar (evs := [str knD]) rfl rfl (c3.mono ?_))
 rintro _ K3 ⟨⟨q3, rfl, ⟨⟨B3, o3⟩, k3⟩, y3⟩, v3, m3⟩
 have e3 := qaF (o3.r k3)
 repeat (first | (refine zz rfl ?_; first | refine qaH rfl ?_ | refine qav rfl rfl ?_ | refine qaw ?_))
 refine AL.eff rfl (qaE (vs := actC q3 act0) rfl rfl rfl rfl e3 ?_)
 refine AL.heap (h := K3.alloc ⟨actC q3 act0, 40, true⟩) rfl ?_
 obtain ⟨H3, hQ, g3, z3, w3, nQ⟩ := aq v3 ⟨actC q3 act0, 40, true⟩
 rw [hQ]
 have n3 : 8 ≤ H3.next := by omega
 have x3 := x2.trans (y3.trans z3)
 repeat (first | refine W.w ?_ | refine zz rfl (qad rfl ?_))
 have c4 := (qcw knE H3 (t.ext x3) (by omega) (by decide)).wf_post
 rw [show unA knE = (act0, 4) by unfold unA; rw [knE_act]] at c4
 refine zz rfl (qar (evs := [str knE]) rfl rfl (c4.mono ?_))
 rintro _ K4 ⟨⟨q4, rfl, ⟨⟨B4, o4⟩, k4⟩, y4⟩, v4, m4⟩
 have e4 := qaF (o4.r k4)
 repeat (first | (refine zz rfl ?_; first | refine qaH rfl ?_ | refine qav rfl rfl ?_ | refine qaw ?_))
 refine AL.eff rfl (qaE (vs := actC q4 act0) rfl rfl rfl rfl e4 ?_)
 refine AL.heap (h := K4.alloc ⟨actC q4 act0, 40, true⟩) rfl ?_
 obtain ⟨H4, hQ, g4, z4, w4, nQ⟩ := aq v4 ⟨actC q4 act0, 40, true⟩
 rw [hQ]
 have n4 : 8 ≤ H4.next := by omega
 have x4 := x3.trans (y4.trans z4)
 repeat (first | refine W.w ?_ | refine zz rfl (qad rfl ?_))
 have c5 := (qcw knF H4 (t.ext x4) (by omega) (by decide)).wf_post
 rw [show unA knF = (act0, 4) by unfold unA; rw [knF_act]] at c5
 refine zz rfl (qar (evs := [str knF]) rfl rfl (c5.mono ?_))
 rintro _ K5 ⟨⟨q5, rfl, ⟨⟨B5, o5⟩, k5⟩, y5⟩, v5, m5⟩
 have e5 := qaF (o5.r k5)
 repeat (first | (refine zz rfl ?_; first | refine qaH rfl ?_ | refine qav rfl rfl ?_ | refine qaw ?_))
 refine AL.eff rfl (qaE (vs := actC q5 act0) rfl rfl rfl rfl e5 ?_)
 refine AL.heap (h := K5.alloc ⟨actC q5 act0, 40, true⟩) rfl ?_
 obtain ⟨H5, hQ, g5, z5, w5, nQ⟩ := aq v5 ⟨actC q5 act0, 40, true⟩
 rw [hQ]
 have n5 : 8 ≤ H5.next := by omega
 have x5 := x4.trans (y5.trans z5)
 have u2 := z5.c _ _ (y5.c _ _ (z4.c _ _ (y4.c _ _ (z3.c _ _ (y3.c _ _ g2)))))
 have s2 : ActR H5 q2 knO := ((o2.r k2).ext (z2.trans (y3.trans z3))).ext ((y4.trans z4).trans (y5.trans z5))
 repeat (first | refine W.w ?_ | (refine zz rfl ?_; first | refine qad rfl ?_ | refine qax (out := cmdC cmdV0 knO.cmd) rfl rfl ?_ | refine qax (out := actC actV0 knO) rfl rfl ?_ | refine qaw ?_))
 refine AL.eff rfl (qaE (vs := actC actV0 knO) rfl rfl rfl rfl rfl ?_)
 refine AL.heap (h := H5.alloc ⟨actC actV0 knO, 40, true⟩) rfl ?_
 obtain ⟨H6, hQ, g6, z6, w6, nQ⟩ := aq w5 ⟨actC actV0 knO, 40, true⟩
 rw [hQ]
 have n6 : 8 ≤ H6.next := by omega
 have x6 := x5.trans z6
 repeat (first | refine W.w ?_)
 refine zz rfl (qar (evs := [str knT]) rfl rfl ((parse_c knT H6 (t.ext x6) n6 (by decide)).wf_post.mono ?_))
 rintro _ K7 ⟨⟨B7, vg, va, rfl, hg, hav, y7⟩, v7, m7⟩
 obtain ⟨e1, e2⟩ := Prod.mk.inj qhV.1
 obtain ⟨_, lg, la⟩ := qhV
 rw [e1, e2]
 have h1 := qfa hg.one hav.one (parseP knT).1.setup
 repeat (first | (refine zz rfl ?_; first | refine qaH rfl ?_ | refine qav rfl rfl ?_ | refine qaw ?_))
 refine AL.eff rfl (qaE (vs := scrC vg va (parseP knT).1.setup) rfl rfl rfl rfl h1 ?_)
 refine AL.heap (h := K7.alloc (scrB vg va (parseP knT).1.setup)) rfl ?_
 obtain ⟨H7, hQ, g7, z7, _, nQ⟩ := aq v7 (scrB vg va (parseP knT).1.setup)
 rw [hQ]
 have n7 : 8 ≤ H7.next := by omega
 have x7 := x6.trans (y7.trans z7)
 obtain ⟨rows, r1, r2, _⟩ := (hav.ra.ext z7).ex
 obtain ⟨vs, q1, q2', _⟩ := (hg.rg.ext z7)
 have p2 := (z6.trans (y7.trans z7)).c _ _ u2
 have p6 := (y7.trans z7).c _ _ g6
 have d0 := qfH 0 H7
 have d2 := qfH 2 H7
 have d4 := qfH 4 H7
 have dS := qdg q2 actV0 knO knO H7 (s2.ext (z6.trans (y7.trans z7))) ⟨AskR.nil _, ⟨AskR.nil _, ⟨RB.nil _, RB.nil _⟩, RE.nil _, RB.nil _, RB.nil _⟩, RK.nil _⟩
 rw [show decide (knO = knO) = true by decide] at dS
 have dU := qdG knU 1 H7 (t.ext x7) n7 (by decide) knU_read
 have dV := qdG knV 3 H7 (t.ext x7) n7 (by decide) knV_read
 have dW := qdG knW 2 H7 (t.ext x7) n7 (by decide) knW_read
 have dX := qdG knX 3 H7 (t.ext x7) n7 (by decide) knX_read
 repeat (first | refine W.w ?_ | (refine zz rfl ?_; first | refine qac rfl ?_ | refine qae rfl ?_ | refine qai rfl ?_ | refine qad rfl ?_ | refine qaa rfl ?_ | refine qaO (a := knA) (b := knA) rfl rfl rfl ?_ | refine qaO (a := knB) (b := knB) rfl rfl rfl ?_ | refine qah (v := .bool _) rfl rfl ?_ | refine qab rfl rfl d0 ?_ | refine qab rfl rfl d2 ?_ | refine qab rfl rfl d4 ?_ | refine qam rfl rfl rfl (by omega) ?_ | refine qaj (sz := 33) rfl rfl p2 (Nat.le_refl _) ?_ | refine qaj (sz := 33) rfl rfl p6 (Nat.le_refl _) ?_ | refine qab rfl rfl dS ?_ | refine qao rfl ?_ | refine qaf rfl rfl g7 rfl ?_ | refine qaS q1 rfl ?_ | refine qaB r1 rfl ?_ | refine qab rfl rfl dU ?_ | refine qab rfl rfl dV ?_ | refine qab rfl rfl dW ?_ | refine qab rfl rfl dX ?_ | refine qas rfl rfl (by omega) ?_))
 exact ⟨_, ResV.tmp rfl, rfl, x7, rfl, rfl⟩
instance i_rword : FnC Tryz.prog 102 := ⟨Tryz.f102, Tryz.func102, by kernel_rfl, by kernel_rfl⟩
instance i_rdigit : FnC Tryz.prog 164 := ⟨Tryz.f164, Tryz.func164, by kernel_rfl, by kernel_rfl⟩
instance i_runword : FnC Tryz.prog 141 := ⟨Tryz.f141, Tryz.func141, by kernel_rfl, by kernel_rfl⟩
structure Gr (h : Heap) (e : TypeId) (vs : List Value) (H : Heap) (u : Value) : Prop where
 os : OS h.next H e u vs
 ext : Ext h H
 wf : WF H
 nx : h.next ≤ H.next
theorem Gr.nil {h : Heap} (wf : WF h) (e : TypeId) : Gr h e [] h (.slice none 0 0) := ⟨OS.nil _ _ _, Ext.refl h, wf, Nat.le_refl _⟩
theorem Gr.more {h H H' : Heap} {e : TypeId} {vs : List Value} {u : Value} (g : Gr h e vs H u) (hx : Ext H H') (wf : WF H') (hn : H.next ≤ H'.next) : Gr h e vs H' u := ⟨g.os.ext hx, g.ext.trans hx, wf, Nat.le_trans g.nx hn⟩
section
variable {ρ : Operand → Value} {h : Heap} {K : Value → Heap → Prop} {dst : Option Tmp} {ty : TypeId} {pos : String} {aft : Array Edge} {g : Option (Nat × Bool)} {t t' : TypeId} {x y : Operand}
theorem op_sub8 {a b : Nat} (h0 : b ≤ a) (h1 : a < 256) (hx : ρ x = .int .u8 (a : Nat)) (hy : ρ y = .int .u8 (b : Nat)) (kk : K (.int .u8 ((a - b : Nat) : Int)) h) : AOp Tryz.prog ⟨dst, .binOp .sub t x y t', ty, pos, aft, g⟩ ρ h K := by
 refine qaX hx hy (v := .int .u8 ((a - b : Nat) : Int)) ?_ kk
 show some (Value.int .u8 (IntKind.u8.wrap ((a : Int) - (b : Int)))) = _
 have e : IntKind.u8.wrap ((a : Int) - (b : Int)) = ((a : Int) - (b : Int)) % 256 := rfl
 rw [e]
 refine congrArg some (congrArg (Value.int .u8) ?_)
 omega
theorem op_add8 {a b : Nat} (h1 : a + b < 256) (hx : ρ x = .int .u8 (a : Nat)) (hy : ρ y = .int .u8 (b : Nat)) (kk : K (.int .u8 ((a + b : Nat) : Int)) h) : AOp Tryz.prog ⟨dst, .binOp .add t x y t', ty, pos, aft, g⟩ ρ h K := by
 refine qaX hx hy (v := .int .u8 ((a + b : Nat) : Int)) ?_ kk
 show some (Value.int .u8 (IntKind.u8.wrap ((a : Int) + (b : Int)))) = _
 have e : IntKind.u8.wrap ((a : Int) + (b : Int)) = ((a : Int) + (b : Int)) % 256 := rfl
 rw [e]
 refine congrArg some (congrArg (Value.int .u8) ?_)
 omega
theorem op_mul8 {a : Nat} (h1 : a * 16 < 256) (hx : ρ x = .int .u8 (a : Nat)) (hy : ρ y = .int .u8 16) (kk : K (.int .u8 ((a * 16 : Nat) : Int)) h) : AOp Tryz.prog ⟨dst, .binOp .mul t x y t', ty, pos, aft, g⟩ ρ h K := by
 refine qaX hx hy (v := .int .u8 ((a * 16 : Nat) : Int)) ?_ kk
 show some (Value.int .u8 (IntKind.u8.wrap ((a : Int) * 16))) = _
 have e : IntKind.u8.wrap ((a : Int) * 16) = ((a : Int) * 16) % 256 := rfl
 rw [e]
 refine congrArg some (congrArg (Value.int .u8) ?_)
 omega
end
theorem hex_ix : ∀ n : Fin 16, (bstr wordHex)[((n.val : Nat) : Int).toNat]? = some (hexC n.val) := by decide +kernel
theorem rword_c (v : Value) (l : Bytes) (h : Heap) (r : RB h v l) (hl : l.length ≤ 100000000) : ACalls Tryz.prog 102 [v] h fun u h' => u = str (wordM l) ∧ h' = h := by
 refine ACalls.wf fun wf => ACalls.reset ?_
 refine ACalls.body Tryz.func102 rfl rfl ?_
 obtain ⟨va, vc, hv⟩ := RS.slice r
 by_cases h0 : l.length = 0
 ·
  have hl0 : l = [] := List.length_eq_zero_iff.1 h0
  repeat (first | refine W.w ?_ | refine AWp.c8 rfl ?_ | (refine zz rfl ?_; first | refine qag rfl ?_ | refine qal (v := v) rfl ?_ | refine qaJ r rfl ?_ | refine qam rfl rfl rfl (by omega) ?_))
  refine ⟨_, ResV.tmp rfl, rfl, Ext.refl h, ?_, rfl⟩
  rw [hl0]
  rfl
 ·
  have hne : ¬ l = [] := fun e => h0 (by rw [e]; rfl)
  repeat (first | refine W.w ?_ | refine AWp.c9 rfl ?_ | (refine zz rfl ?_; first | refine qad rfl ?_ | refine qaZ rfl ?_ | refine qag rfl ?_ | refine qal (v := v) rfl ?_ | refine qaJ r rfl ?_ | refine qak rfl rfl rfl (by omega) ?_))
  refine AWp.loop (α := Nat × Heap × Value) (fun d => [(0, v), (3, d.2.2), (4, .int .i64 (d.1 : Nat))]) (fun d => d.2.1) (fun d => d.1 ≤ l.length ∧ Gr h 5 (bv ((l.take d.1).flatMap encB)) d.2.1 d.2.2) (fun d => l.length - d.1) (0, h, .slice none 0 0) ⟨Nat.zero_le _, Gr.nil wf _⟩
   (Weak.same (EW.cons rfl (EW.cons rfl (EW.cons rfl EW.nil)))) ?_
  rintro ⟨k, H, u⟩ ⟨hk, gg⟩
  replace hk : k ≤ l.length := hk
  replace gg : Gr h 5 (bv ((l.take k).flatMap encB)) H u := gg
  show AWp _ _ _ _ [(0, v), (3, u), (4, .int .i64 (k : Nat))] H
  have rH := r.ext gg.ext
  have ru := RS.slice gg.os.rs
  obtain ⟨ua, uc, hu⟩ := ru
  have hlen := qcS (l.take k)
  rw [List.length_take] at hlen
  by_cases hlt : k < l.length
  ·
   obtain ⟨ch, hc⟩ : ∃ ch, l[k]? = some ch := ⟨_, List.getElem?_eq_getElem hlt⟩
   have hft := qcU (f := encB) hc
   have lc := ch.toNat_lt
   by_cases hp1 : plainC ch = true
   ·
    have he := qco hp1
    obtain ⟨q1, q2, q3⟩ : 32 < ch.toNat ∧ ch.toNat < 127 ∧ ch.toNat ≠ 37 := of_decide_eq_true hp1
    repeat (first | refine W.w ?_ | refine AWp.c8 rfl ?_ | (refine zz rfl ?_; first | refine qac rfl ?_ | refine qae rfl ?_ | refine qal (v := v) rfl ?_ | refine qal (v := u) rfl ?_ | refine qaJ rH rfl ?_ | refine qam rfl rfl rfl (by omega) ?_ | refine qah (v := .bool _) rfl rfl ?_ | refine qaA rH rfl rfl (by omega) (bvAt hc rfl) fun _ => ?_ | refine qat (PT.of rH (bvAt hc rfl)) rfl rfl ?_ | refine qaN (bv [ch]) rfl rfl rfl rfl (qcl _) ?_))
    obtain ⟨H3, hQ, gr, xr, wr, _⟩ := aq gg.wf ⟨bv [ch], 5, true⟩
    rw [hQ]
    have rb : RB H3 (.slice (some ⟨H.next, 0, some 1⟩) 1 1) [ch] := RS.own gr rfl
    have n3 := wr.lt gr
    have g3 := gg.more xr wr (by omega)
    refine zz rfl (qa6 (z := .int .u8 0) (B := h.next) (e := 5) rfl wr g3.nx g3.os rfl rfl rb.src (qaz _) (qcC _) (by rw [qaz]; simp only [maxLen, List.length_cons, List.length_nil]; omega) (by rw [qaz]; simp only [List.length_cons, List.length_nil]; omega) ?_)
    intro u' H4 o4 k4 wf4 n4
    rw [← qbK] at o4
    have g4 : Gr h 5 _ H4 u' := ⟨o4, k4.ext g3.os wf (Nat.le_refl _) g3.ext, wf4, Nat.le_trans g3.nx n4⟩
    repeat (first | refine W.w ?_ | (refine zz rfl ?_; first | refine qac rfl ?_ | refine qad rfl ?_ | refine qaq (v := u') rfl ?_ | refine qas rfl rfl (by omega) ?_))
    exact ⟨(k + 1, H4, u'), ⟨hlt, by show Gr h _ (bv ((l.take (k + 1)).flatMap encB)) H4 u'; rw [hft, he]; exact g4⟩, by show l.length - (k + 1) < l.length - k; omega, Weak.same (EW.cons rfl (EW.cons rfl (EW.cons rfl EW.nil)))⟩
   ·
    have he := qdU hp1
    have hp2 : ¬ (32 < ch.toNat ∧ ch.toNat < 127 ∧ ch.toNat ≠ 37) := fun e => hp1 (decide_eq_true e)
    have hA := hex_ix ⟨ch.toNat / 16, by omega⟩
    have hB := hex_ix ⟨ch.toNat % 16, by omega⟩
    repeat' (first | refine W.w ?_ | refine AL.skip rfl rfl ?_ | refine AWp.c8 rfl ?_ | refine AWp.c9 rfl ?_ | (refine zz rfl ?_; first | refine qac rfl ?_ | refine qae rfl ?_ | refine qal (v := v) rfl ?_ | refine qaJ rH rfl ?_ | refine qam rfl rfl rfl (by omega) ?_ | refine qak rfl rfl rfl (by omega) ?_ | refine qah (v := .bool _) rfl rfl ?_ | refine qaA rH rfl rfl (by omega) (bvAt hc rfl) fun _ => ?_ | refine qat (PT.of rH (bvAt hc rfl)) rfl rfl ?_ | refine qaQ rfl rfl rfl (fun c => ?_) (fun c => ?_)))
    all_goals first | (exfalso; omega) | skip
    all_goals (
     refine AWp.tree (t := OT.seq [(0, .R), (1, .R), (2, .R), (3, .R), (4, .R), (5, .R), (6, .R), (7, .R), (8, .R), (9, .R), (10, .R), (11, .R), (12, .R), (13, .X), (14, .W), (15, .R)] .nil) mixed (by kernel_rfl) ?_
     repeat (first | refine TAL.r rfl rfl rfl (fun h' hx hn => qac rfl ⟨rfl, rfl⟩) ?_ | refine TAL.r rfl rfl rfl (fun h' hx hn => qal (v := v) rfl ⟨rfl, rfl⟩) ?_ | refine TAL.r rfl rfl rfl (fun h' hx hn => qal (v := u) rfl ⟨rfl, rfl⟩) ?_ | refine TAL.r rfl rfl rfl (fun h' hx hn => qaA (rH.ext hx) rfl rfl (by omega) (bvAt hc rfl) fun _ => ⟨rfl, rfl⟩) ?_ | refine TAL.r rfl rfl rfl (fun h' hx hn => qat (PT.of (rH.ext hx) (bvAt hc rfl)) rfl rfl ⟨rfl, rfl⟩) ?_ | refine TAL.r rfl rfl rfl (fun h' hx hn => op_shr4 rfl rfl ⟨rfl, rfl⟩) ?_ | refine TAL.r rfl rfl rfl (fun h' hx hn => qh5 rfl rfl ⟨rfl, rfl⟩) ?_ | refine TAL.r rfl rfl rfl (fun h' hx hn => qaM rfl rfl (by omega) hA ⟨rfl, rfl⟩) ?_ | refine TAL.r rfl rfl rfl (fun h' hx hn => qaM rfl rfl (by omega) hB ⟨rfl, rfl⟩) ?_)
     refine TAL.x rfl rfl rfl (qaN (bv [37, hexC (ch.toNat / 16), hexC (ch.toNat % 16)]) rfl rfl rfl rfl (qcl _) ⟨gg.wf.ext _, ?_⟩)
     obtain ⟨H3, hQ, gr, xr, wr, _⟩ := aq gg.wf ⟨bv [37, hexC (ch.toNat / 16), hexC (ch.toNat % 16)], 5, true⟩
     rw [hQ]
     have rb : RB H3 (.slice (some ⟨H.next, 0, some 1⟩) 3 3) [37, hexC (ch.toNat / 16), hexC (ch.toNat % 16)] := RS.own gr rfl
     have n3 := wr.lt gr
     have g3 := gg.more xr wr (by omega)
     refine TAL.w rfl rfl rfl (qa6 (z := .int .u8 0) (B := h.next) (e := 5) rfl wr g3.nx g3.os rfl rfl rb.src (qaz _) (qcC _) (by rw [qaz]; simp only [maxLen, List.length_cons, List.length_nil]; omega) (by rw [qaz]; simp only [List.length_cons, List.length_nil]; omega) ?_)
     intro u' H4 o4 k4 wf4 n4
     rw [← qbK] at o4
     have g4 : Gr h 5 _ H4 u' := ⟨o4, k4.ext g3.os wf (Nat.le_refl _) g3.ext, wf4, Nat.le_trans g3.nx n4⟩
     repeat (first | refine TAL.r rfl rfl rfl (fun h' hx hn => qaq (v := u') rfl ⟨rfl, rfl⟩) ?_)
     refine TAL.nil ?_
     repeat (first | refine W.w ?_ | (refine zz rfl ?_; first | refine qac rfl ?_ | refine qad rfl ?_ | refine qas rfl rfl (by omega) ?_))
     exact ⟨(k + 1, H4, u'), ⟨hlt, by show Gr h _ (bv ((l.take (k + 1)).flatMap encB)) H4 u'; rw [hft, he]; exact g4⟩, by show l.length - (k + 1) < l.length - k; omega, Weak.same (EW.cons rfl (EW.cons rfl (EW.cons rfl EW.nil)))⟩)
  ·
   obtain rfl : k = l.length := by omega
   rw [List.take_length] at gg
   have rb : RB H u (l.flatMap encB) := gg.os.rs
   repeat (first | refine AL.nil ?_ | refine AWp.seq ?_ | refine AWp.r9 ?_ | refine AWp.c9 rfl ?_ | refine AWp.ret ?_ | refine AWp.exit ?_ | (refine zz rfl ?_; first | refine qac rfl ?_ | refine qag rfl ?_ | refine qal (v := v) rfl ?_ | refine qal (v := u) rfl ?_ | refine qaJ rH rfl ?_ | refine qak rfl rfl rfl (by omega) ?_ | refine qap rb rfl ?_))
   have e : wordM l = l.flatMap encB := by unfold wordM; rw [if_neg hne]
   rw [e]
   exact ⟨_, ResV.tmp rfl, rfl, gg.ext, rfl, rfl⟩
theorem qcz (c : UInt8) (h : Heap) : ACalls Tryz.prog 164 [.int .u8 (c.toNat : Int)] h fun u h' => u = .int .u8 ((digR c : Nat) : Int) ∧ h' = h := by
 refine ACalls.body Tryz.func164 rfl rfl ?_
 have hc := c.toNat_lt
 unfold digR
 by_cases h1 : 48 ≤ c.toNat ∧ c.toNat ≤ 57
 ·
  rw [if_pos h1]
  repeat (first | refine W.w ?_ | refine AWp.c8 rfl ?_ | (refine zz rfl ?_; first | refine qac rfl ?_ | refine qae rfl ?_ | refine qad rfl ?_ | refine qam rfl rfl rfl (by omega) ?_ | refine qah (v := .bool _) rfl rfl ?_ | refine op_sub8 (a := c.toNat) (b := 48) h1.1 hc rfl rfl ?_))
  exact ⟨_, ResV.tmp rfl, rfl, rfl⟩
 ·
  rw [if_neg h1]
  by_cases h2 : 65 ≤ c.toNat ∧ c.toNat ≤ 70
  ·
   rw [if_pos h2]
   repeat' (first | refine W.w ?_ | refine AWp.c8 rfl ?_ | refine AWp.c9 rfl ?_ | (refine zz rfl ?_; first | refine qac rfl ?_ | refine qae rfl ?_ | refine qad rfl ?_ | refine qam rfl rfl rfl (by omega) ?_ | refine qak rfl rfl rfl (by omega) ?_ | refine qah (v := .bool _) rfl rfl ?_ | refine op_sub8 (a := c.toNat) (b := 65) h2.1 hc rfl rfl ?_ | refine op_add8 (a := c.toNat - 65) (b := 10) (by omega) rfl rfl ?_))
   all_goals first | (exfalso; omega) | exact ⟨_, ResV.tmp rfl, congrArg (Value.int .u8) (by omega), rfl⟩
  ·
   rw [if_neg h2]
   repeat' (first | refine W.w ?_ | refine AL.skip rfl rfl ?_ | refine AWp.c9 rfl ?_ | (refine zz rfl ?_; first | refine qac rfl ?_ | refine qae rfl ?_ | refine qad rfl ?_ | refine qak rfl rfl rfl (by omega) ?_ | refine qah (v := .bool _) rfl rfl ?_ | refine qaQ rfl rfl rfl (fun c => ?_) (fun c => ?_)))
   all_goals first | (exfalso; omega) | exact ⟨_, ResV.tmp rfl, rfl, rfl⟩
instance i_rwords : FnC Tryz.prog 55 := ⟨Tryz.f55, Tryz.func55, by kernel_rfl, by kernel_rfl⟩
instance i_rnames : FnC Tryz.prog 101 := ⟨Tryz.f101, Tryz.func101, by kernel_rfl, by kernel_rfl⟩
instance i_rName : FnC Tryz.prog 49 := ⟨Tryz.f49, Tryz.func49, by kernel_rfl, by kernel_rfl⟩
instance i_rB : FnC Tryz.prog 51 := ⟨Tryz.f51, Tryz.func51, by kernel_rfl, by kernel_rfl⟩
theorem qc6 {α : Type} {s : List α} {k : Nat} {c : α} (hc : s[k]? = some c) : s.drop k = c :: s.drop (k + 1) := by
  obtain ⟨hk, rfl⟩ := List.getElem?_eq_some_iff.1 hc
  exact List.drop_eq_getElem_cons hk
theorem digR_lt (c : UInt8) : digR c ≤ 16 := by
  unfold digR
  have := c.toNat_lt
  split
  · omega
  · split <;> omega
structure UrI (h : Heap) (s : Bytes) (i : Nat) (acc : Bytes) (H : Heap) (u : Value) : Prop where
  le : i ≤ s.length
  eq : unR s = (unR (s.drop i)).map (acc ++ ·)
  gr : Gr h 5 (bv acc) H u
  len : acc.length ≤ i
theorem map_app {o : Option Bytes} {acc : Bytes} {c : UInt8} : (o.map (c :: ·)).map (acc ++ ·) = o.map ((acc ++ [c]) ++ ·) := by
  cases o <;> simp
def UwOk (h : Heap) (s : Bytes) (u : Value) (h' : Heap) : Prop := ∃ v b, u = .tuple #[v, .bool (unwordR s).isSome] ∧ OS h.next h' 5 v (bv b) ∧ b.length ≤ s.length ∧ Ext h h' ∧ ((unwordR s).isSome = true → unwordR s = some b)
theorem runword_c (s : Bytes) (h : Heap) (hl : s.length ≤ 100000000) : ACalls Tryz.prog 141 [str s] h fun u h' => UwOk h s u h' := by
  refine ACalls.wf fun wf => ?_
  refine ACalls.body Tryz.func141 rfl rfl ?_
  by_cases h0 : s = [37]
  · repeat (first | refine W.w ?_ | refine AWp.c8 rfl ?_ | (refine zz rfl ?_; first | refine qai rfl ?_ | refine qaZ rfl ?_ | refine qaa rfl ?_ | refine qaO (a := s) (b := [37]) rfl rfl h0 ?_))
    have e : unwordR s = some [] := by unfold unwordR; rw [if_pos h0]
    exact ⟨_, ResV.tmp2 rfl, .slice none 0 0, [], by rw [e]; rfl, OS.nil _ _ _, Nat.zero_le _, Ext.refl h, fun _ => e⟩
  have hno : unR s = none → ∀ H u, Gr h 5 (bv []) H u → Ext h H → UwOk h s (.tuple #[.slice none 0 0, .bool false]) H := fun e H u g x => by
    have e2 : unwordR s = none := by unfold unwordR; rw [if_neg h0, e]
    exact ⟨.slice none 0 0, [], by rw [e2]; rfl, OS.nil _ _ _, Nat.zero_le _, x, fun q => by rw [e2] at q; cases q⟩
  repeat (first | refine W.w ?_ | refine AWp.c9 rfl ?_ | (refine zz rfl ?_; first | refine qai rfl ?_ | refine qad rfl ?_ | refine qaZ rfl ?_ | refine qaa rfl ?_ | refine qaK (a := s) (b := [37]) rfl rfl h0 ?_))
  refine AWp.loop (α := Nat × Bytes × Heap × Value) (fun d => [(0, str s), (4, d.2.2.2), (5, .int .i64 (d.1 : Nat))]) (fun d => d.2.2.1) (fun d => UrI h s d.1 d.2.1 d.2.2.1 d.2.2.2) (fun d => s.length - d.1) (0, [], h, .slice none 0 0) ⟨Nat.zero_le _, by simp, Gr.nil wf _, Nat.le_refl _⟩
    (Weak.same (EW.cons rfl (EW.cons rfl (EW.cons rfl EW.nil)))) ?_
  rintro ⟨k, acc, H, u⟩ ii
  replace ii : UrI h s k acc H u := ii
  show AWp _ _ _ _ [(0, str s), (4, u), (5, .int .i64 (k : Nat))] H
  obtain ⟨hk, heq, gg, hal⟩ := ii
  obtain ⟨ua, uc, hu⟩ := RS.slice gg.os.rs
  have nil' : Gr h 5 (bv []) H (.slice none 0 0) := ⟨OS.nil _ _ _, gg.ext, gg.wf, gg.nx⟩
  by_cases hlt : k < s.length
  · obtain ⟨c, hc⟩ : ∃ c, s[k]? = some c := ⟨_, List.getElem?_eq_getElem hlt⟩
    have hcb : (bstr s)[((k : Nat) : Int).toNat]? = some c := (qcG s k).trans hc
    have hd := qc6 hc
    by_cases h37 : c = 37
    · have hcn : c.toNat = 37 := by rw [h37]; rfl
      by_cases h2 : k + 2 < s.length
      · obtain ⟨a, ha⟩ : ∃ a, s[k + 1]? = some a := ⟨_, List.getElem?_eq_getElem (by omega)⟩
        obtain ⟨b, hb⟩ : ∃ b, s[k + 2]? = some b := ⟨_, List.getElem?_eq_getElem h2⟩
        have hab : (bstr s)[(((k : Nat) : Int) + 1).toNat]? = some a := (qcG s (k + 1)).trans ha
        have hbb : (bstr s)[(((k : Nat) : Int) + 2).toNat]? = some b := (qcG s (k + 2)).trans hb
        have hd2 : s.drop k = 37 :: a :: b :: s.drop (k + 3) := by rw [hd, qc6 ha, qc6 hb, h37]
        have la := digR_lt a
        have lb := digR_lt b
        by_cases hdg : digR a < 16 ∧ digR b < 16
        · have hu2 : unR s = (unR (s.drop (k + 3))).map ((acc ++ [UInt8.ofNat (digR a * 16 + digR b)]) ++ ·) := by rw [heq, hd2, unR_pct hdg, map_app]
          have hof : (UInt8.ofNat (digR a * 16 + digR b)).toNat = digR a * 16 + digR b := by
            rw [UInt8.toNat_ofNat']
            exact Nat.mod_eq_of_lt (by omega)
          repeat (first | refine W.w ?_ | refine AWp.c8 rfl ?_ | refine AWp.c9 rfl ?_ | (refine zz rfl ?_; first | refine qac rfl ?_ | refine qae rfl ?_ | refine qai rfl ?_ | refine qaI rfl ?_ | refine qam rfl rfl rfl (by omega) ?_ | refine qak rfl rfl rfl (by omega) ?_ | refine qaM rfl rfl (by omega) hcb ?_ | refine qaM rfl rfl (by omega) hab ?_ | refine qaM rfl rfl (by omega) hbb ?_ | refine qab rfl rfl (qcz a H) ?_ | refine qab rfl rfl (qcz b H) ?_ | refine qah (v := .bool _) rfl rfl ?_ | refine qas rfl rfl (by omega) ?_))
          refine AWp.tree (t := OT.seq [(0, .R), (1, .R), (2, .R), (3, .R), (4, .R), (5, .R), (6, .R), (7, .R), (8, .R), (9, .R), (10, .R), (11, .R), (12, .R), (13, .X), (14, .W), (15, .R)] .nil) mixed (by kernel_rfl) ?_
          repeat (first | refine TAL.r rfl rfl rfl (fun h' hx hn => qac rfl ⟨rfl, rfl⟩) ?_ | refine TAL.r rfl rfl rfl (fun h' hx hn => qai rfl ⟨rfl, rfl⟩) ?_ | refine TAL.r rfl rfl rfl (fun h' hx hn => qal (v := u) rfl ⟨rfl, rfl⟩) ?_ | refine TAL.r rfl rfl rfl (fun h' hx hn => qaM rfl rfl (by omega) hab ⟨rfl, rfl⟩) ?_ | refine TAL.r rfl rfl rfl (fun h' hx hn => qaM rfl rfl (by omega) hbb ⟨rfl, rfl⟩) ?_ | refine TAL.r rfl rfl rfl (fun h' hx hn => qab rfl rfl (qcz a h') ⟨rfl, rfl⟩) ?_ | refine TAL.r rfl rfl rfl (fun h' hx hn => qab rfl rfl (qcz b h') ⟨rfl, rfl⟩) ?_ | refine TAL.r rfl rfl rfl (fun h' hx hn => op_mul8 (a := digR a) (by omega) rfl rfl ⟨rfl, rfl⟩) ?_ | refine TAL.r rfl rfl rfl (fun h' hx hn => op_add8 (a := digR a * 16) (b := digR b) (by omega) rfl rfl ⟨rfl, rfl⟩) ?_ | refine TAL.r rfl rfl rfl (fun h' hx hn => qas rfl rfl (by omega) ⟨rfl, rfl⟩) ?_)
          refine TAL.x rfl rfl rfl (qaN (bv [UInt8.ofNat (digR a * 16 + digR b)]) rfl rfl (by rw [show bv [UInt8.ofNat (digR a * 16 + digR b)] = [.int .u8 ((digR a * 16 + digR b : Nat) : Int)] by show [Value.int .u8 ((UInt8.ofNat (digR a * 16 + digR b)).toNat : Int)] = _; rw [hof]]; rfl) rfl (qcl _) ⟨gg.wf.ext _, ?_⟩)
          generalize UInt8.ofNat (digR a * 16 + digR b) = X at hu2 ⊢
          obtain ⟨H3, hQ, gr, xr, wr, _⟩ := aq gg.wf ⟨bv [X], 5, true⟩
          rw [hQ]
          have rb : RB H3 (.slice (some ⟨H.next, 0, some 1⟩) 1 1) [X] := RS.own gr rfl
          have n3 := wr.lt gr
          have g3 := gg.more xr wr (by omega)
          refine TAL.w rfl rfl rfl (qa6 (z := .int .u8 0) (B := h.next) (e := 5) rfl wr g3.nx g3.os rfl rfl rb.src (qaz _) (qcC _) (by rw [qaz]; simp only [maxLen, List.length_cons, List.length_nil]; omega) (by rw [qaz]; simp only [List.length_cons, List.length_nil]; omega) ?_)
          intro u' H4 o4 k4 wf4 n4
          rw [← qbK] at o4
          have g4 : Gr h 5 _ H4 u' := ⟨o4, k4.ext g3.os wf (Nat.le_refl _) g3.ext, wf4, Nat.le_trans g3.nx n4⟩
          repeat (first | refine TAL.r rfl rfl rfl (fun h' hx hn => qaq (v := u') rfl ⟨rfl, rfl⟩) ?_)
          refine TAL.nil ?_
          repeat (first | refine W.w ?_ | (refine zz rfl ?_; first | refine qac rfl ?_ | refine qad rfl ?_ | refine qas rfl rfl (by omega) ?_))
          exact ⟨(k + 3, acc ++ [X], H4, u'), ⟨by show k + 3 ≤ s.length; omega, hu2, g4, by show (acc ++ [X]).length ≤ k + 3; rw [List.length_append, List.length_cons, List.length_nil]; omega⟩, by show s.length - (k + 3) < s.length - k; omega, Weak.same (EW.cons rfl (EW.cons rfl (EW.cons (congrArg (Value.int .i64) (by omega)) EW.nil)))⟩
        · have hu2 : unR s = none := by
            rw [heq, hd2]
            conv => lhs; rw [unR]
            rw [if_pos rfl, if_neg hdg]
            rfl
          repeat' (first | refine W.w ?_ | refine AL.skip rfl rfl ?_ | refine AWp.c8 rfl ?_ | refine AWp.c9 rfl ?_ | (refine zz rfl ?_; first | refine qac rfl ?_ | refine qae rfl ?_ | refine qai rfl ?_ | refine qaZ rfl ?_ | refine qaa rfl ?_ | refine qaI rfl ?_ | refine qam rfl rfl rfl (by omega) ?_ | refine qak rfl rfl rfl (by omega) ?_ | refine qaM rfl rfl (by omega) hcb ?_ | refine qaM rfl rfl (by omega) hab ?_ | refine qaM rfl rfl (by omega) hbb ?_ | refine qab rfl rfl (qcz a H) ?_ | refine qab rfl rfl (qcz b H) ?_ | refine qah (v := .bool _) rfl rfl ?_ | refine qas rfl rfl (by omega) ?_ | refine qaQ rfl rfl rfl (fun c => ?_) (fun c => ?_)))
          all_goals first | (exfalso; omega) | exact ⟨_, ResV.tmp2 rfl, hno hu2 H _ nil' gg.ext⟩
      · have hu2 : unR s = none := by
          rw [heq, hd, h37]
          cases hr : s.drop (k + 1) with
          | nil => conv => lhs; rw [unR]
                   rw [if_pos rfl]; rfl
          | cons x r =>
            cases r with
            | nil => conv => lhs; rw [unR]
                     rw [if_pos rfl]; rfl
            | cons y r =>
              exfalso
              have := congrArg List.length hr
              simp only [List.length_drop, List.length_cons] at this
              omega
        repeat (first | refine W.w ?_ | refine AL.skip rfl rfl ?_ | refine AWp.c8 rfl ?_ | refine AWp.c9 rfl ?_ | (refine zz rfl ?_; first | refine qac rfl ?_ | refine qae rfl ?_ | refine qai rfl ?_ | refine qaZ rfl ?_ | refine qaa rfl ?_ | refine qaI rfl ?_ | refine qam rfl rfl rfl (by omega) ?_ | refine qak rfl rfl rfl (by omega) ?_ | refine qaM rfl rfl (by omega) hcb ?_ | refine qah (v := .bool _) rfl rfl ?_ | refine qas rfl rfl (by omega) ?_))
        exact ⟨_, ResV.tmp2 rfl, hno hu2 H _ nil' gg.ext⟩
    · have hcn : c.toNat ≠ 37 := fun e => h37 (UInt8.toNat_inj.1 (by rw [e]; rfl))
      have hu2 : unR s = (unR (s.drop (k + 1))).map ((acc ++ [c]) ++ ·) := by rw [heq, hd, qgg h37, map_app]
      repeat (first | refine W.w ?_ | refine AWp.c8 rfl ?_ | (refine zz rfl ?_; first | refine qac rfl ?_ | refine qai rfl ?_ | refine qaI rfl ?_ | refine qam rfl rfl rfl (by omega) ?_ | refine qaM rfl rfl (by omega) hcb ?_ | refine qal (v := u) rfl ?_ | refine qaN (bv [c]) rfl rfl rfl rfl (qcl _) ?_))
      obtain ⟨H3, hQ, gr, xr, wr, _⟩ := aq gg.wf ⟨bv [c], 5, true⟩
      rw [hQ]
      have rb : RB H3 (.slice (some ⟨H.next, 0, some 1⟩) 1 1) [c] := RS.own gr rfl
      have n3 := wr.lt gr
      have g3 := gg.more xr wr (by omega)
      refine zz rfl (qa6 (z := .int .u8 0) (B := h.next) (e := 5) rfl wr g3.nx g3.os rfl rfl rb.src (qaz _) (qcC _) (by rw [qaz]; simp only [maxLen, List.length_cons, List.length_nil]; omega) (by rw [qaz]; simp only [List.length_cons, List.length_nil]; omega) ?_)
      intro u' H4 o4 k4 wf4 n4
      rw [← qbK] at o4
      have g4 : Gr h 5 _ H4 u' := ⟨o4, k4.ext g3.os wf (Nat.le_refl _) g3.ext, wf4, Nat.le_trans g3.nx n4⟩
      repeat (first | refine AL.nil ?_ | refine AWp.r9 ?_ | refine AWp.exit ?_ | (refine zz rfl ?_; first | refine qac rfl ?_ | refine qad rfl ?_ | refine qaq (v := u') rfl ?_ | refine qas rfl rfl (by omega) ?_))
      exact ⟨(k + 1, acc ++ [c], H4, u'), ⟨hlt, hu2, g4, by show (acc ++ [c]).length ≤ k + 1; rw [List.length_append, List.length_cons, List.length_nil]; omega⟩, by show s.length - (k + 1) < s.length - k; omega, Weak.same (EW.cons rfl (EW.cons rfl (EW.cons rfl EW.nil)))⟩
  · obtain rfl : k = s.length := by omega
    have hu2 : unR s = some acc := by
      rw [heq, List.drop_length, unR]
      simp
    have rb : RB H u acc := gg.os.rs
    have cw := rword_c u acc H rb (by omega)
    have e2 : unwordR s = if acc ≠ [] ∧ wordM acc = s then some acc else none := by unfold unwordR; rw [if_neg h0, hu2]
    by_cases ha : acc = []
    · have e3 : unwordR s = none := by rw [e2, if_neg fun e => e.1 ha]
      have hl0 : acc.length = 0 := by rw [ha]; rfl
      repeat (first | refine AL.nil ?_ | refine AL.skip rfl rfl ?_ | refine AWp.seq ?_ | refine AWp.r9 ?_ | refine AWp.c9 rfl ?_ | refine AWp.ret ?_ | refine AWp.exit ?_ | (refine zz rfl ?_; first | refine qac rfl ?_ | refine qae rfl ?_ | refine qai rfl ?_ | refine qaa rfl ?_ | refine qaI rfl ?_ | refine qak rfl rfl rfl (by omega) ?_ | refine qal (v := u) rfl ?_ | refine qaq (v := u) rfl ?_ | refine qaJ rb rfl ?_ | refine qah (v := .bool _) rfl rfl ?_))
      exact ⟨_, ResV.tmp2 rfl, u, acc, by rw [e3]; rfl, gg.os, hal, gg.ext, fun q => by rw [e3] at q; cases q⟩
    · have hl0 : acc.length ≠ 0 := fun e => ha (List.length_eq_zero_iff.1 e)
      by_cases hw : wordM acc = s
      · have e3 : unwordR s = some acc := by rw [e2, if_pos ⟨ha, hw⟩]
        repeat (first | refine AL.nil ?_ | refine AWp.seq ?_ | refine AWp.r9 ?_ | refine AWp.c9 rfl ?_ | refine AWp.ret ?_ | refine AWp.exit ?_ | (refine zz rfl ?_; first | refine qac rfl ?_ | refine qae rfl ?_ | refine qai rfl ?_ | refine qaa rfl ?_ | refine qaI rfl ?_ | refine qam rfl rfl rfl (by omega) ?_ | refine qak rfl rfl rfl (by omega) ?_ | refine qal (v := u) rfl ?_ | refine qaq (v := u) rfl ?_ | refine qaJ rb rfl ?_ | refine qab rfl rfl cw ?_ | refine qaO rfl rfl hw ?_ | refine qah (v := .bool _) rfl rfl ?_))
        exact ⟨_, ResV.tmp2 rfl, u, acc, by rw [e3]; rfl, gg.os, hal, gg.ext, fun _ => e3⟩
      · have e3 : unwordR s = none := by rw [e2, if_neg fun e => hw e.2]
        repeat (first | refine AL.nil ?_ | refine AWp.seq ?_ | refine AWp.r9 ?_ | refine AWp.c9 rfl ?_ | refine AWp.ret ?_ | refine AWp.exit ?_ | (refine zz rfl ?_; first | refine qac rfl ?_ | refine qae rfl ?_ | refine qai rfl ?_ | refine qaa rfl ?_ | refine qaI rfl ?_ | refine qam rfl rfl rfl (by omega) ?_ | refine qak rfl rfl rfl (by omega) ?_ | refine qal (v := u) rfl ?_ | refine qaq (v := u) rfl ?_ | refine qaJ rb rfl ?_ | refine qab rfl rfl cw ?_ | refine qaK rfl rfl hw ?_ | refine qah (v := .bool _) rfl rfl ?_))
        exact ⟨_, ResV.tmp2 rfl, u, acc, by rw [e3]; rfl, gg.os, hal, gg.ext, fun q => by rw [e3] at q; cases q⟩
instance i_TyD_Sl_Sl_uint8 : TyD Tryz.prog 135 (.slice 27) := ⟨Tryz.underlying135⟩
abbrev noB (s : Bytes) : Prop := ∀ c ∈ s, c ≠ 32
theorem qhy : ∀ {w : Bytes}, noB w → wordsS w = [w]
 | [], _ => rfl
 | c :: w, h => by rw [wordsS, if_neg (h c List.mem_cons_self), qhy fun d hd => h d (List.mem_cons_of_mem _ hd)]
theorem qfF : ∀ {w : Bytes} (r : Bytes), noB w → wordsS (w ++ 32 :: r) = w :: wordsS r
 | [], r, _ => by
  show wordsS (32 :: r) = _
  rw [wordsS, if_pos rfl]
 | c :: w, r, h => by
  show wordsS (c :: (w ++ 32 :: r)) = _
  rw [wordsS, if_neg (h c List.mem_cons_self), qfF r fun d hd => h d (List.mem_cons_of_mem _ hd)]
structure WdI (h : Heap) (s : Bytes) (i at_ : Nat) (ws : List Bytes) (H : Heap) (u : Value) : Prop where
 gr : Gr h 9 (ws.map str) H u
 len : ws.length ≤ i
 alt : (i ≤ s.length ∧ at_ ≤ i ∧ wordsS s = ws ++ wordsS (s.drop at_) ∧ noB ((s.take i).drop at_)) ∨ (i = s.length + 1 ∧ wordsS s = ws)
theorem qhP (w : Bytes) : ∀ v ∈ [str w], oneB v = true := by
 intro v hv
 rw [List.mem_singleton.1 hv]
 rfl
theorem rwords_c (s : Bytes) (h : Heap) (hl : s.length ≤ 1000000000) : ACalls Tryz.prog 55 [str s] h fun u h' => Gr h 9 ((wordsS s).map str) h' u := by
 refine ACalls.wf fun wf => ?_
 refine ACalls.body Tryz.func55 rfl rfl ?_
 repeat (first | refine W.w ?_ | refine zz rfl (qad rfl ?_) | refine zz rfl (qaZ rfl ?_))
 refine AWp.loop (α := Nat × Nat × List Bytes × Heap × Value) (fun d => [(0, str s), (3, d.2.2.2.2), (4, .int .i64 (d.2.1 : Nat)), (5, .int .i64 (d.1 : Nat))]) (fun d => d.2.2.2.1) (fun d => WdI h s d.1 d.2.1 d.2.2.1 d.2.2.2.1 d.2.2.2.2) (fun d => s.length + 1 - d.1) (0, 0, [], h, .slice none 0 0)
  ⟨Gr.nil wf _, Nat.le_refl _, .inl ⟨Nat.zero_le _, Nat.le_refl _, rfl, fun c hc => by simp at hc⟩⟩ (Weak.same (EW.cons rfl (EW.cons rfl (EW.cons rfl (EW.cons rfl EW.nil))))) ?_
 rintro ⟨i, at_, ws, H, u⟩ ii
 replace ii : WdI h s i at_ ws H u := ii
 show AWp _ _ _ _ [(0, str s), (3, u), (4, .int .i64 (at_ : Nat)), (5, .int .i64 (i : Nat))] H
 obtain ⟨gg, hw, halt⟩ := ii
 obtain ⟨ua, uc, hu⟩ := RS.slice gg.os.rs
 rcases halt with ⟨hi, hat, heq, hnb⟩ | ⟨hi, heq⟩
 ·
  have hwl : (((s.take ((i : Nat) : Int).toNat).drop ((at_ : Nat) : Int).toNat)) = (s.take i).drop at_ := rfl
  by_cases hlt : i < s.length
  ·
   obtain ⟨c, hc⟩ : ∃ c, s[i]? = some c := ⟨_, List.getElem?_eq_getElem hlt⟩
   have hcb : (bstr s)[((i : Nat) : Int).toNat]? = some c := (qcG s i).trans hc
   by_cases h32 : c = 32
   ·
    have hcn : c.toNat = 32 := by rw [h32]; rfl
    have hd : s.drop at_ = (s.take i).drop at_ ++ 32 :: s.drop (i + 1) := by
     conv => lhs; rw [← List.take_append_drop i s]
     rw [List.drop_append_of_le_length (by rw [List.length_take]; omega), qc6 hc, h32]
    have heq2 : wordsS s = (ws ++ [(s.take i).drop at_]) ++ wordsS (s.drop (i + 1)) := by rw [heq, hd, qfF _ hnb]; simp
    repeat (first | refine W.w ?_ | refine AWp.c8 rfl ?_ | (refine zz rfl ?_; first | refine qac rfl ?_ | refine qae rfl ?_ | refine qai rfl ?_ | refine qaI rfl ?_ | refine qam rfl rfl rfl (by omega) ?_ | refine qak rfl rfl rfl (by omega) ?_ | refine qaM rfl rfl (by omega) hcb ?_ | refine qah (v := .bool _) rfl rfl ?_ | refine qal (v := u) rfl ?_ | refine qbo (s := s) (l := ((at_ : Nat) : Int)) (m := ((i : Nat) : Int)) rfl rfl rfl (by omega) (by omega) (by omega) ?_ | refine qaN [str ((s.take i).drop at_)] rfl rfl rfl rfl (qhP _) ?_))
    generalize (s.take i).drop at_ = w at hnb hwl heq2 ⊢
    obtain ⟨H3, hQ, gr, xr, wr, _⟩ := aq gg.wf ⟨[str w], 9, true⟩
    rw [hQ]
    have rb : RS H3 (.slice (some ⟨H.next, 0, some 1⟩) 1 1) [str w] := RS.own gr rfl
    have n3 := wr.lt gr
    have g3 := gg.more xr wr (by omega)
    refine zz rfl (qa6 (by_ := 16) (z := .string ⟨#[]⟩) (B := h.next) (e := 9) rfl wr g3.nx g3.os rfl rfl rb.src rfl rfl (by rw [List.length_map]; simp only [maxLen, List.length_cons, List.length_nil]; omega) (by rw [List.length_map]; simp only [List.length_cons, List.length_nil]; omega) ?_)
    intro u' H4 o4 k4 wf4 n4
    have g4 : Gr h 9 _ H4 u' := ⟨o4, k4.ext g3.os wf (Nat.le_refl _) g3.ext, wf4, Nat.le_trans g3.nx n4⟩
    repeat (first | refine W.w ?_ | (refine zz rfl ?_; first | refine qac rfl ?_ | refine qad rfl ?_ | refine qaq (v := u') rfl ?_ | refine qas rfl rfl (by omega) ?_))
    exact ⟨(i + 1, i + 1, ws ++ [w], H4, u'), ⟨by show Gr h _ ((ws ++ [w]).map str) H4 u'; rw [List.map_append]; exact g4, by show (ws ++ [w]).length ≤ i + 1; rw [List.length_append, List.length_cons, List.length_nil]; omega, .inl ⟨hlt, Nat.le_refl _, heq2, fun c hc => by simp at hc⟩⟩, by show s.length + 1 - (i + 1) < s.length + 1 - i; omega, Weak.same (EW.cons rfl (EW.cons rfl (EW.cons rfl (EW.cons rfl EW.nil))))⟩
   ·
    have hcn : c.toNat ≠ 32 := fun e => h32 (UInt8.toNat_inj.1 (by rw [e]; rfl))
    repeat (first | refine W.w ?_ | refine AWp.c8 rfl ?_ | refine AWp.c9 rfl ?_ | (refine zz rfl ?_; first | refine qac rfl ?_ | refine qae rfl ?_ | refine qai rfl ?_ | refine qad rfl ?_ | refine qaI rfl ?_ | refine qam rfl rfl rfl (by omega) ?_ | refine qak rfl rfl rfl (by omega) ?_ | refine qaM rfl rfl (by omega) hcb ?_ | refine qah (v := .bool _) rfl rfl ?_ | refine qas rfl rfl (by omega) ?_))
    refine ⟨(i + 1, at_, ws, H, u), ⟨gg, by show ws.length ≤ i + 1; omega, .inl ⟨hlt, by show at_ ≤ i + 1; omega, heq, ?_⟩⟩, by show s.length + 1 - (i + 1) < s.length + 1 - i; omega, Weak.same (EW.cons rfl (EW.cons rfl (EW.cons rfl (EW.cons rfl EW.nil))))⟩
    show noB ((s.take (i + 1)).drop at_)
    rw [List.take_add_one, hc, List.drop_append_of_le_length (by rw [List.length_take]; omega)]
    intro d hd
    rcases List.mem_append.1 hd with hd | hd
    ·
     exact hnb d hd
    ·
     simp at hd; rw [hd]; exact h32
  ·
   obtain rfl : i = s.length := by omega
   have heq2 : wordsS s = ws ++ [(s.take s.length).drop at_] := by rw [heq, ← qhy hnb, List.take_length]
   repeat (first | refine W.w ?_ | refine AL.skip rfl rfl ?_ | refine AWp.c8 rfl ?_ | (refine zz rfl ?_; first | refine qac rfl ?_ | refine qae rfl ?_ | refine qai rfl ?_ | refine qaI rfl ?_ | refine qam rfl rfl rfl (by omega) ?_ | refine qah (v := .bool _) rfl rfl ?_ | refine qal (v := u) rfl ?_ | refine qbo (s := s) (l := ((at_ : Nat) : Int)) (m := ((s.length : Nat) : Int)) rfl rfl rfl (by omega) (by omega) (by omega) ?_ | refine qaN [str ((s.take s.length).drop at_)] rfl rfl rfl rfl (qhP _) ?_))
   generalize (s.take s.length).drop at_ = w at hnb hwl heq2 ⊢
   obtain ⟨H3, hQ, gr, xr, wr, _⟩ := aq gg.wf ⟨[str w], 9, true⟩
   rw [hQ]
   have rb : RS H3 (.slice (some ⟨H.next, 0, some 1⟩) 1 1) [str w] := RS.own gr rfl
   have n3 := wr.lt gr
   have g3 := gg.more xr wr (by omega)
   refine zz rfl (qa6 (by_ := 16) (z := .string ⟨#[]⟩) (B := h.next) (e := 9) rfl wr g3.nx g3.os rfl rfl rb.src rfl rfl (by rw [List.length_map]; simp only [maxLen, List.length_cons, List.length_nil]; omega) (by rw [List.length_map]; simp only [List.length_cons, List.length_nil]; omega) ?_)
   intro u' H4 o4 k4 wf4 n4
   have g4 : Gr h 9 _ H4 u' := ⟨o4, k4.ext g3.os wf (Nat.le_refl _) g3.ext, wf4, Nat.le_trans g3.nx n4⟩
   repeat (first | refine W.w ?_ | (refine zz rfl ?_; first | refine qac rfl ?_ | refine qad rfl ?_ | refine qaq (v := u') rfl ?_ | refine qas rfl rfl (by omega) ?_))
   exact ⟨(s.length + 1, s.length + 1, ws ++ [w], H4, u'), ⟨by show Gr h _ ((ws ++ [w]).map str) H4 u'; rw [List.map_append]; exact g4, by show (ws ++ [w]).length ≤ s.length + 1; rw [List.length_append, List.length_cons, List.length_nil]; omega, .inr ⟨rfl, heq2⟩⟩, by show s.length + 1 - (s.length + 1) < s.length + 1 - s.length; omega, Weak.same (EW.cons rfl (EW.cons rfl (EW.cons rfl (EW.cons rfl EW.nil))))⟩
 ·
  repeat (first | refine AL.nil ?_ | refine AWp.seq ?_ | refine AWp.r9 ?_ | refine AWp.c9 rfl ?_ | refine AWp.ret ?_ | refine AWp.exit ?_ | (refine zz rfl ?_; first | refine qac rfl ?_ | refine qai rfl ?_ | refine qaI rfl ?_ | refine qak rfl rfl rfl (by omega) ?_ | refine qal (v := u) rfl ?_ | refine qaq (v := u) rfl ?_))
  refine ⟨_, ResV.tmp rfl, ?_⟩
  rw [heq]
  exact gg
def namesL : List Bytes := [[], [116, 105, 109, 101, 114], [98, 101, 97, 116], [104, 101, 97, 114], [100, 114, 111, 112], [100, 111, 117, 98, 108, 101], [97, 112, 112, 108, 121], [119, 111, 114, 107], [100, 114, 105, 118, 101], [112, 108, 97, 110], [97, 115, 107], [97, 103, 97, 105, 110], [99, 114, 97, 115, 104], [115, 116, 97, 114, 116]]
theorem names_at : ∀ i : Fin 13, namesL[i.val + 1]? = some (kword (i.val + 1)) := by decide +kernel
theorem strs_ones (ws : List Bytes) : ∀ v ∈ ws.map str, oneB v = true := by
 intro v hv
 obtain ⟨w, _, rfl⟩ := List.mem_map.1 hv
 rfl
theorem rnames_c (h : Heap) : ACalls Tryz.prog 101 [] h fun u h' => u = .slice (some ⟨h.next, 0, some 1⟩) 14 14 ∧ h' = h.alloc ⟨namesL.map str, 9, true⟩ := by
 refine ACalls.body Tryz.func101 rfl rfl ?_
 repeat (first | refine W.w ?_ | refine zz rfl (qaZ rfl ?_) | refine zz rfl (qaN (namesL.map str) rfl rfl rfl rfl (strs_ones _) ?_))
 exact ⟨_, ResV.tmp rfl, rfl, rfl⟩
theorem rName_c (k : Int) (hk : 1 ≤ k ∧ k ≤ 13) (h : Heap) : ACalls Tryz.prog 49 [.int .i64 k] h fun u h' => u = str (kword k) ∧ h' = h := by
 refine ACalls.wf fun wf => ACalls.reset ?_
 refine ACalls.body Tryz.func49 rfl rfl ?_
 repeat (first | refine W.w ?_ | refine zz rfl (qag rfl ?_))
 refine zz rfl (qar rfl rfl ((rnames_c h).mono ?_))
 rintro _ H1 ⟨rfl, hH1⟩
 cases hH1.symm
 obtain ⟨H1, hQ, g1, x1, _, _⟩ := aq wf ⟨namesL.map str, 9, true⟩
 rw [hQ]
 have r1 : RS H1 (.slice (some ⟨h.next, 0, some 1⟩) 14 14) (namesL.map str) := RS.own g1 rfl
 have hn : (namesL.map str)[k.toNat]? = some (str (kword k)) := by
  have := names_at ⟨(k - 1).toNat, by omega⟩
  have e1 : (k - 1).toNat + 1 = k.toNat := by omega
  have e2 : (((k - 1).toNat : Nat) : Int) + 1 = k := by omega
  simp only [e1, e2] at this
  rw [List.getElem?_map, this]
  rfl
 repeat (first | refine W.w ?_ | (refine zz rfl ?_; first | refine qac rfl ?_ | refine qag rfl ?_ | refine qaA r1 rfl rfl (by omega) hn fun _ => ?_ | refine qat (PT.of r1 hn) rfl rfl ?_))
 exact ⟨_, ResV.tmp rfl, rfl, x1, rfl, rfl⟩
theorem rB_c (s : Bytes) (v : Value) (l : List Bytes) (h : Heap) (r : RBB h v l) (hs : s.length ≤ 100000) (hb : ∀ b ∈ l, b.length ≤ 1000) (hl : l.length ≤ 100) : ACalls Tryz.prog 51 [str s, v] h fun u h' => u = str (s ++ tailW (l.map wordM)) ∧ h' = h := by
 refine ACalls.body Tryz.func51 rfl rfl ?_
 obtain ⟨vs, r1, r2, r3⟩ := r
 obtain ⟨va, vc, hv⟩ := RS.slice r1
 repeat (first | refine W.w ?_ | refine zz rfl (qad rfl ?_) | refine zz rfl (qag rfl ?_))
 refine AWp.loop (α := Nat) (fun k => [(0, str (s ++ tailW ((l.take k).map wordM))), (1, v), (5, .int .i64 (k : Nat))]) (fun _ => h) (fun k => k ≤ l.length ∧ (tailW ((l.take k).map wordM)).length ≤ 3002 * k) (fun k => l.length - k) 0 ⟨Nat.zero_le _, Nat.le_refl _⟩ (Weak.same (EW.cons (congrArg str (List.append_nil s).symm) (EW.cons rfl (EW.cons rfl EW.nil)))) ?_
 rintro k ⟨hk, hkl⟩
 by_cases hlt : k < l.length
 ·
  obtain ⟨b, hbk⟩ : ∃ b, l[k]? = some b := ⟨_, List.getElem?_eq_getElem hlt⟩
  obtain ⟨x, hx⟩ : ∃ x, vs[k]? = some x := ⟨_, List.getElem?_eq_getElem (by omega)⟩
  have hxk : vs[((k : Nat) : Int).toNat]? = some x := hx
  have rb := r3 k x b hx hbk
  have hbl := hb b (List.mem_of_getElem? hbk)
  have cw := rword_c x b h rb (by omega)
  have hwl : (wordM b).length ≤ 3001 := by
   unfold wordM
   split
   ·
    simp
   ·
    have := qcS b; omega
  have e : s ++ tailW ((l.take (k + 1)).map wordM) = s ++ tailW ((l.take k).map wordM) ++ [32] ++ wordM b := by
   rw [List.take_add_one, hbk, List.map_append, qb5]
   simp [tailW]
  have e2 : tailW ((l.take (k + 1)).map wordM) = tailW ((l.take k).map wordM) ++ 32 :: wordM b := by
   rw [List.take_add_one, hbk, List.map_append, qb5]
   simp [tailW]
  repeat (first | refine W.w ?_ | refine AWp.c8 rfl ?_ | (refine zz rfl ?_; first | refine qac rfl ?_ | refine qai rfl ?_ | refine qad rfl ?_ | refine qag rfl ?_ | refine qal (v := v) rfl ?_ | refine qaS r1 rfl ?_ | refine qam rfl rfl rfl (by omega) ?_ | refine qbZ rfl rfl (by simp only [maxLen, List.length_append, List.length_cons, List.length_nil]; omega) ?_ | refine qaA r1 rfl rfl (by omega) hxk fun _ => ?_ | refine qat (PT.of r1 hxk) rfl rfl ?_ | refine qab rfl rfl cw ?_ | refine qas rfl rfl (by omega) ?_))
  exact ⟨k + 1, ⟨hlt, by rw [e2, List.length_append, List.length_cons]; omega⟩, by omega, Weak.same (EW.cons (congrArg str e.symm) (EW.cons rfl (EW.cons rfl EW.nil)))⟩
 ·
  obtain rfl : k = l.length := by omega
  rw [List.take_length] at hkl ⊢
  repeat (first | refine AL.nil ?_ | refine AWp.seq ?_ | refine AWp.r9 ?_ | refine AWp.c9 rfl ?_ | refine AWp.ret ?_ | refine AWp.exit ?_ | (refine zz rfl ?_; first | refine qac rfl ?_ | refine qai rfl ?_ | refine qag rfl ?_ | refine qal (v := v) rfl ?_ | refine qaS r1 rfl ?_ | refine qak rfl rfl rfl (by omega) ?_))
  exact ⟨_, ResV.tmp rfl, rfl, rfl⟩
end Go.Proofs.YtigmojilaadbhaaGreatDoor
