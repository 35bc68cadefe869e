/-
  Texts of one claim, merged: 10 parts.
-/
import Derived.Test.YtigmojilaadbhaaGreatDoorMacq
import Derived.Test.YtigmojilaadbhaaGreatDoorMacj
import Derived.Test.YtigmojilaadbhaaGreatDoorMaci
import Derived.Test.YtigmojilaadbhaaGreatDoorMaco
import Derived.Test.YtigmojilaadbhaaGreatDoorMacp
import Derived.Test.YtigmojilaadbhaaGreatDoorMacf
import GoSem.Extern.BytealgCompare
import GoSem.Op.String
/-
 Scripts: the document's own: acts, the same.
-/
namespace Go.Proofs.YtigmojilaadbhaaGreatDoor
open Go Go.Eng Go.Pln Go.Lib
attribute [local irreducible] AWp AL DAL AOp

instance i_sameActR : FnC Tryz.prog 23 := ⟨Tryz.f23, Tryz.func23, by kernel_rfl, by kernel_rfl⟩
set_option maxHeartbeats 8000000 in
theorem qev (p q : ActV) (a b : ActM) (h : Heap) (ra : ActR h p a) (rb : ActR h q b) : ACalls Tryz.prog 23 [.agg (actC p a).toArray, .agg (actC q b).toArray] h fun u h' => u = .bool (decide (a = b)) ∧ h' = h := by
 refine ACalls.wf fun wf => ACalls.reset ?_
 refine ACalls.body Tryz.func23 rfl rfl ?_
 repeat (first | refine AL.nil ?_ | refine AWp.seq ?_ | refine AWp.r9 ?_ | refine AL.set rfl rfl (qaa rfl ?_) | refine AL.set rfl rfl (qaI rfl (by intro e; cases e) ?_))
 generalize hH : h.alloc _ = H1
 have hg0 : H1.get h.next = some ⟨actC p a, 40, true⟩ := hH ▸ Heap.alloc_new _ _
 have hx1 : Ext h H1 := hH ▸ wf.ext _
 have wf1 : WF H1 := hH ▸ wf.alloc _
 skip
 generalize hH2 : H1.alloc _ = H
 have hg2 : H.get H1.next = some ⟨actC q b, 40, true⟩ := hH2 ▸ Heap.alloc_new _ _
 have hx2 : Ext H1 H := hH2 ▸ wf1.ext _
 have hg1 : H.get h.next = some ⟨actC p a, 40, true⟩ := hx2.c _ _ hg0
 have hx : Ext h H := hx1.trans hx2
 clear hH hH2
 obtain ⟨a1, a2, a3⟩ := ra.ext hx
 obtain ⟨b1, b2, b3⟩ := rb.ext hx
 have cA := qeJ p.q q.q a.ask b.ask H a1 b1
 have cM := qeo p.c q.c a.cmd b.cmd H a2 b2
 have r1 := a3.rn
 have s1 := b3.rn
 obtain ⟨ua, uc, hu⟩ := r1.slice
 obtain ⟨va, vc, hv⟩ := s1.slice
 have l1 : (a.keep.map keptR).length = a.keep.length := List.length_map _
 have l2 : (b.keep.map keptR).length = b.keep.length := List.length_map _
 have hlen := a3.len
 by_cases hall : a.kind = b.kind ∧ a.node = b.node ∧ a.group = b.group ∧ a.client = b.client ∧ a.n = b.n ∧ a.ask = b.ask ∧ a.cmd = b.cmd ∧ a.keep.length = b.keep.length
 ·
  obtain ⟨e1, e2, e3, e4, e5, e6, e7, e8⟩ := hall
  rw [decide_eq_true e6] at cA
  rw [decide_eq_true e7] at cM
  repeat (first | refine AL.nil ?_ | refine AWp.seq ?_ | refine AWp.r9 ?_ | refine AWp.c9 rfl ?_ | refine AWp.b9 ?_ | refine AWp.k9 ?_ | refine AL.set rfl rfl (qae rfl ?_) | refine AL.set rfl rfl (qaf rfl ?_) | refine AL.set rfl rfl (qao rfl ?_) | refine AL.set rfl rfl (qad rfl rfl hg1 rfl ?_) | refine AL.set rfl rfl (qad rfl rfl hg2 rfl ?_) | refine AL.set rfl rfl (qah (sz := 7) rfl rfl hg1 (Nat.le_of_ble_eq_true rfl) ?_) | refine AL.set rfl rfl (qah (sz := 7) rfl rfl hg2 (Nat.le_of_ble_eq_true rfl) ?_) | refine AL.set rfl rfl (qah (sz := 20) rfl rfl hg1 (Nat.le_of_ble_eq_true rfl) ?_) | refine AL.set rfl rfl (qah (sz := 20) rfl rfl hg2 (Nat.le_of_ble_eq_true rfl) ?_) | refine AL.set rfl rfl (qav r1 rfl ?_) | refine AL.set rfl rfl (qav s1 rfl ?_) | refine AL.set rfl rfl (qaj rfl rfl rfl (by omega) ?_) | refine AL.set rfl rfl (qag (v := .bool _) rfl rfl ?_) | refine AL.set rfl rfl (qac rfl rfl cA ?_) | refine AL.set rfl rfl (qac rfl rfl cM ?_) | refine AL.set rfl rfl (qaF rfl ?_))
  refine AWp.loop (α := Nat) (fun k => [(2, ptr h.next), (3, ptr H1.next), (5, .int .i64 (k : Nat))]) (fun _ => H) (fun k => k ≤ a.keep.length ∧ a.keep.take k = b.keep.take k) (fun k => a.keep.length - k) 0 ⟨Nat.zero_le _, rfl⟩ (Weak.same (EW.cons rfl (EW.cons rfl (EW.cons rfl EW.nil)))) ?_
  rintro k ⟨hk, hp⟩
  by_cases hlt : k < a.keep.length
  ·
   obtain ⟨x, hxa⟩ : ∃ x, a.keep[k]? = some x := ⟨_, List.getElem?_eq_getElem hlt⟩
   obtain ⟨y, hyb⟩ : ∃ y, b.keep[k]? = some y := ⟨_, List.getElem?_eq_getElem (by omega)⟩
   have hx2 : (a.keep.map keptR)[((k : Nat) : Int).toNat]? = some (keptR x) := by simp [hxa]
   have hy2 : (b.keep.map keptR)[((k : Nat) : Int).toNat]? = some (keptR y) := by simp [hyb]
   have px := r1.elt hx2
   have py := s1.elt hy2
   have hte := qdG hp hxa hyb
   have heq := qfz x y
   by_cases hxy : x = y
   ·
    rw [decide_eq_true hxy] at heq
    repeat (first | refine AL.nil ?_ | refine AWp.seq ?_ | refine AWp.r9 ?_ | refine AWp.c8 rfl ?_ | refine AWp.b9 ?_ | refine AWp.k9 ?_ | refine AL.set rfl rfl (qab rfl ?_) | refine AL.set rfl rfl (qao rfl ?_) | refine AL.set rfl rfl (qad rfl rfl hg1 rfl ?_) | refine AL.set rfl rfl (qav r1 rfl ?_) | refine AL.set rfl rfl (qai rfl rfl rfl (by omega) ?_))
    refine AWp.draw (σ := [(0, .R), (1, .R), (2, .R), (3, .R), (4, .R), (5, .R), (6, .R), (7, .R), (8, .R), (9, .R), (10, .R)]) mixed (by kernel_rfl) ?_
    repeat (first | refine DAL.r rfl rfl rfl (fun h' hx hn => qab rfl ⟨rfl, rfl⟩) ?_ | refine DAL.r rfl rfl rfl (fun h' hx hn => qao rfl ⟨rfl, rfl⟩) ?_ | refine DAL.r rfl rfl rfl (fun h' hx hn => qad rfl rfl (hx.c _ _ hg1) rfl ⟨rfl, rfl⟩) ?_ | refine DAL.r rfl rfl rfl (fun h' hx hn => qad rfl rfl (hx.c _ _ hg2) rfl ⟨rfl, rfl⟩) ?_ | refine DAL.r rfl rfl rfl (fun h' hx hn => qaz (r1.ext hx) rfl rfl (by omega) hx2 ⟨rfl, rfl⟩) ?_ | refine DAL.r rfl rfl rfl (fun h' hx hn => qaz (s1.ext hx) rfl rfl (by omega) hy2 ⟨rfl, rfl⟩) ?_ | refine DAL.r rfl rfl rfl (fun h' hx hn => qaS (px.ext hx) rfl rfl rfl ⟨rfl, rfl⟩) ?_ | refine DAL.r rfl rfl rfl (fun h' hx hn => qaS (py.ext hx) rfl rfl rfl ⟨rfl, rfl⟩) ?_ | refine DAL.r rfl rfl rfl (fun h' hx hn => qdq (xs := keptR x) (ys := keptR y) rfl rfl rfl heq ⟨rfl, rfl⟩) ?_)
    refine DAL.nil ?_
    repeat (first | refine AL.nil ?_ | refine AWp.r9 ?_ | refine AWp.c9 rfl ?_ | refine AWp.k9 ?_ | refine AL.set rfl rfl (qab rfl ?_) | refine AL.set rfl rfl (qaf rfl ?_) | refine AL.set rfl rfl (qax rfl rfl (by omega) ?_))
    exact ⟨k + 1, ⟨hlt, hte.2 hxy⟩, by omega, Weak.same (EW.cons rfl (EW.cons rfl (EW.cons rfl EW.nil)))⟩
   ·
    rw [decide_eq_false hxy] at heq
    repeat (first | refine AL.nil ?_ | refine AWp.seq ?_ | refine AWp.r9 ?_ | refine AWp.c8 rfl ?_ | refine AWp.b9 ?_ | refine AWp.k9 ?_ | refine AL.set rfl rfl (qab rfl ?_) | refine AL.set rfl rfl (qao rfl ?_) | refine AL.set rfl rfl (qad rfl rfl hg1 rfl ?_) | refine AL.set rfl rfl (qav r1 rfl ?_) | refine AL.set rfl rfl (qai rfl rfl rfl (by omega) ?_))
    refine AWp.draw (σ := [(0, .R), (1, .R), (2, .R), (3, .R), (4, .R), (5, .R), (6, .R), (7, .R), (8, .R), (9, .R), (10, .R)]) mixed (by kernel_rfl) ?_
    repeat (first | refine DAL.r rfl rfl rfl (fun h' hx hn => qab rfl ⟨rfl, rfl⟩) ?_ | refine DAL.r rfl rfl rfl (fun h' hx hn => qao rfl ⟨rfl, rfl⟩) ?_ | refine DAL.r rfl rfl rfl (fun h' hx hn => qad rfl rfl (hx.c _ _ hg1) rfl ⟨rfl, rfl⟩) ?_ | refine DAL.r rfl rfl rfl (fun h' hx hn => qad rfl rfl (hx.c _ _ hg2) rfl ⟨rfl, rfl⟩) ?_ | refine DAL.r rfl rfl rfl (fun h' hx hn => qaz (r1.ext hx) rfl rfl (by omega) hx2 ⟨rfl, rfl⟩) ?_ | refine DAL.r rfl rfl rfl (fun h' hx hn => qaz (s1.ext hx) rfl rfl (by omega) hy2 ⟨rfl, rfl⟩) ?_ | refine DAL.r rfl rfl rfl (fun h' hx hn => qaS (px.ext hx) rfl rfl rfl ⟨rfl, rfl⟩) ?_ | refine DAL.r rfl rfl rfl (fun h' hx hn => qaS (py.ext hx) rfl rfl rfl ⟨rfl, rfl⟩) ?_ | refine DAL.r rfl rfl rfl (fun h' hx hn => qdq (xs := keptR x) (ys := keptR y) rfl rfl rfl heq ⟨rfl, rfl⟩) ?_)
    refine DAL.nil ?_
    repeat (first | refine AL.nil ?_ | refine AWp.seq ?_ | refine AWp.r9 ?_ | refine AWp.c8 rfl ?_ | refine AWp.ret ?_ | refine AL.set rfl rfl (qaa rfl ?_))
    exact ⟨_, ResV.tmp rfl, rfl, hx, congrArg Value.bool (decide_eq_false fun e => hxy (hte.1 (by rw [e]))).symm, rfl⟩
  ·
   obtain rfl : k = a.keep.length := by omega
   rw [List.take_length, e8, List.take_length] at hp
   repeat (first | refine AL.nil ?_ | refine AWp.seq ?_ | refine AWp.r9 ?_ | refine AWp.c9 rfl ?_ | refine AWp.ret ?_ | refine AWp.exit ?_ | refine AL.set rfl rfl (qab rfl ?_) | refine AL.set rfl rfl (qaa rfl ?_) | refine AL.set rfl rfl (qao rfl ?_) | refine AL.set rfl rfl (qad rfl rfl hg1 rfl ?_) | refine AL.set rfl rfl (qav r1 rfl ?_) | refine AL.set rfl rfl (qaj rfl rfl rfl (by omega) ?_))
   exact ⟨_, ResV.tmp rfl, rfl, hx, congrArg Value.bool (decide_eq_true (act_ext.2 ⟨e1, e2, e3, e4, e5, e6, e7, hp⟩)).symm, rfl⟩
 ·
  repeat' (first | refine AL.nil ?_ | refine AL.skip rfl rfl ?_ | refine AWp.seq ?_ | refine AWp.r9 ?_ | refine AWp.c8 rfl ?_ | refine AWp.c9 rfl ?_ | refine AWp.ret ?_ | refine AWp.b9 ?_ | refine AWp.k9 ?_ | refine AL.set rfl rfl (qae rfl ?_) | refine AL.set rfl rfl (qaf rfl ?_) | refine AL.set rfl rfl (qaa rfl ?_) | refine AL.set rfl rfl (qao rfl ?_) | refine AL.set rfl rfl (qad rfl rfl hg1 rfl ?_) | refine AL.set rfl rfl (qad rfl rfl hg2 rfl ?_) | refine AL.set rfl rfl (qah (sz := 7) rfl rfl hg1 (Nat.le_of_ble_eq_true rfl) ?_) | refine AL.set rfl rfl (qah (sz := 7) rfl rfl hg2 (Nat.le_of_ble_eq_true rfl) ?_) | refine AL.set rfl rfl (qah (sz := 20) rfl rfl hg1 (Nat.le_of_ble_eq_true rfl) ?_) | refine AL.set rfl rfl (qah (sz := 20) rfl rfl hg2 (Nat.le_of_ble_eq_true rfl) ?_) | refine AL.set rfl rfl (qav r1 rfl ?_) | refine AL.set rfl rfl (qav s1 rfl ?_) | refine AL.set rfl rfl (qaN rfl rfl cA (fun c => ?_) (fun c => ?_)) | refine AL.set rfl rfl (qaN rfl rfl cM (fun c => ?_) (fun c => ?_)) | refine AL.set rfl rfl (qaF rfl ?_) | refine AL.set rfl rfl (qaJ rfl rfl rfl (fun c => ?_) (fun c => ?_)) | refine AL.set rfl rfl (qag (v := .bool _) rfl rfl ?_))
  all_goals first | (refine ⟨_, ResV.tmp rfl, rfl, hx, congrArg Value.bool (decide_eq_false fun e => ?_).symm, rfl⟩; subst e; clear cA cM; first | contradiction | omega | (simp at *; done) | grind) | (exfalso; clear cA cM; grind)
end Go.Proofs.YtigmojilaadbhaaGreatDoor

/-
 Scripts: the rows that the laws know, told plainly.
-/
namespace Go.Pln
open Go Go.Lib

abbrev knA : Bytes := [116, 105, 109, 101, 114, 32, 48, 32, 49]
abbrev knB : Bytes := [97, 115, 107, 32, 49, 32, 48, 32, 49, 32, 112, 117, 116, 32, 97, 32, 37]
abbrev knC : Bytes := [112, 108, 97, 110, 32, 48, 32, 109, 111, 118, 101, 32, 37, 32, 50]
abbrev knD : Bytes := [112, 108, 97, 110, 32, 48, 32, 109, 111, 118, 101, 32, 97]
abbrev knE : Bytes := [104, 101, 97, 114, 32, 48, 49]
abbrev knF : Bytes := [99, 114, 97, 115, 104, 32, 48, 32, 97, 32, 49, 32, 97, 32, 50]
abbrev knT : Bytes := [115, 101, 116, 117, 112, 32, 49, 32, 49, 48, 50, 52, 32, 54, 52, 32, 50, 53, 54, 10, 103, 114, 111, 117, 112, 32, 48, 10, 103, 114, 111, 117, 112, 32, 48, 10, 116, 105, 109, 101, 114, 32, 48, 32, 49, 10]
abbrev knU : Bytes := [115, 101, 116, 117, 112, 32, 49, 32, 49, 48, 50, 52, 32, 54, 52, 32, 50, 53, 54, 10, 103, 114, 111, 117, 112, 32, 49, 10, 103, 114, 111, 117, 112, 32, 48, 10, 116, 105, 109, 101, 114, 32, 48, 32, 49, 10]
abbrev knV : Bytes := [115, 101, 116, 117, 112, 32, 49, 32, 49, 48, 50, 52, 32, 54, 52, 32, 50, 53, 54, 10, 103, 114, 111, 117, 112, 32, 48, 10, 103, 114, 111, 117, 112, 32, 48, 10, 116, 105, 109, 101, 114, 32, 48, 32, 50, 10]
abbrev knW : Bytes := [115, 101, 116, 117, 112, 32, 49, 32, 49, 48, 50, 52, 32, 54, 52, 32, 50, 53, 54, 10, 103, 114, 111, 117, 112, 32, 48, 10]
abbrev knX : Bytes := [115, 101, 116, 117, 112, 32, 49, 32, 49, 48, 50, 52, 32, 54, 52, 32, 50, 53, 54, 10, 103, 114, 111, 117, 112, 32, 48, 10, 103, 114, 111, 117, 112, 32, 48, 10, 116, 105, 109, 101, 114, 32, 49, 32, 49, 10]
def knL : ActM := { act0 with kind := 1, group := 1 }
def knM : ActM := { act0 with kind := 10, client := 1, group := 1, ask := { ask0 with kind := 2, key := [97] } }
def knN : ActM := { act0 with kind := 1, node := 5 }
def knO : ActM := { act0 with kind := 9, cmd := { cmd0 with kind := 8, group := 2 } }
theorem qhm : mayAct 5 5 knL = true ∧ lineM knL = knA := by decide +kernel
theorem qhl : mayAct 5 5 knM = true ∧ lineM knM = knB := by decide +kernel
theorem knN_line : mayAct 5 5 knN = false := by decide +kernel
theorem knC_act : unlineP knC = some knO := (qcb _ _).2 (by decide +kernel)
theorem knD_act : unlineP knD = none := by decide +kernel
theorem knE_act : unlineP knE = none := by decide +kernel
theorem knF_act : unlineP knF = none := by decide +kernel
theorem qhD : (parseP knT).2 = (0, 0) ∧ (parseP knT).1.setup.groups.length = 2 ∧ (parseP knT).1.acts.length = 1 := by decide +kernel
theorem knU_read : (parseP knU).2 = (1, 4) ∧ (parseP knU).1.acts.length = 0 := by decide +kernel
theorem knV_read : (parseP knV).2 = (3, 4) ∧ (parseP knV).1.acts.length = 0 := by decide +kernel
theorem knW_read : (parseP knW).2 = (2, 4) ∧ (parseP knW).1.acts.length = 0 := by decide +kernel
theorem knX_read : (parseP knX).2 = (3, 4) ∧ (parseP knX).1.acts.length = 0 := by decide +kernel
end Go.Pln

/-
 Scripts: what the laws know (known, wrong, num of the laws).
-/
namespace Go.Proofs.YtigmojilaadbhaaGreatDoor
open Go Go.Eng Go.Pln Go.Lib
attribute [local irreducible] AWp AL DAL AOp TAL

instance i_lnum : FnC Tryz.prog 20 := ⟨Tryz.f20, Tryz.func20, by kernel_rfl, by kernel_rfl⟩
instance i_lwrong : FnC Tryz.prog 37 := ⟨Tryz.f37, Tryz.func37, by kernel_rfl, by kernel_rfl⟩
instance i_lknown : FnC Tryz.prog 15 := ⟨Tryz.f15, Tryz.func15, by kernel_rfl, by kernel_rfl⟩
theorem qhi (e : Int) (h : Heap) : ACalls Tryz.prog 20 [.int .i64 e] h fun u h' => u = .int .i64 e ∧ h' = h := by
 refine ACalls.body Tryz.func20 rfl rfl ?_
 repeat (first | refine AL.nil ?_ | refine AWp.seq ?_ | refine AWp.r9 ?_ | refine AWp.ret ?_ | refine AL.set rfl rfl (qab rfl ?_) | refine AL.set rfl rfl (qaf rfl ?_))
 exact ⟨_, ResV.tmp rfl, rfl, rfl⟩
set_option maxHeartbeats 2000000 in
theorem qdp (text : Bytes) (n : Int) (h : Heap) (t : Tabs h) (h8 : 8 ≤ h.next) (hl : text.length ≤ 100000000) (hr : (parseP text).2 = (n, 4) ∧ (parseP text).1.acts.length = 0) : ACalls Tryz.prog 37 [str text, .int .i64 n] h fun u h' => u = .bool true ∧ h' = h := by
 refine ACalls.wf fun wf => ACalls.reset ?_
 refine ACalls.body Tryz.func37 rfl rfl ?_
 obtain ⟨e1, e2⟩ := Prod.mk.inj hr.1
 have ea := hr.2
 repeat (first | refine AL.nil ?_ | refine AWp.seq ?_ | refine AWp.r9 ?_ | refine AL.set rfl rfl (qam rfl ?_) | refine AL.set rfl rfl (qaa rfl ?_))
 refine AL.set rfl rfl (qaq (evs := [str text]) rfl rfl ((parse_c text h t h8 hl).wf_post.mono ?_))
 rintro _ H1 ⟨⟨B, vg, va, rfl, hg, hav, x1⟩, w1, n1⟩
 rw [e1, e2]
 have h1 := qeQ hg.one hav.one (parseP text).1.setup
 repeat (first | refine AL.set rfl rfl (qaL rfl ?_) | refine AL.set rfl rfl (qay rfl rfl ?_) | refine AL.set rfl rfl (qas ?_))
 refine AL.eff rfl (qaE (vs := scrC vg va (parseP text).1.setup) rfl rfl rfl rfl h1 ?_)
 refine AL.heap (h := H1.alloc (scrB vg va (parseP text).1.setup)) rfl ?_
 have g2 := Heap.alloc_new H1 (scrB vg va (parseP text).1.setup)
 have x2 := w1.ext (scrB vg va (parseP text).1.setup)
 generalize H1.alloc (scrB vg va (parseP text).1.setup) = H2 at g2 x2 ⊢
 obtain ⟨rows, r1, r2, _⟩ := (hav.ra.ext x2).ex
 have c4 := qhi 4 H2
 repeat (first | refine AL.nil ?_ | refine AWp.seq ?_ | refine AWp.r9 ?_ | refine AWp.ret ?_ | refine AL.set rfl rfl (qab rfl ?_) | refine AL.set rfl rfl (qae rfl ?_) | refine AL.set rfl rfl (qaf rfl ?_) | refine AL.set rfl rfl (qaa rfl ?_) | refine AL.set rfl rfl (qai (a := n) (b := n) rfl rfl rfl rfl ?_) | refine AL.set rfl rfl (qac rfl rfl c4 ?_) | refine AL.set rfl rfl (qao rfl ?_) | refine AL.set rfl rfl (qad rfl rfl g2 rfl ?_) | refine AL.set rfl rfl (qav r1 rfl ?_) | refine AL.set rfl rfl (qai rfl rfl rfl (by omega) ?_) | refine AL.set rfl rfl (qag (v := .bool _) rfl rfl ?_))
 exact ⟨_, ResV.tmp rfl, rfl, x1.trans x2, rfl, rfl⟩
end Go.Proofs.YtigmojilaadbhaaGreatDoor

/-
 Scripts: what the laws know (known): it is true.
-/
namespace Go.Proofs.YtigmojilaadbhaaGreatDoor
open Go Go.Eng Go.Pln Go.Lib
attribute [local irreducible] AWp AL DAL AOp TAL

set_option maxHeartbeats 4000000 in
theorem qhE (h : Heap) (t : Tabs h) (h8 : 8 ≤ h.next) : ACalls Tryz.prog 15 [] h fun u h' => u = .bool true ∧ h' = h := by
 refine ACalls.wf fun wf => ACalls.reset ?_
 refine ACalls.body Tryz.func15 rfl rfl ?_
 have c1 := qhe actV0 knL h t ((ActO.nil 0 h knL rfl rfl rfl).r (Nat.zero_le _))
 rw [show lineV knL = .tuple #[str knA, .int .i64 0] by unfold lineV; rw [if_pos qhm.1, qhm.2]] at c1
 repeat (first | refine AL.nil ?_ | refine AWp.seq ?_ | refine AWp.r9 ?_ | refine AL.set rfl rfl (qaL rfl ?_) | refine AL.set rfl rfl (qaf rfl ?_) | refine AL.set rfl rfl (qaa rfl ?_) | refine AL.set rfl rfl (qak rfl ?_) | refine AL.set rfl rfl (qau (out := actC actV0 knL) rfl rfl ?_) | refine AL.set rfl rfl (qac rfl rfl c1 ?_) | refine AL.set rfl rfl (qay rfl rfl ?_))
 refine AL.set rfl rfl (qa5 (bv [97]) rfl rfl rfl rfl (qeV _) ?_)
 refine AL.heap (h := h.alloc ⟨bv [97], 5, true⟩) rfl ?_
 have x1 := wf.ext ⟨bv [97], 5, true⟩
 have w1 := wf.alloc ⟨bv [97], 5, true⟩
 have g1 := Heap.alloc_new h ⟨bv [97], 5, true⟩
 have o1 : OS 0 (h.alloc ⟨bv [97], 5, true⟩) 5 (.slice (some ⟨h.next, 0, some 1⟩) 1 1) (bv [97]) := OS.new (Nat.zero_le _) rfl
 have n1 : 8 ≤ (h.alloc ⟨bv [97], 5, true⟩).next := by show 8 ≤ h.next + 1; omega
 generalize h.alloc ⟨bv [97], 5, true⟩ = H1 at x1 w1 g1 o1 n1 ⊢
 have c2 := qhe ⟨⟨.slice (some ⟨h.next, 0, some 1⟩) 1 1, nilS, nilS, nilS⟩, cmdV0, nilS⟩ knM H1 (t.ext x1) ⟨⟨o1.rb, RB.nil _, RB.nil _, RB.nil _⟩, CmdR.nil _, RK.nil _⟩
 rw [show lineV knM = .tuple #[str knB, .int .i64 0] by unfold lineV; rw [if_pos qhl.1, qhl.2]] at c2
 have c3 := qhe actV0 knN H1 (t.ext x1) ((ActO.nil 0 H1 knN rfl rfl rfl).r (Nat.zero_le _))
 rw [show lineV knN = .tuple #[str [], .int .i64 2] by unfold lineV; rw [if_neg (by rw [knN_line]; decide)]] at c3
 refine AL.set rfl rfl (qgk rfl rfl g1 rfl ?_)
 repeat (first | refine AL.nil ?_ | refine AWp.seq ?_ | refine AWp.r9 ?_ | refine AL.set rfl rfl (qaL rfl ?_) | refine AL.set rfl rfl (qaf rfl ?_) | refine AL.set rfl rfl (qak rfl ?_) | refine AL.set rfl rfl (qau (out := askC ⟨.slice (some ⟨h.next, 0, some 1⟩) 1 1, nilS, nilS, nilS⟩ knM.ask) rfl rfl ?_) | refine AL.set rfl rfl (qau (out := actC ⟨⟨.slice (some ⟨h.next, 0, some 1⟩) 1 1, nilS, nilS, nilS⟩, cmdV0, nilS⟩ knM) rfl rfl ?_) | refine AL.set rfl rfl (qac rfl rfl c2 ?_) | refine AL.set rfl rfl (qay rfl rfl ?_) | refine AL.set rfl rfl (qau (out := actC actV0 knN) rfl rfl ?_) | refine AL.set rfl rfl (qac rfl rfl c3 ?_))
 skip
 have c2 := (qcI knC H1 (t.ext x1) (by omega) (by decide)).wf_post
 rw [show unA knC = (knO, 0) by unfold unA; rw [knC_act]] at c2
 refine AL.set rfl rfl (qaq (evs := [str knC]) rfl rfl (c2.mono ?_))
 rintro _ K2 ⟨⟨q2, rfl, ⟨⟨B2, o2⟩, k2⟩, y2⟩, v2, m2⟩
 have e2 := qaD (o2.r k2)
 repeat (first | refine AL.set rfl rfl (qaL rfl ?_) | refine AL.set rfl rfl (qay rfl rfl ?_) | refine AL.set rfl rfl (qas ?_))
 refine AL.eff rfl (qaE (vs := actC q2 knO) rfl rfl rfl rfl e2 ?_)
 refine AL.heap (h := K2.alloc ⟨actC q2 knO, 40, true⟩) rfl ?_
 have g2 := Heap.alloc_new K2 ⟨actC q2 knO, 40, true⟩
 have z2 := v2.ext ⟨actC q2 knO, 40, true⟩
 have w2 := v2.alloc ⟨actC q2 knO, 40, true⟩
 have n2 : 8 ≤ (K2.alloc ⟨actC q2 knO, 40, true⟩).next := by show 8 ≤ K2.next + 1; omega
 have x2 := x1.trans (y2.trans z2)
 generalize K2.alloc ⟨actC q2 knO, 40, true⟩ = H2 at g2 z2 w2 n2 x2 ⊢
 repeat (first | refine AL.nil ?_ | refine AWp.seq ?_ | refine AWp.r9 ?_ | refine AL.set rfl rfl (qaf rfl ?_))
 have c3 := (qcI knD H2 (t.ext x2) (by omega) (by decide)).wf_post
 rw [show unA knD = (act0, 4) by unfold unA; rw [knD_act]] at c3
 refine AL.set rfl rfl (qaq (evs := [str knD]) rfl rfl (c3.mono ?_))
 rintro _ K3 ⟨⟨q3, rfl, ⟨⟨B3, o3⟩, k3⟩, y3⟩, v3, m3⟩
 have e3 := qaD (o3.r k3)
 repeat (first | refine AL.set rfl rfl (qaL rfl ?_) | refine AL.set rfl rfl (qay rfl rfl ?_) | refine AL.set rfl rfl (qas ?_))
 refine AL.eff rfl (qaE (vs := actC q3 act0) rfl rfl rfl rfl e3 ?_)
 refine AL.heap (h := K3.alloc ⟨actC q3 act0, 40, true⟩) rfl ?_
 have g3 := Heap.alloc_new K3 ⟨actC q3 act0, 40, true⟩
 have z3 := v3.ext ⟨actC q3 act0, 40, true⟩
 have w3 := v3.alloc ⟨actC q3 act0, 40, true⟩
 have n3 : 8 ≤ (K3.alloc ⟨actC q3 act0, 40, true⟩).next := by show 8 ≤ K3.next + 1; omega
 have x3 := x2.trans (y3.trans z3)
 generalize K3.alloc ⟨actC q3 act0, 40, true⟩ = H3 at g3 z3 w3 n3 x3 ⊢
 repeat (first | refine AL.nil ?_ | refine AWp.seq ?_ | refine AWp.r9 ?_ | refine AL.set rfl rfl (qaf rfl ?_))
 have c4 := (qcI knE H3 (t.ext x3) (by omega) (by decide)).wf_post
 rw [show unA knE = (act0, 4) by unfold unA; rw [knE_act]] at c4
 refine AL.set rfl rfl (qaq (evs := [str knE]) rfl rfl (c4.mono ?_))
 rintro _ K4 ⟨⟨q4, rfl, ⟨⟨B4, o4⟩, k4⟩, y4⟩, v4, m4⟩
 have e4 := qaD (o4.r k4)
 repeat (first | refine AL.set rfl rfl (qaL rfl ?_) | refine AL.set rfl rfl (qay rfl rfl ?_) | refine AL.set rfl rfl (qas ?_))
 refine AL.eff rfl (qaE (vs := actC q4 act0) rfl rfl rfl rfl e4 ?_)
 refine AL.heap (h := K4.alloc ⟨actC q4 act0, 40, true⟩) rfl ?_
 have g4 := Heap.alloc_new K4 ⟨actC q4 act0, 40, true⟩
 have z4 := v4.ext ⟨actC q4 act0, 40, true⟩
 have w4 := v4.alloc ⟨actC q4 act0, 40, true⟩
 have n4 : 8 ≤ (K4.alloc ⟨actC q4 act0, 40, true⟩).next := by show 8 ≤ K4.next + 1; omega
 have x4 := x3.trans (y4.trans z4)
 generalize K4.alloc ⟨actC q4 act0, 40, true⟩ = H4 at g4 z4 w4 n4 x4 ⊢
 repeat (first | refine AL.nil ?_ | refine AWp.seq ?_ | refine AWp.r9 ?_ | refine AL.set rfl rfl (qaf rfl ?_))
 have c5 := (qcI knF H4 (t.ext x4) (by omega) (by decide)).wf_post
 rw [show unA knF = (act0, 4) by unfold unA; rw [knF_act]] at c5
 refine AL.set rfl rfl (qaq (evs := [str knF]) rfl rfl (c5.mono ?_))
 rintro _ K5 ⟨⟨q5, rfl, ⟨⟨B5, o5⟩, k5⟩, y5⟩, v5, m5⟩
 have e5 := qaD (o5.r k5)
 repeat (first | refine AL.set rfl rfl (qaL rfl ?_) | refine AL.set rfl rfl (qay rfl rfl ?_) | refine AL.set rfl rfl (qas ?_))
 refine AL.eff rfl (qaE (vs := actC q5 act0) rfl rfl rfl rfl e5 ?_)
 refine AL.heap (h := K5.alloc ⟨actC q5 act0, 40, true⟩) rfl ?_
 have g5 := Heap.alloc_new K5 ⟨actC q5 act0, 40, true⟩
 have z5 := v5.ext ⟨actC q5 act0, 40, true⟩
 have w5 := v5.alloc ⟨actC q5 act0, 40, true⟩
 have n5 : 8 ≤ (K5.alloc ⟨actC q5 act0, 40, true⟩).next := by show 8 ≤ K5.next + 1; omega
 have x5 := x4.trans (y5.trans z5)
 generalize K5.alloc ⟨actC q5 act0, 40, true⟩ = H5 at g5 z5 w5 n5 x5 ⊢
 have u2 := z5.c _ _ (y5.c _ _ (z4.c _ _ (y4.c _ _ (z3.c _ _ (y3.c _ _ g2)))))
 have s2 : ActR H5 q2 knO := ((o2.r k2).ext (z2.trans (y3.trans z3))).ext ((y4.trans z4).trans (y5.trans z5))
 repeat (first | refine AL.nil ?_ | refine AWp.seq ?_ | refine AWp.r9 ?_ | refine AL.set rfl rfl (qaf rfl ?_) | refine AL.set rfl rfl (qau (out := cmdC cmdV0 knO.cmd) rfl rfl ?_) | refine AL.set rfl rfl (qau (out := actC actV0 knO) rfl rfl ?_) | refine AL.set rfl rfl (qas ?_))
 refine AL.eff rfl (qaE (vs := actC actV0 knO) rfl rfl rfl rfl rfl ?_)
 refine AL.heap (h := H5.alloc ⟨actC actV0 knO, 40, true⟩) rfl ?_
 have g6 := Heap.alloc_new H5 ⟨actC actV0 knO, 40, true⟩
 have z6 := w5.ext ⟨actC actV0 knO, 40, true⟩
 have w6 := w5.alloc ⟨actC actV0 knO, 40, true⟩
 have n6 : 8 ≤ (H5.alloc ⟨actC actV0 knO, 40, true⟩).next := by show 8 ≤ H5.next + 1; omega
 have x6 := x5.trans z6
 generalize H5.alloc ⟨actC actV0 knO, 40, true⟩ = H6 at g6 z6 w6 n6 x6 ⊢
 repeat (first | refine AL.nil ?_ | refine AWp.seq ?_ | refine AWp.r9 ?_)
 refine AL.set rfl rfl (qaq (evs := [str knT]) rfl rfl ((parse_c knT H6 (t.ext x6) n6 (by decide)).wf_post.mono ?_))
 rintro _ K7 ⟨⟨B7, vg, va, rfl, hg, hav, y7⟩, v7, m7⟩
 obtain ⟨e1, e2⟩ := Prod.mk.inj qhD.1
 obtain ⟨_, lg, la⟩ := qhD
 rw [e1, e2]
 have h1 := qeQ hg.one hav.one (parseP knT).1.setup
 repeat (first | refine AL.set rfl rfl (qaL rfl ?_) | refine AL.set rfl rfl (qay rfl rfl ?_) | refine AL.set rfl rfl (qas ?_))
 refine AL.eff rfl (qaE (vs := scrC vg va (parseP knT).1.setup) rfl rfl rfl rfl h1 ?_)
 refine AL.heap (h := K7.alloc (scrB vg va (parseP knT).1.setup)) rfl ?_
 have g7 := Heap.alloc_new K7 (scrB vg va (parseP knT).1.setup)
 have z7 := v7.ext (scrB vg va (parseP knT).1.setup)
 have n7 : 8 ≤ (K7.alloc (scrB vg va (parseP knT).1.setup)).next := by show 8 ≤ K7.next + 1; omega
 have x7 := x6.trans (y7.trans z7)
 generalize K7.alloc (scrB vg va (parseP knT).1.setup) = H7 at g7 z7 n7 x7 ⊢
 obtain ⟨rows, r1, r2, _⟩ := (hav.ra.ext z7).ex
 obtain ⟨vs, q1, q2', _⟩ := (hg.rg.ext z7)
 have p2 := (z6.trans (y7.trans z7)).c _ _ u2
 have p6 := (y7.trans z7).c _ _ g6
 have d0 := qhi 0 H7
 have d2 := qhi 2 H7
 have d4 := qhi 4 H7
 have dS := qev q2 actV0 knO knO H7 (s2.ext (z6.trans (y7.trans z7))) ⟨AskR.nil _, ⟨AskR.nil _, ⟨RB.nil _, RB.nil _⟩, RE.nil _, RB.nil _, RB.nil _⟩, RK.nil _⟩
 rw [show decide (knO = knO) = true by decide] at dS
 have dU := qdp knU 1 H7 (t.ext x7) n7 (by decide) knU_read
 have dV := qdp knV 3 H7 (t.ext x7) n7 (by decide) knV_read
 have dW := qdp knW 2 H7 (t.ext x7) n7 (by decide) knW_read
 have dX := qdp knX 3 H7 (t.ext x7) n7 (by decide) knX_read
 repeat (first | refine AL.nil ?_ | refine AWp.seq ?_ | refine AWp.r9 ?_ | refine AWp.ret ?_ | refine AL.set rfl rfl (qab rfl ?_) | refine AL.set rfl rfl (qae rfl ?_) | refine AL.set rfl rfl (qam rfl ?_) | refine AL.set rfl rfl (qaf rfl ?_) | refine AL.set rfl rfl (qaa rfl ?_) | refine AL.set rfl rfl (qaX (a := knA) (b := knA) rfl rfl rfl ?_) | refine AL.set rfl rfl (qaX (a := knB) (b := knB) rfl rfl rfl ?_) | refine AL.set rfl rfl (qag (v := .bool _) rfl rfl ?_) | refine AL.set rfl rfl (qac rfl rfl d0 ?_) | refine AL.set rfl rfl (qac rfl rfl d2 ?_) | refine AL.set rfl rfl (qac rfl rfl d4 ?_) | refine AL.set rfl rfl (qai rfl rfl rfl (by omega) ?_) | refine AL.set rfl rfl (qah (sz := 33) rfl rfl p2 (Nat.le_refl _) ?_) | refine AL.set rfl rfl (qah (sz := 33) rfl rfl p6 (Nat.le_refl _) ?_) | refine AL.set rfl rfl (qac rfl rfl dS ?_) | refine AL.set rfl rfl (qao rfl ?_) | refine AL.set rfl rfl (qad rfl rfl g7 rfl ?_) | refine AL.set rfl rfl (qaK q1 rfl ?_) | refine AL.set rfl rfl (qav r1 rfl ?_) | refine AL.set rfl rfl (qac rfl rfl dU ?_) | refine AL.set rfl rfl (qac rfl rfl dV ?_) | refine AL.set rfl rfl (qac rfl rfl dW ?_) | refine AL.set rfl rfl (qac rfl rfl dX ?_) | refine AL.set rfl rfl (qax rfl rfl (by omega) ?_))
 exact ⟨_, ResV.tmp rfl, rfl, x7, rfl, rfl⟩
end Go.Proofs.YtigmojilaadbhaaGreatDoor

/-
 Scripts: the document's own: bytes avs a word, and back.
-/
namespace Go.Proofs.YtigmojilaadbhaaGreatDoor
open Go Go.Eng Go.Pln Go.Lib
attribute [local irreducible] AWp AL DAL AOp TAL

structure Gr (h : Heap) (e : TypeId) (vs : List Value) (H : Heap) (u : Value) : Prop where
 os : OS h.next H e u vs
 ext : Ext h H
 wf : WF H
 nx : h.next ≤ H.next
section
variable {ρ : Operand → Value} {h : Heap} {K : Value → Heap → Prop} {dst : Option Tmp} {ty : TypeId} {pos : String} {aft : Array Edge} {g : Option (Nat × Bool)} {t t' : TypeId} {x y : Operand}
end
end Go.Proofs.YtigmojilaadbhaaGreatDoor

/-
 Scripts: the document's own: the bytes of a word; a line's words; words behind one.
-/
namespace Go.Proofs.YtigmojilaadbhaaGreatDoor
open Go Go.Eng Go.Pln Go.Lib
attribute [local irreducible] AWp AL DAL AOp TAL

structure UrI (h : Heap) (s : Bytes) (i : Nat) (acc : Bytes) (H : Heap) (u : Value) : Prop where
 le : i ≤ s.length
 eq : unR s = (unR (s.drop i)).map (acc ++ ·)
 gr : Gr h 5 (bv acc) H u
 len : acc.length ≤ i
def UwOk (h : Heap) (s : Bytes) (u : Value) (h' : Heap) : Prop := ∃ v b, u = .tuple #[v, .bool (unwordR s).isSome] ∧ OS h.next h' 5 v (bv b) ∧ b.length ≤ s.length ∧ Ext h h' ∧ ((unwordR s).isSome = true → unwordR s = some b)
end Go.Proofs.YtigmojilaadbhaaGreatDoor

/-
 Scripts: the document's own: a line's words; the kinds' words; bytes avs words behind one.
-/
namespace Go.Proofs.YtigmojilaadbhaaGreatDoor
open Go Go.Eng Go.Pln Go.Lib
attribute [local irreducible] AWp AL DAL AOp TAL

instance i_TyD_Sl_Sl_uint8 : TyD Tryz.prog 135 (.slice 27) := ⟨Tryz.underlying135⟩
abbrev noB (s : Bytes) : Prop := ∀ c ∈ s, c ≠ 32
structure WdI (h : Heap) (s : Bytes) (i at_ : Nat) (ws : List Bytes) (H : Heap) (u : Value) : Prop where
 gr : Gr h 9 (ws.map str) H u
 len : ws.length ≤ i
 alt : (i ≤ s.length ∧ at_ ≤ i ∧ wordsS s = ws ++ wordsS (s.drop at_) ∧ noB ((s.take i).drop at_)) ∨ (i = s.length + 1 ∧ wordsS s = ws)
def namesL : List Bytes := [[], [116, 105, 109, 101, 114], [98, 101, 97, 116], [104, 101, 97, 114], [100, 114, 111, 112], [100, 111, 117, 98, 108, 101], [97, 112, 112, 108, 121], [119, 111, 114, 107], [100, 114, 105, 118, 101], [112, 108, 97, 110], [97, 115, 107], [97, 103, 97, 105, 110], [99, 114, 97, 115, 104], [115, 116, 97, 114, 116]]
end Go.Proofs.YtigmojilaadbhaaGreatDoor

/-
 Scripts: the document's own: what is asked, avs words.
-/
namespace Go.Proofs.YtigmojilaadbhaaGreatDoor
open Go Go.Eng Go.Pln Go.Lib
attribute [local irreducible] AWp AL DAL AOp TAL

def RBs (h : Heap) : List Value → List Bytes → Prop
 | [], [] => True
 | v :: vs, l :: ll => RB h v l ∧ RBs h vs ll
 | _, _ => False
theorem RBs.at {h : Heap} : ∀ {vs : List Value} {ll : List Bytes}, RBs h vs ll → vs.length = ll.length ∧ ∀ (k : Nat) x l, vs[k]? = some x → ll[k]? = some l → RB h x l
 | [], [], _ => ⟨rfl, fun k x l hx _ => by simp at hx⟩
 | v :: vs, l :: ll, r => by
  obtain ⟨h1, h2⟩ := RBs.at r.2
  refine ⟨by simp [h1], fun k x m hx hm => ?_⟩
  cases k with
  | zero => simp at hx hm; subst hx hm; exact r.1
  | succ k => simp at hx hm; exact h2 k x m hx hm
theorem RBs.ext {h h' : Heap} (hx : Ext h h') : ∀ {vs : List Value} {ll : List Bytes}, RBs h vs ll → RBs h' vs ll
 | [], [], _ => trivial
 | _ :: _, _ :: _, r => ⟨r.1.ext hx, RBs.ext hx r.2⟩
theorem RBs.ones {h : Heap} : ∀ {vs : List Value} {ll : List Bytes}, RBs h vs ll → ∀ v ∈ vs, oneB v = true
 | [], [], _, v, hv => by cases hv
 | w :: vs, l :: ll, r, v, hv => by
  rcases List.mem_cons.1 hv with rfl | hv
  ·
   exact r.1.one.1
  ·
   exact RBs.ones r.2 v hv
end Go.Proofs.YtigmojilaadbhaaGreatDoor

/-
 Scripts: the document's own: has a script much, has an act, a command?
-/
namespace Go.Proofs.YtigmojilaadbhaaGreatDoor
open Go Go.Eng Go.Pln Go.Lib
attribute [local irreducible] AWp AL DAL AOp TAL

instance i_muchE : FnC Tryz.prog 85 := ⟨Tryz.f85, Tryz.func85, by kernel_rfl, by kernel_rfl⟩
instance i_longC : FnC Tryz.prog 38 := ⟨Tryz.f38, Tryz.func38, by kernel_rfl, by kernel_rfl⟩
instance i_longQ : FnC Tryz.prog 39 := ⟨Tryz.f39, Tryz.func39, by kernel_rfl, by kernel_rfl⟩
instance i_longA : FnC Tryz.prog 14 := ⟨Tryz.f14, Tryz.func14, by kernel_rfl, by kernel_rfl⟩
instance i_muchS : FnC Tryz.prog 13 := ⟨Tryz.f13, Tryz.func13, by kernel_rfl, by kernel_rfl⟩
set_option maxHeartbeats 4000000 in
theorem muchE_c (u : Value) (l : List EntM) (most : Int) (h : Heap) (r : RE h u l) : ACalls Tryz.prog 85 [u, .int .i64 most] h fun x h' => (∃ b, x = .bool b) ∧ h' = h := by
 refine ACalls.body Tryz.func85 rfl rfl ?_
 obtain ⟨ro, s1, s2, s3⟩ := r.ex
 have hlen := r.len
 obtain ⟨ua, uc, hu⟩ := s1.slice
 repeat (first | refine AL.nil ?_ | refine AWp.seq ?_ | refine AWp.r9 ?_ | refine AWp.b9 ?_ | refine AL.set rfl rfl (qaf rfl ?_) | refine AL.set rfl rfl (qaa rfl ?_))
 refine AWp.loop (α := Nat × Int) (fun d => [(0, u), (1, .int .i64 most), (5, .int .i64 d.2), (6, .int .i64 (d.1 : Nat))]) (fun _ => h) (fun d => d.1 ≤ l.length) (fun d => l.length - d.1) (0, 0) (Nat.zero_le _) (Weak.same (EW.cons rfl (EW.cons rfl (EW.cons rfl (EW.cons rfl EW.nil))))) ?_
 rintro ⟨k, n⟩ hk
 replace hk : k ≤ l.length := hk
 show AWp _ _ _ _ [(0, u), (1, .int .i64 most), (5, .int .i64 n), (6, .int .i64 (k : Nat))] h
 by_cases hlt : k < l.length
 ·
  obtain ⟨e, hle⟩ : ∃ e, l[k]? = some e := ⟨_, List.getElem?_eq_getElem hlt⟩
  obtain ⟨row, hrow⟩ : ∃ row, ro[k]? = some row := ⟨_, List.getElem?_eq_getElem (by omega)⟩
  obtain ⟨k1, v1, rfl, b1, b2⟩ := s3 _ _ _ hrow hle
  have hrw : ro[((k : Nat) : Int).toNat]? = some (entC k1 v1 e) := hrow
  have pe := s1.elt hrw
  by_cases hm : n ≤ most
  ·
   repeat (first | refine AL.nil ?_ | refine AWp.seq ?_ | refine AWp.r9 ?_ | refine AWp.c8 rfl ?_ | refine AWp.b9 ?_ | refine AWp.k9 ?_ | refine AL.set rfl rfl (qab rfl ?_) | refine AL.set rfl rfl (qae rfl ?_) | refine AL.set rfl rfl (qal (v := u) rfl ?_) | refine AL.set rfl rfl (qav s1 rfl ?_) | refine AL.set rfl rfl (qai rfl rfl rfl (by omega) ?_) | refine AL.set rfl rfl (qag (v := .bool _) rfl rfl ?_))
   refine AWp.drawR mixed (by kernel_rfl) ?_
   repeat (first | refine DAL.r rfl rfl rfl (fun h' hx hn => qab rfl ⟨rfl, rfl⟩) ?_ | refine DAL.r rfl rfl rfl (fun h' hx hn => qaf rfl ⟨rfl, rfl⟩) ?_ | refine DAL.r rfl rfl rfl (fun h' hx hn => qal (v := u) rfl ⟨rfl, rfl⟩) ?_ | refine DAL.r rfl rfl rfl (fun h' hx hn => qaz (s1.ext hx) rfl rfl (by omega) hrw ⟨rfl, rfl⟩) ?_ | refine DAL.r rfl rfl rfl (fun h' hx hn => qcC (pe.ext hx) rfl ⟨rfl, rfl⟩) ?_ | refine DAL.r rfl rfl rfl (fun h' hx hn => qbw (pe.ext hx) rfl rfl rfl ⟨rfl, rfl⟩) ?_ | refine DAL.r rfl rfl rfl (fun h' hx hn => qaG (b1.ext hx) rfl ⟨rfl, rfl⟩) ?_ | refine DAL.r rfl rfl rfl (fun h' hx hn => qaG (b2.ext hx) rfl ⟨rfl, rfl⟩) ?_ | refine DAL.r rfl rfl rfl (fun h' hx hn => qdI rfl rfl ⟨rfl, rfl⟩) ?_ | refine DAL.r rfl rfl rfl (fun h' hx hn => qa2 rfl rfl rfl ⟨rfl, rfl⟩) ?_)
   refine DAL.nil ?_
   repeat (first | refine AL.nil ?_ | refine AWp.r9 ?_ | refine AL.set rfl rfl (qab rfl ?_) | refine AL.set rfl rfl (qaf rfl ?_) | refine AL.set rfl rfl (qax rfl rfl (by omega) ?_))
   exact ⟨(k + 1, _), hlt, by show l.length - (k + 1) < l.length - k; omega, Weak.same (EW.cons rfl (EW.cons rfl (EW.cons rfl (EW.cons rfl EW.nil))))⟩
  ·
   repeat' (first | refine AL.nil ?_ | refine AWp.seq ?_ | refine AWp.r9 ?_ | refine AWp.c9 rfl ?_ | refine AWp.ret ?_ | refine AWp.exit ?_ | refine AL.set rfl rfl (qab rfl ?_) | refine AL.set rfl rfl (qae rfl ?_) | refine AL.set rfl rfl (qaa rfl ?_) | refine AL.set rfl rfl (qal (v := u) rfl ?_) | refine AL.set rfl rfl (qav s1 rfl ?_) | refine AL.set rfl rfl (qai rfl rfl rfl (by omega) ?_) | refine AL.set rfl rfl (qaj rfl rfl rfl (by omega) ?_) | refine AL.set rfl rfl (qag (v := .bool _) rfl rfl ?_))
   exact ⟨_, ResV.tmp rfl, ⟨_, rfl⟩, rfl⟩
 ·
  repeat' (first | refine AL.nil ?_ | refine AL.skip rfl rfl ?_ | refine AWp.seq ?_ | refine AWp.r9 ?_ | refine AWp.c9 rfl ?_ | refine AWp.ret ?_ | refine AWp.exit ?_ | refine AL.set rfl rfl (qab rfl ?_) | refine AL.set rfl rfl (qae rfl ?_) | refine AL.set rfl rfl (qaa rfl ?_) | refine AL.set rfl rfl (qal (v := u) rfl ?_) | refine AL.set rfl rfl (qav s1 rfl ?_) | refine AL.set rfl rfl (qaj rfl rfl rfl (by omega) ?_) | refine AL.set rfl rfl (qag (v := .bool _) rfl rfl ?_) | refine AL.set rfl rfl (qaJ rfl rfl rfl (fun c => ?_) (fun c => ?_)))
  all_goals exact ⟨_, ResV.tmp rfl, ⟨_, rfl⟩, rfl⟩
theorem at8 {h : Heap} {vs : List Value} {ll : List Bytes} (q : RBs h vs ll) {k : Nat} (hk : k < vs.length) : ∃ x l, vs[k]? = some x ∧ RB h x l := by
 obtain ⟨h1, h2⟩ := q.at
 obtain ⟨x, hx⟩ : ∃ x, vs[k]? = some x := ⟨_, List.getElem?_eq_getElem hk⟩
 obtain ⟨l, hl⟩ : ∃ l, ll[k]? = some l := ⟨_, List.getElem?_eq_getElem (by omega)⟩
 exact ⟨x, l, hx, h2 k x l hx hl⟩
set_option maxHeartbeats 4000000 in
theorem longC_c (p : CmdV) (m : CmdM) (most : Int) (h : Heap) (r : CmdR h p m) : ACalls Tryz.prog 38 [.agg (cmdC p m).toArray, .int .i64 most] h fun x h' => (∃ b, x = .bool b) ∧ h' = h := by
 refine ACalls.wf fun wf => ACalls.reset ?_
 refine ACalls.body Tryz.func38 rfl rfl ?_
 repeat (first | refine AL.nil ?_ | refine AWp.seq ?_ | refine AWp.r9 ?_ | refine AL.set rfl rfl (qaa rfl ?_) | refine AL.set rfl rfl (qaI rfl (by intro e; cases e) ?_))
 generalize hH : h.alloc _ = H
 have hg : H.get h.next = some ⟨cmdC p m, 37, true⟩ := hH ▸ Heap.alloc_new _ _
 have xh : Ext h H := hH ▸ wf.ext _
 have wfH : WF H := hH ▸ wf.alloc _
 clear hH
 refine AWp.cutI (α := Nat × Nat × Heap) (fun d => [(1, .int .i64 most), (2, ptr h.next), (5, ptr d.1), (6, ptr d.2.1)]) (fun d => d.2.2) (fun d => Ext H d.2.2 ∧ WF d.2.2 ∧ d.2.2.get d.1 = some ⟨askC p.r m.req.ask, 29, true⟩ ∧ d.2.2.get d.2.1 = some ⟨moveC p.m m.move, 34, true⟩) ?_ ?_
 ·
  have ra := r.ext xh
  have n0 := wfH.lt hg
  refine AWp.treeJ (fun H => H.get h.next = some ⟨cmdC p m, 37, true⟩) (fun _ _ a b => b.c _ _ a) (t := OT.seq [(0, .R), (1, .R), (2, .R), (3, .P), (4, .S)] (.alt (OT.seq [(5, .X), (6, .X), (7, .W), (8, .W)] .nil) (OT.seq [(6, .X), (5, .X), (7, .W), (8, .W)] .nil))) mixed (by kernel_rfl) hg ?_
  repeat (first | refine TAL.r rfl rfl rfl (fun h' hx hn => qao rfl ⟨rfl, rfl⟩) ?_ | refine TAL.r rfl rfl rfl (fun h' hx hn => qah (sz := 7) rfl rfl (hx.c _ _ hg) (Nat.le_of_ble_eq_true rfl) ⟨rfl, rfl⟩) ?_ | refine TAL.p rfl rfl rfl (fun h' hn => qao rfl ⟨rfl, rfl⟩) ?_ | refine TAL.s rfl rfl rfl (fun h' hn hx => qah (sz := 6) rfl rfl hx (Nat.le_of_ble_eq_true rfl) ⟨rfl, rfl⟩) ?_)
  refine TAL.two ?_ ?_
  ·
   refine TAL.x rfl rfl rfl (qas ⟨wfH.ext _, ?_⟩)
   have g5 := Heap.alloc_new H ⟨(askC askV0 ask0), 29, true⟩
   have x1 := wfH.ext ⟨(askC askV0 ask0), 29, true⟩
   have w1 := wfH.alloc ⟨(askC askV0 ask0), 29, true⟩
   have n1 : (H.alloc ⟨(askC askV0 ask0), 29, true⟩).next = H.next + 1 := rfl
   refine TAL.heap (h := H.alloc ⟨(askC askV0 ask0), 29, true⟩) rfl ?_
   generalize H.alloc ⟨(askC askV0 ask0), 29, true⟩ = H1 at g5 x1 w1 n1 ⊢
   refine TAL.x rfl rfl rfl (qas ⟨w1.ext _, ?_⟩)
   have g6 := Heap.alloc_new H1 ⟨(moveC ⟨.slice none 0 0, .slice none 0 0⟩ ⟨0, [], [], false, 0, 0⟩), 34, true⟩
   have x2 := w1.ext ⟨(moveC ⟨.slice none 0 0, .slice none 0 0⟩ ⟨0, [], [], false, 0, 0⟩), 34, true⟩
   have w2 := w1.alloc ⟨(moveC ⟨.slice none 0 0, .slice none 0 0⟩ ⟨0, [], [], false, 0, 0⟩), 34, true⟩
   refine TAL.heap (h := H1.alloc ⟨(moveC ⟨.slice none 0 0, .slice none 0 0⟩ ⟨0, [], [], false, 0, 0⟩), 34, true⟩) rfl ?_
   generalize H1.alloc ⟨(moveC ⟨.slice none 0 0, .slice none 0 0⟩ ⟨0, [], [], false, 0, 0⟩), 34, true⟩ = H2 at g6 x2 w2 ⊢
   replace g5 := x2.c _ _ g5
   have xx := x1.trans x2
   refine TAL.wj0 rfl rfl (qap (vs := askC p.r m.req.ask) rfl rfl rfl (qbF ra.r) g5 rfl ⟨(Heap.set_other (by omega)).trans (xx.c _ _ hg), ?_⟩)
   have g6' : (H2.set H.next ⟨askC p.r m.req.ask, 29, true⟩).get H1.next = some ⟨moveC ⟨.slice none 0 0, .slice none 0 0⟩ ⟨0, [], [], false, 0, 0⟩, 34, true⟩ := (Heap.set_other (by omega)).trans g6
   have x3 := wfH.ext_set xx (show H.next ≤ H.next by omega) ⟨askC p.r m.req.ask, 29, true⟩
   have w3 := w2.set (w2.lt g5) ⟨askC p.r m.req.ask, 29, true⟩
   have g5' : (H2.set H.next ⟨askC p.r m.req.ask, 29, true⟩).get H.next = some ⟨askC p.r m.req.ask, 29, true⟩ := Heap.set_at _ _ _
   generalize H2.set H.next ⟨askC p.r m.req.ask, 29, true⟩ = H3 at g6' x3 w3 g5' ⊢
   refine TAL.wj0 rfl rfl (qap (vs := moveC p.m m.move) rfl rfl rfl (qbY ra.m) g6' rfl ⟨(Heap.set_other (by omega)).trans (x3.c _ _ hg), ?_⟩)
   refine TAL.nil ?_
   exact ⟨(H.next, H1.next, H3.set H1.next ⟨moveC p.m m.move, 34, true⟩), ⟨wfH.ext_set x3 (by omega) _, w3.set (w3.lt g6') _, (Heap.set_other (by omega)).trans g5', Heap.set_at _ _ _⟩, Weak.same (EW.cons rfl (EW.cons rfl (EW.cons rfl (EW.cons rfl EW.nil))))⟩
  ·
   refine TAL.x rfl rfl rfl (qas ⟨wfH.ext _, ?_⟩)
   have g6 := Heap.alloc_new H ⟨(moveC ⟨.slice none 0 0, .slice none 0 0⟩ ⟨0, [], [], false, 0, 0⟩), 34, true⟩
   have x1 := wfH.ext ⟨(moveC ⟨.slice none 0 0, .slice none 0 0⟩ ⟨0, [], [], false, 0, 0⟩), 34, true⟩
   have w1 := wfH.alloc ⟨(moveC ⟨.slice none 0 0, .slice none 0 0⟩ ⟨0, [], [], false, 0, 0⟩), 34, true⟩
   have n1 : (H.alloc ⟨(moveC ⟨.slice none 0 0, .slice none 0 0⟩ ⟨0, [], [], false, 0, 0⟩), 34, true⟩).next = H.next + 1 := rfl
   refine TAL.heap (h := H.alloc ⟨(moveC ⟨.slice none 0 0, .slice none 0 0⟩ ⟨0, [], [], false, 0, 0⟩), 34, true⟩) rfl ?_
   generalize H.alloc ⟨(moveC ⟨.slice none 0 0, .slice none 0 0⟩ ⟨0, [], [], false, 0, 0⟩), 34, true⟩ = H1 at g6 x1 w1 n1 ⊢
   refine TAL.x rfl rfl rfl (qas ⟨w1.ext _, ?_⟩)
   have g5 := Heap.alloc_new H1 ⟨(askC askV0 ask0), 29, true⟩
   have x2 := w1.ext ⟨(askC askV0 ask0), 29, true⟩
   have w2 := w1.alloc ⟨(askC askV0 ask0), 29, true⟩
   refine TAL.heap (h := H1.alloc ⟨(askC askV0 ask0), 29, true⟩) rfl ?_
   generalize H1.alloc ⟨(askC askV0 ask0), 29, true⟩ = H2 at g5 x2 w2 ⊢
   replace g6 := x2.c _ _ g6
   have xx := x1.trans x2
   refine TAL.wj0 rfl rfl (qap (vs := askC p.r m.req.ask) rfl rfl rfl (qbF ra.r) g5 rfl ⟨(Heap.set_other (by omega)).trans (xx.c _ _ hg), ?_⟩)
   have g6' : (H2.set H1.next ⟨askC p.r m.req.ask, 29, true⟩).get H.next = some ⟨moveC ⟨.slice none 0 0, .slice none 0 0⟩ ⟨0, [], [], false, 0, 0⟩, 34, true⟩ := (Heap.set_other (by omega)).trans g6
   have x3 := wfH.ext_set xx (show H.next ≤ H1.next by omega) ⟨askC p.r m.req.ask, 29, true⟩
   have w3 := w2.set (w2.lt g5) ⟨askC p.r m.req.ask, 29, true⟩
   have g5' : (H2.set H1.next ⟨askC p.r m.req.ask, 29, true⟩).get H1.next = some ⟨askC p.r m.req.ask, 29, true⟩ := Heap.set_at _ _ _
   generalize H2.set H1.next ⟨askC p.r m.req.ask, 29, true⟩ = H3 at g6' x3 w3 g5' ⊢
   refine TAL.wj0 rfl rfl (qap (vs := moveC p.m m.move) rfl rfl rfl (qbY ra.m) g6' rfl ⟨(Heap.set_other (by omega)).trans (x3.c _ _ hg), ?_⟩)
   refine TAL.nil ?_
   exact ⟨(H1.next, H.next, H3.set H.next ⟨moveC p.m m.move, 34, true⟩), ⟨wfH.ext_set x3 (by omega) _, w3.set (w3.lt g6') _, (Heap.set_other (by omega)).trans g5', Heap.set_at _ _ _⟩, Weak.same (EW.cons rfl (EW.cons rfl (EW.cons rfl (EW.cons rfl EW.nil))))⟩
 ·
  rintro ⟨j5, j6, G⟩ ⟨x2, w2, g5, g6⟩
  replace x2 : Ext H G := x2
  replace w2 : WF G := w2
  replace g5 : G.get j5 = some ⟨askC p.r m.req.ask, 29, true⟩ := g5
  replace g6 : G.get j6 = some ⟨moveC p.m m.move, 34, true⟩ := g6
  show AWp _ _ _ _ [(1, .int .i64 most), (2, ptr h.next), (5, ptr j5), (6, ptr j6)] G
  have hg2 := x2.c _ _ hg
  obtain ⟨rr, rm, re, rn, rk⟩ := r.ext (xh.trans x2)
  have q : RBs G [p.r.k, p.r.t, p.r.v, p.r.w, p.m.f, p.m.t, p.n, p.k] [m.req.ask.key, m.req.ask.to, m.req.ask.value, m.req.ask.was, m.move.from_, m.move.to, m.answers, m.key] := ⟨rr.k, rr.t, rr.v, rr.w, rm.f, rm.t, rn, rk, trivial⟩
  repeat (first | refine AL.nil ?_ | refine AWp.seq ?_ | refine AWp.r9 ?_ | refine AWp.b9 ?_ | refine AL.set rfl rfl (qaf rfl ?_) | refine AL.set rfl rfl (qbj rfl ?_) | refine AL.set rfl rfl (qao rfl ?_) | refine AL.set rfl rfl (qad rfl rfl g5 rfl ?_) | refine AL.set rfl rfl (qad rfl rfl g6 rfl ?_) | refine AL.set rfl rfl (qad rfl rfl hg2 rfl ?_) | refine AL.set rfl rfl (qa5 [p.r.k, p.r.t, p.r.v, p.r.w, p.m.f, p.m.t, p.n, p.k] rfl rfl rfl rfl q.ones ?_))
  have g8 := Heap.alloc_new G ⟨[p.r.k, p.r.t, p.r.v, p.r.w, p.m.f, p.m.t, p.n, p.k], 27, true⟩
  have x3 := w2.ext ⟨[p.r.k, p.r.t, p.r.v, p.r.w, p.m.f, p.m.t, p.n, p.k], 27, true⟩
  generalize G.alloc ⟨[p.r.k, p.r.t, p.r.v, p.r.w, p.m.f, p.m.t, p.n, p.k], 27, true⟩ = G3 at g8 x3 ⊢
  replace q := q.ext x3
  have hg3 := x3.c _ _ hg2
  have rs : RS G3 (.slice (some ⟨G.next, 0, some 1⟩) 8 8) [p.r.k, p.r.t, p.r.v, p.r.w, p.m.f, p.m.t, p.n, p.k] := RS.own g8 rfl
  have hvl : [p.r.k, p.r.t, p.r.v, p.r.w, p.m.f, p.m.t, p.n, p.k].length = 8 := rfl
  generalize [p.r.k, p.r.t, p.r.v, p.r.w, p.m.f, p.m.t, p.n, p.k] = vs at q rs hvl
  skip
  refine AWp.loop (α := Nat × Int) (fun d => [(1, .int .i64 most), (2, ptr h.next), (7, .int .i64 d.2), (8, .slice (some ⟨G.next, 0, some 1⟩) 8 8), (9, .int .i64 (d.1 : Nat))]) (fun _ => G3) (fun d => d.1 ≤ 8) (fun d => 8 - d.1) (0, 0) (Nat.zero_le _) (Weak.same (EW.cons rfl (EW.cons rfl (EW.cons rfl (EW.cons rfl (EW.cons rfl EW.nil)))))) ?_
  rintro ⟨k, n⟩ hk
  replace hk : k ≤ 8 := hk
  show AWp _ _ _ _ [(1, .int .i64 most), (2, ptr h.next), (7, .int .i64 n), (8, .slice (some ⟨G.next, 0, some 1⟩) 8 8), (9, .int .i64 (k : Nat))] G3
  by_cases hlt : k < 8
  ·
   obtain ⟨x, l, hx, rx⟩ := at8 q (show k < vs.length by omega)
   have hx2 : vs[((k : Nat) : Int).toNat]? = some x := hx
   repeat (first | refine AL.nil ?_ | refine AWp.seq ?_ | refine AWp.r9 ?_ | refine AWp.c8 rfl ?_ | refine AWp.b9 ?_ | refine AWp.k9 ?_ | refine AL.set rfl rfl (qab rfl ?_) | refine AL.set rfl rfl (qb1 rfl ?_) | refine AL.set rfl rfl (qaf rfl ?_) | refine AL.set rfl rfl (qbK rfl ?_) | refine AL.set rfl rfl (qai rfl rfl rfl (by omega) ?_) | refine AL.set rfl rfl (qaM rs rfl rfl (by omega) hx2 fun _ => ?_) | refine AL.set rfl rfl (qaw (PT.of rs hx2) rfl rfl ?_) | refine AL.set rfl rfl (qaG rx rfl ?_) | refine AL.set rfl rfl (qdI rfl rfl ?_) | refine AL.set rfl rfl (qax rfl rfl (by omega) ?_) | refine AL.set rfl rfl (qa2 rfl rfl rfl ?_))
   exact ⟨(k + 1, _), hlt, by show 8 - (k + 1) < 8 - k; omega, Weak.same (EW.cons rfl (EW.cons rfl (EW.cons rfl (EW.cons rfl (EW.cons rfl EW.nil)))))⟩
  ·
   have ce := muchE_c p.e m.entries most G3 (re.ext x3)
   have xx := xh.trans (x2.trans x3)
   by_cases hm : most < n
   ·
    repeat (first | refine AL.nil ?_ | refine AL.skip rfl rfl ?_ | refine AWp.seq ?_ | refine AWp.r9 ?_ | refine AWp.c9 rfl ?_ | refine AWp.ret ?_ | refine AWp.exit ?_ | refine AL.set rfl rfl (qab rfl ?_) | refine AL.set rfl rfl (qb1 rfl ?_) | refine AL.set rfl rfl (qae rfl ?_) | refine AL.set rfl rfl (qaa rfl ?_) | refine AL.set rfl rfl (qbK rfl ?_) | refine AL.set rfl rfl (qai rfl rfl rfl (by omega) ?_) | refine AL.set rfl rfl (qaj rfl rfl rfl (by omega) ?_) | refine AL.set rfl rfl (qag (v := .bool _) rfl rfl ?_))
    exact ⟨_, ResV.tmp rfl, rfl, xx, ⟨_, rfl⟩, rfl⟩
   ·
    repeat (first | refine AL.nil ?_ | refine AWp.seq ?_ | refine AWp.r9 ?_ | refine AWp.c9 rfl ?_ | refine AWp.exit ?_ | refine AL.set rfl rfl (qab rfl ?_) | refine AL.set rfl rfl (qb1 rfl ?_) | refine AL.set rfl rfl (qae rfl ?_) | refine AL.set rfl rfl (qbK rfl ?_) | refine AL.set rfl rfl (qaj rfl rfl rfl (by omega) ?_) | refine AL.set rfl rfl (qao rfl ?_) | refine AL.set rfl rfl (qad rfl rfl hg3 rfl ?_))
    refine AL.set rfl rfl (qaq rfl rfl (ce.mono ?_))
    rintro _ G4 ⟨⟨b, rfl⟩, hG4⟩
    cases hG4.symm
    cases b
    ·
     repeat (first | refine AL.nil ?_ | refine AWp.ret ?_ | refine AL.set rfl rfl (qaa rfl ?_) | refine AL.set rfl rfl (qag (v := .bool _) rfl rfl ?_))
     exact ⟨_, ResV.tmp rfl, rfl, xx, ⟨_, rfl⟩, rfl⟩
    ·
     repeat (first | refine AL.nil ?_ | refine AWp.ret ?_ | refine AL.set rfl rfl (qaa rfl ?_) | refine AL.set rfl rfl (qag (v := .bool _) rfl rfl ?_))
     exact ⟨_, ResV.tmp rfl, rfl, xx, ⟨_, rfl⟩, rfl⟩
set_option maxHeartbeats 1000000 in
theorem longQ_c (p : AskV) (a : AskM) (most : Int) (h : Heap) (r : AskR h p a) : ACalls Tryz.prog 39 [.agg (askC p a).toArray, .int .i64 most] h fun x h' => (∃ b, x = .bool b) ∧ h' = h := by
 refine ACalls.wf fun wf => ACalls.reset ?_
 refine ACalls.body Tryz.func39 rfl rfl ?_
 repeat (first | refine AL.nil ?_ | refine AWp.seq ?_ | refine AWp.r9 ?_ | refine AL.set rfl rfl (qaa rfl ?_) | refine AL.set rfl rfl (qaI rfl (by intro e; cases e) ?_))
 generalize hH : h.alloc _ = H
 have hg : H.get h.next = some ⟨askC p a, 29, true⟩ := hH ▸ Heap.alloc_new _ _
 have xh : Ext h H := hH ▸ wf.ext _
 have wfH : WF H := hH ▸ wf.alloc _
 clear hH
 have rH := r.ext xh
 have rc : CmdR H { cmdV0 with r := p } { cmd0 with req := ⟨0, 0, a⟩ } := ⟨rH, (CmdR.nil H).m, RE.nil H, RB.nil H, RB.nil H⟩
 have cl := longC_c { cmdV0 with r := p } { cmd0 with req := ⟨0, 0, a⟩ } most H rc
 repeat (first | refine AL.set rfl rfl (qab rfl ?_) | refine AL.set rfl rfl (qah (sz := 7) rfl rfl hg (Nat.le_refl _) ?_) | refine AL.set rfl rfl (qau (out := reqC p ⟨0, 0, a⟩) rfl rfl ?_) | refine AL.set rfl rfl (qau (out := cmdC { cmdV0 with r := p } { cmd0 with req := ⟨0, 0, a⟩ }) rfl rfl ?_))
 refine AL.set rfl rfl (qaq rfl rfl (cl.mono ?_))
 rintro _ G4 ⟨⟨b, rfl⟩, hG4⟩
 cases hG4.symm
 repeat (first | refine AL.nil ?_ | refine AWp.ret ?_ | refine AL.set rfl rfl (qaa rfl ?_))
 exact ⟨_, ResV.tmp rfl, rfl, xh, ⟨_, rfl⟩, rfl⟩
set_option maxHeartbeats 4000000 in
theorem longA_c (p : ActV) (a : ActM) (most : Int) (h : Heap) (r : ActR h p a) : ACalls Tryz.prog 14 [.agg (actC p a).toArray, .int .i64 most] h fun x h' => (∃ b, x = .bool b) ∧ h' = h := by
 refine ACalls.wf fun wf => ACalls.reset ?_
 refine ACalls.body Tryz.func14 rfl rfl ?_
 repeat (first | refine AL.nil ?_ | refine AWp.seq ?_ | refine AWp.r9 ?_ | refine AL.set rfl rfl (qaa rfl ?_) | refine AL.set rfl rfl (qaI rfl (by intro e; cases e) ?_))
 generalize hH : h.alloc _ = H
 have hg : H.get h.next = some ⟨actC p a, 40, true⟩ := hH ▸ Heap.alloc_new _ _
 have xh : Ext h H := hH ▸ wf.ext _
 have wfH : WF H := hH ▸ wf.alloc _
 clear hH
 obtain ⟨ra, rc, rk⟩ := r.ext xh
 have rn := rk.rn
 have hkl := rk.len
 have hml : (a.keep.map keptR).length = a.keep.length := List.length_map _
 repeat (first | refine AL.nil ?_ | refine AWp.seq ?_ | refine AWp.r9 ?_ | refine AWp.b9 ?_ | refine AL.set rfl rfl (qaf rfl ?_) | refine AL.set rfl rfl (qao rfl ?_) | refine AL.set rfl rfl (qad rfl rfl hg rfl ?_) | refine AL.set rfl rfl (qav rn rfl ?_))
 refine AWp.loop (α := Nat × Int) (fun d => [(1, .int .i64 most), (2, ptr h.next), (5, .int .i64 d.2), (6, .int .i64 (d.1 : Nat))]) (fun _ => H) (fun d => d.1 ≤ a.keep.length) (fun d => a.keep.length - d.1) (0, _) (Nat.zero_le _) (Weak.same (EW.cons rfl (EW.cons rfl (EW.cons rfl (EW.cons rfl EW.nil))))) ?_
 rintro ⟨k, n⟩ hk
 replace hk : k ≤ a.keep.length := hk
 show AWp _ _ _ _ [(1, .int .i64 most), (2, ptr h.next), (5, .int .i64 n), (6, .int .i64 (k : Nat))] H
 have cc := longC_c p.c a.cmd most H rc
 have cq := longQ_c p.q a.ask most H ra
 by_cases hcond : k < a.keep.length ∧ n ≤ most
 ·
  obtain ⟨hlt, hm⟩ := hcond
  obtain ⟨x, hxl⟩ : ∃ x, a.keep[k]? = some x := ⟨_, List.getElem?_eq_getElem hlt⟩
  have hx2 : (a.keep.map keptR)[((k : Nat) : Int).toNat]? = some (keptR x) := by simp [hxl]
  have px := rn.elt hx2
  repeat (first | refine AL.nil ?_ | refine AWp.seq ?_ | refine AWp.r9 ?_ | refine AWp.c8 rfl ?_ | refine AWp.b9 ?_ | refine AWp.k9 ?_ | refine AL.set rfl rfl (qab rfl ?_) | refine AL.set rfl rfl (qae rfl ?_) | refine AL.set rfl rfl (qaf rfl ?_) | refine AL.set rfl rfl (qao rfl ?_) | refine AL.set rfl rfl (qad rfl rfl hg rfl ?_) | refine AL.set rfl rfl (qav rn rfl ?_) | refine AL.set rfl rfl (qai rfl rfl rfl (by omega) ?_) | refine AL.set rfl rfl (qag (v := .bool _) rfl rfl ?_) | refine AL.set rfl rfl (qaz rn rfl rfl (by omega) hx2 ?_) | refine AL.set rfl rfl (qcC px rfl ?_) | refine AL.set rfl rfl (qbw px rfl rfl rfl ?_) | refine AL.set rfl rfl (qaZ rfl ?_) | refine AL.set rfl rfl (qdI rfl rfl ?_) | refine AL.set rfl rfl (qax rfl rfl (by omega) ?_) | refine AL.set rfl rfl (qa2 rfl rfl rfl ?_))
  exact ⟨(k + 1, _), hlt, by show a.keep.length - (k + 1) < a.keep.length - k; omega, Weak.same (EW.cons rfl (EW.cons rfl (EW.cons rfl (EW.cons rfl EW.nil))))⟩
 ·
  by_cases hlt : k < a.keep.length
  ·
   repeat (first | refine AL.nil ?_ | refine AL.skip rfl rfl ?_ | refine AWp.seq ?_ | refine AWp.r9 ?_ | refine AWp.c9 rfl ?_ | refine AWp.ret ?_ | refine AWp.exit ?_ | refine AL.set rfl rfl (qab rfl ?_) | refine AL.set rfl rfl (qae rfl ?_) | refine AL.set rfl rfl (qaa rfl ?_) | refine AL.set rfl rfl (qao rfl ?_) | refine AL.set rfl rfl (qad rfl rfl hg rfl ?_) | refine AL.set rfl rfl (qav rn rfl ?_) | refine AL.set rfl rfl (qai rfl rfl rfl (by omega) ?_) | refine AL.set rfl rfl (qaj rfl rfl rfl (by omega) ?_) | refine AL.set rfl rfl (qag (v := .bool _) rfl rfl ?_))
   exact ⟨_, ResV.tmp rfl, rfl, xh, ⟨_, rfl⟩, rfl⟩
  ·
   by_cases hm : most < n
   ·
    repeat (first | refine AL.nil ?_ | refine AL.skip rfl rfl ?_ | refine AWp.seq ?_ | refine AWp.r9 ?_ | refine AWp.c9 rfl ?_ | refine AWp.ret ?_ | refine AWp.exit ?_ | refine AL.set rfl rfl (qab rfl ?_) | refine AL.set rfl rfl (qae rfl ?_) | refine AL.set rfl rfl (qaa rfl ?_) | refine AL.set rfl rfl (qao rfl ?_) | refine AL.set rfl rfl (qad rfl rfl hg rfl ?_) | refine AL.set rfl rfl (qav rn rfl ?_) | refine AL.set rfl rfl (qai rfl rfl rfl (by omega) ?_) | refine AL.set rfl rfl (qaj rfl rfl rfl (by omega) ?_) | refine AL.set rfl rfl (qag (v := .bool _) rfl rfl ?_))
    exact ⟨_, ResV.tmp rfl, rfl, xh, ⟨_, rfl⟩, rfl⟩
   ·
    repeat (first | refine AL.nil ?_ | refine AL.skip rfl rfl ?_ | refine AWp.seq ?_ | refine AWp.r9 ?_ | refine AWp.c9 rfl ?_ | refine AWp.exit ?_ | refine AL.set rfl rfl (qab rfl ?_) | refine AL.set rfl rfl (qae rfl ?_) | refine AL.set rfl rfl (qao rfl ?_) | refine AL.set rfl rfl (qad rfl rfl hg rfl ?_) | refine AL.set rfl rfl (qav rn rfl ?_) | refine AL.set rfl rfl (qaj rfl rfl rfl (by omega) ?_) | refine AL.set rfl rfl (qag (v := .bool _) rfl rfl ?_) | refine AL.set rfl rfl (qah (sz := 20) rfl rfl hg (Nat.le_of_ble_eq_true rfl) ?_))
    refine AL.set rfl rfl (qaq rfl rfl (cc.mono ?_))
    rintro _ G4 ⟨⟨b, rfl⟩, hG4⟩
    cases hG4.symm
    cases b
    ·
     repeat (first | refine AL.set rfl rfl (qab rfl ?_) | refine AL.set rfl rfl (qae rfl ?_) | refine AL.set rfl rfl (qag (v := .bool _) rfl rfl ?_) | refine AL.set rfl rfl (qao rfl ?_) | refine AL.set rfl rfl (qah (sz := 7) rfl rfl hg (Nat.le_of_ble_eq_true rfl) ?_))
     refine AL.set rfl rfl (qaq rfl rfl (cq.mono ?_))
     rintro _ G4 ⟨⟨b, rfl⟩, hG4⟩
     cases hG4.symm
     cases b
     ·
      repeat (first | refine AL.nil ?_ | refine AWp.ret ?_ | refine AL.set rfl rfl (qaa rfl ?_) | refine AL.set rfl rfl (qag (v := .bool _) rfl rfl ?_))
      exact ⟨_, ResV.tmp rfl, rfl, xh, ⟨_, rfl⟩, rfl⟩
     ·
      repeat (first | refine AL.nil ?_ | refine AWp.ret ?_ | refine AL.set rfl rfl (qaa rfl ?_) | refine AL.set rfl rfl (qag (v := .bool _) rfl rfl ?_))
      exact ⟨_, ResV.tmp rfl, rfl, xh, ⟨_, rfl⟩, rfl⟩
    ·
     repeat (first | refine AL.nil ?_ | refine AL.skip rfl rfl ?_ | refine AWp.ret ?_ | refine AL.set rfl rfl (qae rfl ?_) | refine AL.set rfl rfl (qaa rfl ?_) | refine AL.set rfl rfl (qag (v := .bool _) rfl rfl ?_))
     exact ⟨_, ResV.tmp rfl, rfl, xh, ⟨_, rfl⟩, rfl⟩
set_option maxHeartbeats 4000000 in
theorem muchS_c (s : ScrM) (vg va : Value) (most : Int) (h : Heap) (rg : RG h vg s.setup.groups) (r : RA h va s.acts) : ACalls Tryz.prog 13 [.agg (scrC vg va s.setup).toArray, .int .i64 most] h fun x h' => (∃ b, x = .bool b) ∧ h' = h := by
 refine ACalls.wf fun wf => ACalls.reset ?_
 refine ACalls.body Tryz.func13 rfl rfl ?_
 repeat (first | refine AL.nil ?_ | refine AWp.seq ?_ | refine AWp.r9 ?_ | refine AL.set rfl rfl (qaa rfl ?_) | refine AL.set rfl rfl (qaI rfl (by intro e; cases e) ?_))
 generalize hH : h.alloc _ = H
 have hg : H.get h.next = some ⟨scrC vg va s.setup, 44, true⟩ := hH ▸ Heap.alloc_new _ _
 have xh : Ext h H := hH ▸ wf.ext _
 have wfH : WF H := hH ▸ wf.alloc _
 clear hH
 obtain ⟨gvs, g1, g2, g3, g4⟩ := rg.ext xh
 obtain ⟨rows, r1, r2, r3⟩ := (r.ext xh).ex
 have hal := r.len
 repeat (first | refine AL.nil ?_ | refine AWp.seq ?_ | refine AWp.r9 ?_ | refine AWp.b9 ?_ | refine AL.set rfl rfl (qaf rfl ?_) | refine AL.set rfl rfl (qao rfl ?_) | refine AL.set rfl rfl (qad rfl rfl hg rfl ?_) | refine AL.set rfl rfl (qaK g1 rfl ?_) | refine AL.set rfl rfl (qav r1 rfl ?_) | refine AL.set rfl rfl (qax rfl rfl (by omega) ?_))
 refine AWp.loop (α := Nat × Int) (fun d => [(1, .int .i64 most), (2, ptr h.next), (5, .int .i64 d.2), (6, .int .i64 (d.1 : Nat))]) (fun _ => H) (fun d => d.1 ≤ gvs.length) (fun d => gvs.length - d.1) (0, _) (Nat.zero_le _) (Weak.same (EW.cons rfl (EW.cons rfl (EW.cons rfl (EW.cons rfl EW.nil))))) ?_
 rintro ⟨k, n⟩ hk
 replace hk : k ≤ gvs.length := hk
 show AWp _ _ _ _ [(1, .int .i64 most), (2, ptr h.next), (5, .int .i64 n), (6, .int .i64 (k : Nat))] H
 by_cases hcond : k < gvs.length ∧ n ≤ most
 ·
  obtain ⟨hlt, hm⟩ := hcond
  obtain ⟨v, hv⟩ : ∃ v, gvs[k]? = some v := ⟨_, List.getElem?_eq_getElem hlt⟩
  obtain ⟨g, hgk⟩ : ∃ g, s.setup.groups[k]? = some g := ⟨_, List.getElem?_eq_getElem (by omega)⟩
  have hv2 : gvs[((k : Nat) : Int).toNat]? = some v := hv
  obtain ⟨rv, _⟩ := g4 k v g hv hgk
  repeat (first | refine AL.nil ?_ | refine AWp.seq ?_ | refine AWp.r9 ?_ | refine AWp.c8 rfl ?_ | refine AWp.b9 ?_ | refine AWp.k9 ?_ | refine AL.set rfl rfl (qab rfl ?_) | refine AL.set rfl rfl (qae rfl ?_) | refine AL.set rfl rfl (qaf rfl ?_) | refine AL.set rfl rfl (qao rfl ?_) | refine AL.set rfl rfl (qad rfl rfl hg rfl ?_) | refine AL.set rfl rfl (qaK g1 rfl ?_) | refine AL.set rfl rfl (qai rfl rfl rfl (by omega) ?_) | refine AL.set rfl rfl (qag (v := .bool _) rfl rfl ?_) | refine AL.set rfl rfl (qaM g1 rfl rfl (by omega) hv2 fun _ => ?_) | refine AL.set rfl rfl (qaw (PT.of g1 hv2) rfl rfl ?_) | refine AL.set rfl rfl (qaK rv rfl ?_) | refine AL.set rfl rfl (qdI rfl rfl ?_) | refine AL.set rfl rfl (qax rfl rfl (by omega) ?_) | refine AL.set rfl rfl (qa2 rfl rfl rfl ?_))
  exact ⟨(k + 1, _), hlt, by show gvs.length - (k + 1) < gvs.length - k; omega, Weak.same (EW.cons rfl (EW.cons rfl (EW.cons rfl (EW.cons rfl EW.nil))))⟩
 ·
  repeat' (first | refine AL.nil ?_ | refine AL.skip rfl rfl ?_ | refine AWp.seq ?_ | refine AWp.r9 ?_ | refine AWp.c9 rfl ?_ | refine AWp.exit ?_ | refine AWp.b9 ?_ | refine AL.set rfl rfl (qab rfl ?_) | refine AL.set rfl rfl (qae rfl ?_) | refine AL.set rfl rfl (qaf rfl ?_) | refine AL.set rfl rfl (qao rfl ?_) | refine AL.set rfl rfl (qad rfl rfl hg rfl ?_) | refine AL.set rfl rfl (qaK g1 rfl ?_) | refine AL.set rfl rfl (qaj rfl rfl rfl (by omega) ?_) | refine AL.set rfl rfl (qag (v := .bool _) rfl rfl ?_) | refine AL.set rfl rfl (qaJ rfl rfl rfl (fun c => ?_) (fun c => ?_)))
  all_goals first | (exfalso; omega) | skip
  all_goals (
   refine AWp.loop (α := Nat) (fun d => [(1, .int .i64 most), (2, ptr h.next), (5, .int .i64 n), (7, .int .i64 (d : Nat))]) (fun _ => H) (fun d => d ≤ rows.length) (fun d => rows.length - d) 0 (Nat.zero_le _) (Weak.same (EW.cons rfl (EW.cons rfl (EW.cons rfl (EW.cons rfl EW.nil))))) ?_
   intro j hj
   replace hj : j ≤ rows.length := hj
   by_cases hc2 : j < rows.length ∧ n ≤ most
   ·
    obtain ⟨hlt, hm⟩ := hc2
    obtain ⟨row, hrow⟩ : ∃ row, rows[j]? = some row := ⟨_, List.getElem?_eq_getElem hlt⟩
    obtain ⟨a, hla⟩ : ∃ a, s.acts[j]? = some a := ⟨_, List.getElem?_eq_getElem (by omega)⟩
    obtain ⟨q, rfl, hq⟩ := r3 j row a hrow hla
    have hrw : rows[((j : Nat) : Int).toNat]? = some (actC q a) := hrow
    have pe := r1.elt hrw
    have cl := longA_c q a 3000 H hq
    repeat (first | refine AL.nil ?_ | refine AWp.seq ?_ | refine AWp.r9 ?_ | refine AWp.c8 rfl ?_ | refine AWp.b9 ?_ | refine AWp.k9 ?_ | refine AL.set rfl rfl (qab rfl ?_) | refine AL.set rfl rfl (qae rfl ?_) | refine AL.set rfl rfl (qao rfl ?_) | refine AL.set rfl rfl (qad rfl rfl hg rfl ?_) | refine AL.set rfl rfl (qav r1 rfl ?_) | refine AL.set rfl rfl (qai rfl rfl rfl (by omega) ?_) | refine AL.set rfl rfl (qag (v := .bool _) rfl rfl ?_) | refine AL.set rfl rfl (qaz r1 rfl rfl (by omega) hrw ?_) | refine AL.set rfl rfl (qaS pe rfl rfl rfl ?_))
    refine AL.set rfl rfl (qaq rfl rfl (cl.mono ?_))
    rintro _ G4 ⟨⟨b, rfl⟩, hG4⟩
    cases hG4.symm
    cases b
    ·
     repeat (first | refine AL.nil ?_ | refine AWp.r9 ?_ | refine AWp.c9 rfl ?_ | refine AWp.k9 ?_ | refine AL.set rfl rfl (qab rfl ?_) | refine AL.set rfl rfl (qaf rfl ?_) | refine AL.set rfl rfl (qax rfl rfl (by omega) ?_))
     exact ⟨j + 1, hlt, by omega, Weak.same (EW.cons rfl (EW.cons rfl (EW.cons rfl (EW.cons rfl EW.nil))))⟩
    ·
     repeat (first | refine AL.nil ?_ | refine AWp.seq ?_ | refine AWp.r9 ?_ | refine AWp.c8 rfl ?_ | refine AWp.ret ?_ | refine AL.set rfl rfl (qaa rfl ?_))
     exact ⟨_, ResV.tmp rfl, rfl, xh, ⟨_, rfl⟩, rfl⟩
   ·
    repeat' (first | refine AL.nil ?_ | refine AL.skip rfl rfl ?_ | refine AWp.seq ?_ | refine AWp.r9 ?_ | refine AWp.c9 rfl ?_ | refine AWp.ret ?_ | refine AWp.exit ?_ | refine AL.set rfl rfl (qab rfl ?_) | refine AL.set rfl rfl (qae rfl ?_) | refine AL.set rfl rfl (qaa rfl ?_) | refine AL.set rfl rfl (qao rfl ?_) | refine AL.set rfl rfl (qad rfl rfl hg rfl ?_) | refine AL.set rfl rfl (qav r1 rfl ?_) | refine AL.set rfl rfl (qai rfl rfl rfl (by omega) ?_) | refine AL.set rfl rfl (qaj rfl rfl rfl (by omega) ?_) | refine AL.set rfl rfl (qag (v := .bool _) rfl rfl ?_) | refine AL.set rfl rfl (qaJ rfl rfl rfl (fun c => ?_) (fun c => ?_)))
    all_goals first | (exfalso; omega) | exact ⟨_, ResV.tmp rfl, rfl, xh, ⟨_, rfl⟩, rfl⟩)
end Go.Proofs.YtigmojilaadbhaaGreatDoor

/-
 Bytes against bytes: which is ahead.
-/
namespace Go.Pln
open Go Go.Lib

def ordB : Bytes → Bytes → Int
 | [], [] => 0
 | [], _ :: _ => -1
 | _ :: _, [] => 1
 | a :: x, b :: y => if a < b then -1 else if b < a then 1 else ordB x y
theorem qe6 : ∀ a b : Bytes, Op.bytesLess a b = decide (ordB a b < 0)
 | [], [] => rfl
 | [], _ :: _ => rfl
 | _ :: _, [] => rfl
 | a :: x, b :: y => by
  rw [Op.bytesLess, ordB]
  by_cases h1 : a < b
  ·
   rw [if_pos h1, decide_eq_true h1]; rfl
  ·
   rw [if_neg h1, decide_eq_false h1]
   by_cases h2 : b < a
   ·
    rw [if_pos h2]
    have : (a == b) = false := beq_eq_false_iff_ne.2 fun e => by subst e; exact h1 h2
    rw [this]; rfl
   ·
    rw [if_neg h2]
    have : a = b := UInt8.toNat_inj.1 (by have e1 : ¬ a.toNat < b.toNat := h1; have e2 : ¬ b.toNat < a.toNat := h2; omega)
    rw [beq_iff_eq.2 this, Bool.false_or, Bool.true_and]
    exact qe6 x y
def cmpF (a b : Bytes) : Int := match (List.range (min a.length b.length)).find? fun i => a[i]! != b[i]! with
 | some i => if a[i]! < b[i]! then -1 else 1
 | none => if a.length < b.length then -1 else if a.length > b.length then 1 else 0
theorem cmpF_cons (a b : UInt8) (x y : Bytes) : cmpF (a :: x) (b :: y) = if a < b then -1 else if b < a then 1 else cmpF x y := by
 unfold cmpF
 have e : min (a :: x).length (b :: y).length = min x.length y.length + 1 := by simp only [List.length_cons]; omega
 rw [e, List.range_succ_eq_map, List.find?_cons]
 by_cases hab : a = b
 ·
  subst hab
  have h0 : ((a :: x)[0]! != (a :: y)[0]!) = false := by simp
  rw [h0]
  simp only
  rw [List.find?_map, if_neg (UInt8.lt_irrefl a), if_neg (UInt8.lt_irrefl a)]
  have hp : ((fun i => (a :: x)[i]! != (a :: y)[i]!) ∘ Nat.succ) = fun i => x[i]! != y[i]! := by
   funext i
   simp
  rw [hp]
  cases (List.range (min x.length y.length)).find? (fun i => x[i]! != y[i]!) with
  | none => simp
  | some i => simp
 ·
  have h0 : ((a :: x)[0]! != (b :: y)[0]!) = true := by simpa using hab
  rw [h0]
  simp only [List.getElem!_cons_zero]
  by_cases h1 : a < b
  ·
   rw [if_pos h1, if_pos h1]
  ·
   rw [if_neg h1, if_neg h1]
   have h2 : b < a := by
    have e1 : ¬ a.toNat < b.toNat := h1
    have e2 : a.toNat ≠ b.toNat := fun e => hab (UInt8.toNat_inj.1 e)
    show b.toNat < a.toNat
    omega
   rw [if_pos h2]
theorem cmpF_eq : ∀ a b : Bytes, cmpF a b = ordB a b
 | [], [] => rfl
 | [], b :: y => by simp [cmpF, ordB]
 | a :: x, [] => by simp [cmpF, ordB]
 | a :: x, b :: y => by rw [cmpF_cons, ordB, cmpF_eq x y]
theorem bget (a : Bytes) (i : Nat) : (ByteArray.mk a.toArray)[i]! = a[i]! := by
 rw [getElem!_def, getElem!_def]
 have : (ByteArray.mk a.toArray)[i]? = a[i]? := by
  by_cases h : i < a.length
  ·
   rw [List.getElem?_eq_getElem h, getElem?_pos (ByteArray.mk a.toArray) i h]
   rfl
  ·
   rw [List.getElem?_eq_none (by omega), getElem?_neg (ByteArray.mk a.toArray) i h]
 rw [this]
theorem cmp_eq (a b : Bytes) : Extern.BytealgCompare.cmp ⟨a.toArray⟩ ⟨b.toArray⟩ = ordB a b := by
 rw [← cmpF_eq]
 unfold Extern.BytealgCompare.cmp cmpF
 simp only [bget]
 rfl
theorem ordB_nil (a b : Bytes) (k : Nat) (h : a.take k = b.take k) (ha : a.length ≤ k ∨ b.length ≤ k) : ordB a b = if a.length < b.length then -1 else if b.length < a.length then 1 else 0 := by
 induction k generalizing a b with
 | zero =>
  cases a with
  | nil => cases b <;> simp [ordB]
  | cons x a =>
   cases b with
   | nil => simp [ordB]
   | cons y b => simp at ha
 | succ k ih =>
  cases a with
  | nil => cases b <;> simp [ordB]
  | cons x a =>
   cases b with
   | nil => simp [ordB]
   | cons y b =>
    simp only [List.take_succ_cons, List.cons.injEq] at h
    obtain ⟨rfl, h⟩ := h
    rw [ordB, if_neg (UInt8.lt_irrefl x), if_neg (UInt8.lt_irrefl x), ih a b h (by simp only [List.length_cons] at ha; omega)]
    simp
theorem ordB_at {a b : Bytes} {k : Nat} {x y : UInt8} (h : a.take k = b.take k) (hx : a[k]? = some x) (hy : b[k]? = some y) (hn : x ≠ y) : ordB a b = if x < y then -1 else 1 := by
 induction k generalizing a b with
 | zero =>
  cases a with
  | nil => simp at hx
  | cons u a =>
   cases b with
   | nil => simp at hy
   | cons v b =>
    simp only [List.getElem?_cons_zero, Option.some.injEq] at hx hy
    subst hx hy
    rw [ordB]
    by_cases h1 : u < v
    ·
     rw [if_pos h1, if_pos h1]
    ·
     rw [if_neg h1, if_neg h1]
     have h2 : v < u := by
      have e1 : ¬ u.toNat < v.toNat := h1
      have e2 : u.toNat ≠ v.toNat := fun e => hn (UInt8.toNat_inj.1 e)
      show v.toNat < u.toNat
      omega
     rw [if_pos h2]
 | succ k ih =>
  cases a with
  | nil => simp at hx
  | cons u a =>
   cases b with
   | nil => simp at hy
   | cons v b =>
    simp only [List.take_succ_cons, List.cons.injEq] at h
    obtain ⟨rfl, h⟩ := h
    simp only [List.getElem?_cons_succ] at hx hy
    rw [ordB, if_neg (UInt8.lt_irrefl u), if_neg (UInt8.lt_irrefl u), ih h hx hy]
end Go.Pln
