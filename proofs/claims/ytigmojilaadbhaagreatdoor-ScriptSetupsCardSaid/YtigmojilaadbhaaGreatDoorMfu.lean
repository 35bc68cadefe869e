/-
  Texts of one claim, merged: 13 parts.
-/
import Derived.Test.YtigmojilaadbhaaGreatDoorMft
import Derived.Test.YtigmojilaadbhaaGreatDoorMfk
import Derived.Test.YtigmojilaadbhaaGreatDoorMfj
import Derived.Test.YtigmojilaadbhaaGreatDoorMfh
import Derived.Test.YtigmojilaadbhaaGreatDoorMfr
set_option maxHeartbeats 16000000
/- . -/
namespace Go.Proofs.YtigmojilaadbhaaGreatDoor
open Go Go.Eng Go.Pln Go.Lib
attribute [local irreducible] AWp AL DAL AOp
instance i_sameListR : FnC Tryz.prog 104 := ⟨Tryz.f104, Tryz.func104, by kernel_rfl, by kernel_rfl⟩
theorem qgX (u v : Value) (a b : List EntM) (h : Heap) (ra : RE h u a) (rb : RE h v b) : ACalls Tryz.prog 104 [u, v] h fun x h' => x = .bool (decide (a = b)) ∧ h' = h := by
 refine ACalls.body Tryz.func104 rfl rfl ?_
 obtain ⟨ro, r1, r2, r3⟩ := ra.ex
 obtain ⟨so, s1, s2, s3⟩ := rb.ex
 obtain ⟨ua, uc, hu⟩ := r1.slice
 obtain ⟨va, vc, hv⟩ := s1.slice
 have hlen := ra.len
 by_cases hl : a.length = b.length
 ·
  repeat (first | refine W.w ?_ | refine AWp.c9 rfl ?_ | (refine zz rfl ?_; first | refine qad rfl ?_ | refine qaa rfl ?_ | refine qam (v := u) rfl ?_ | refine qam (v := v) rfl ?_ | refine qav r1 rfl ?_ | refine qav s1 rfl ?_ | refine qak rfl rfl rfl (by omega) ?_))
  refine AWp.loop (α := Nat) (fun k => [(0, u), (1, v), (5, .int .i64 (k : Nat))]) (fun _ => h) (fun k => k ≤ a.length ∧ a.take k = b.take k) (fun k => a.length - k) 0 ⟨Nat.zero_le _, rfl⟩ (Weak.same (EW.cons rfl (EW.cons rfl (EW.cons rfl EW.nil)))) ?_
  rintro k ⟨hk, hp⟩
  by_cases hlt : k < a.length
  ·
   obtain ⟨x, hxa⟩ : ∃ x, a[k]? = some x := ⟨_, List.getElem?_eq_getElem hlt⟩
   obtain ⟨y, hyb⟩ : ∃ y, b[k]? = some y := ⟨_, List.getElem?_eq_getElem (by omega)⟩
   obtain ⟨p, hpa⟩ : ∃ p, ro[k]? = some p := ⟨_, List.getElem?_eq_getElem (by omega)⟩
   obtain ⟨q, hqb⟩ : ∃ q, so[k]? = some q := ⟨_, List.getElem?_eq_getElem (by omega)⟩
   obtain ⟨k1, v1, rfl, a1, a2⟩ := r3 k p x hpa hxa
   obtain ⟨k2, v2, rfl, b1, b2⟩ := s3 k q y hqb hyb
   have hte := qeo hp hxa hyb
   have hx2 : ro[((k : Nat) : Int).toNat]? = some (entC k1 v1 x) := hpa
   have hy2 : so[((k : Nat) : Int).toNat]? = some (entC k2 v2 y) := hqb
   have px := r1.elt hx2
   have py := s1.elt hy2
   have cb := fun (h' : Heap) (hx : Ext h h') => sameEntR_c k1 v1 k2 v2 x y h' (a1.ext hx) (a2.ext hx) (b1.ext hx) (b2.ext hx)
   by_cases hxy : x = y
   ·
    rw [decide_eq_true hxy] at cb
    repeat (first | refine W.w ?_ | refine AWp.c8 rfl ?_ | (refine zz rfl ?_; first | refine qac rfl ?_ | refine qam (v := u) rfl ?_ | refine qav r1 rfl ?_ | refine qaj rfl rfl rfl (by omega) ?_))
    refine AWp.draw (σ := [(0, .R), (1, .R), (2, .R), (3, .R), (4, .R), (5, .R), (6, .R), (7, .R), (8, .R), (9, .R)]) mixed (by kernel_rfl) ?_
    repeat (first | refine DAL.r rfl rfl rfl (fun h' hx hn => qac rfl ⟨rfl, rfl⟩) ?_ | refine DAL.r rfl rfl rfl (fun h' hx hn => qam (v := u) rfl ⟨rfl, rfl⟩) ?_ | refine DAL.r rfl rfl rfl (fun h' hx hn => qam (v := v) rfl ⟨rfl, rfl⟩) ?_ | refine DAL.r rfl rfl rfl (fun h' hx hn => qaz (r1.ext hx) rfl rfl (by omega) hx2 ⟨rfl, rfl⟩) ?_ | refine DAL.r rfl rfl rfl (fun h' hx hn => qaz (s1.ext hx) rfl rfl (by omega) hy2 ⟨rfl, rfl⟩) ?_ | refine DAL.r rfl rfl rfl (fun h' hx hn => qaP (px.ext hx) rfl rfl rfl ⟨rfl, rfl⟩) ?_ | refine DAL.r rfl rfl rfl (fun h' hx hn => qaP (py.ext hx) rfl rfl rfl ⟨rfl, rfl⟩) ?_ | refine DAL.r rfl rfl rfl (fun h' hx hn => qab rfl rfl (cb h' hx) ⟨rfl, rfl⟩) ?_ | refine DAL.r rfl rfl rfl (fun h' hx hn => qaE rfl ⟨rfl, rfl⟩) ?_)
    refine DAL.nil ?_
    repeat (first | refine W.w ?_ | refine AWp.c9 rfl ?_ | (refine zz rfl ?_; first | refine qac rfl ?_ | refine qad rfl ?_ | refine qas rfl rfl (by omega) ?_))
    exact ⟨k + 1, ⟨hlt, hte.2 hxy⟩, by omega, Weak.same (EW.cons rfl (EW.cons rfl (EW.cons rfl EW.nil)))⟩
   ·
    rw [decide_eq_false hxy] at cb
    repeat (first | refine W.w ?_ | refine AWp.c8 rfl ?_ | (refine zz rfl ?_; first | refine qac rfl ?_ | refine qam (v := u) rfl ?_ | refine qav r1 rfl ?_ | refine qaj rfl rfl rfl (by omega) ?_))
    refine AWp.draw (σ := [(0, .R), (1, .R), (2, .R), (3, .R), (4, .R), (5, .R), (6, .R), (7, .R), (8, .R), (9, .R)]) mixed (by kernel_rfl) ?_
    repeat (first | refine DAL.r rfl rfl rfl (fun h' hx hn => qac rfl ⟨rfl, rfl⟩) ?_ | refine DAL.r rfl rfl rfl (fun h' hx hn => qam (v := u) rfl ⟨rfl, rfl⟩) ?_ | refine DAL.r rfl rfl rfl (fun h' hx hn => qam (v := v) rfl ⟨rfl, rfl⟩) ?_ | refine DAL.r rfl rfl rfl (fun h' hx hn => qaz (r1.ext hx) rfl rfl (by omega) hx2 ⟨rfl, rfl⟩) ?_ | refine DAL.r rfl rfl rfl (fun h' hx hn => qaz (s1.ext hx) rfl rfl (by omega) hy2 ⟨rfl, rfl⟩) ?_ | refine DAL.r rfl rfl rfl (fun h' hx hn => qaP (px.ext hx) rfl rfl rfl ⟨rfl, rfl⟩) ?_ | refine DAL.r rfl rfl rfl (fun h' hx hn => qaP (py.ext hx) rfl rfl rfl ⟨rfl, rfl⟩) ?_ | refine DAL.r rfl rfl rfl (fun h' hx hn => qab rfl rfl (cb h' hx) ⟨rfl, rfl⟩) ?_ | refine DAL.r rfl rfl rfl (fun h' hx hn => qaE rfl ⟨rfl, rfl⟩) ?_)
    refine DAL.nil ?_
    repeat (first | refine W.w ?_ | refine AWp.c8 rfl ?_ | refine zz rfl (qaa rfl ?_))
    refine ⟨_, ResV.tmp rfl, congrArg Value.bool (decide_eq_false fun e => hxy (hte.1 (by rw [e]))).symm, rfl⟩
  ·
   obtain rfl : k = a.length := by omega
   rw [List.take_length, hl, List.take_length] at hp
   repeat (first | refine AL.nil ?_ | refine AWp.seq ?_ | refine AWp.r9 ?_ | refine AWp.c9 rfl ?_ | refine AWp.ret ?_ | refine AWp.exit ?_ | (refine zz rfl ?_; first | refine qac rfl ?_ | refine qaa rfl ?_ | refine qam (v := u) rfl ?_ | refine qav r1 rfl ?_ | refine qak rfl rfl rfl (by omega) ?_))
   exact ⟨_, ResV.tmp rfl, congrArg Value.bool (decide_eq_true hp).symm, rfl⟩
 ·
  repeat (first | refine W.w ?_ | refine AWp.c8 rfl ?_ | (refine zz rfl ?_; first | refine qaa rfl ?_ | refine qam (v := u) rfl ?_ | refine qam (v := v) rfl ?_ | refine qav r1 rfl ?_ | refine qav s1 rfl ?_ | refine qaj rfl rfl rfl (by omega) ?_))
  exact ⟨_, ResV.tmp rfl, congrArg Value.bool (decide_eq_false fun e => hl (by rw [e])).symm, rfl⟩
instance i_sameCmdR : FnC Tryz.prog 54 := ⟨Tryz.f54, Tryz.func54, by kernel_rfl, by kernel_rfl⟩
theorem qe9 (p q : CmdV) (a b : CmdM) (h : Heap) (ra : CmdR h p a) (rb : CmdR h q b) : ACalls Tryz.prog 54 [.agg (cmdC p a).toArray, .agg (cmdC q b).toArray] h fun u h' => u = .bool (decide (a = b)) ∧ h' = h := by
 refine ACalls.wf fun wf => ACalls.reset ?_
 refine ACalls.body Tryz.func54 rfl rfl ?_
 repeat (first | refine W.w ?_ | refine zz rfl (qaa rfl ?_) | refine zz rfl (qaK rfl (by intro e; cases e) ?_))
 generalize hH : h.alloc _ = H1
 have hg0 : H1.get h.next = some ⟨cmdC p a, 37, true⟩ := hH ▸ Heap.alloc_new _ _
 have hx1 : Ext h H1 := hH ▸ wf.ext _
 have wf1 : WF H1 := hH ▸ wf.alloc _
 skip
 generalize hH2 : H1.alloc _ = H
 have hg2 : H.get H1.next = some ⟨cmdC q b, 37, true⟩ := hH2 ▸ Heap.alloc_new _ _
 have hx2 : Ext H1 H := hH2 ▸ wf1.ext _
 have hg1 : H.get h.next = some ⟨cmdC p a, 37, true⟩ := hx2.c _ _ hg0
 have hx : Ext h H := hx1.trans hx2
 clear hH hH2
 obtain ⟨a1, a2, a3, a4, a5⟩ := ra.ext hx
 obtain ⟨b1, b2, b3, b4, b5⟩ := rb.ext hx
 have cA := qeU p.r q.r a.req.ask b.req.ask H a1 b1
 have cM := qhb p.m q.m a.move b.move H a2 b2
 have cE := qgX p.e q.e a.entries b.entries H a3 b3
 repeat' (first | refine W.w ?_ | refine AL.skip rfl rfl ?_ | (refine zz rfl ?_; first | refine qag rfl ?_ | refine qaa rfl ?_ | refine qan rfl ?_ | refine qae rfl rfl hg1 rfl ?_ | refine qae rfl rfl hg2 rfl ?_ | refine qah (sz := 7) rfl rfl hg1 (Nat.le_of_ble_eq_true rfl) ?_ | refine qah (sz := 7) rfl rfl hg2 (Nat.le_of_ble_eq_true rfl) ?_ | refine qah (sz := 6) rfl rfl hg1 (Nat.le_of_ble_eq_true rfl) ?_ | refine qah (sz := 6) rfl rfl hg2 (Nat.le_of_ble_eq_true rfl) ?_ | refine qaQ rfl rfl cA (fun c => ?_) (fun c => ?_) | refine qaQ rfl rfl cM (fun c => ?_) (fun c => ?_) | refine qaQ rfl rfl cE (fun c => ?_) (fun c => ?_) | refine qao a4 rfl ?_ | refine qao a5 rfl ?_ | refine qao b4 rfl ?_ | refine qao b5 rfl ?_ | refine qg8 rfl rfl (fun c => ?_) (fun c => ?_) | refine qaO rfl rfl rfl (fun c => ?_) (fun c => ?_) | refine qai (v := .bool _) rfl rfl ?_))
 all_goals refine ⟨_, ResV.tmp rfl, rfl, hx, congrArg Value.bool ?_, rfl⟩
 all_goals clear a1 a2 a3 a4 a5 b1 b2 b3 b4 b5 cA cM cE hg0 hg1 hg2 hx1 hx2 hx wf wf1 ra rb
 all_goals grind [cmd_ext]
instance i_sameActR : FnC Tryz.prog 23 := ⟨Tryz.f23, Tryz.func23, by kernel_rfl, by kernel_rfl⟩
theorem qfa (p q : ActV) (a b : ActM) (h : Heap) (ra : ActR h p a) (rb : ActR h q b) : ACalls Tryz.prog 23 [.agg (actC p a).toArray, .agg (actC q b).toArray] h fun u h' => u = .bool (decide (a = b)) ∧ h' = h := by
 refine ACalls.wf fun wf => ACalls.reset ?_
 refine ACalls.body Tryz.func23 rfl rfl ?_
 repeat (first | refine W.w ?_ | refine zz rfl (qaa rfl ?_) | refine zz rfl (qaK rfl (by intro e; cases e) ?_))
 generalize hH : h.alloc _ = H1
 have hg0 : H1.get h.next = some ⟨actC p a, 40, true⟩ := hH ▸ Heap.alloc_new _ _
 have hx1 : Ext h H1 := hH ▸ wf.ext _
 have wf1 : WF H1 := hH ▸ wf.alloc _
 skip
 generalize hH2 : H1.alloc _ = H
 have hg2 : H.get H1.next = some ⟨actC q b, 40, true⟩ := hH2 ▸ Heap.alloc_new _ _
 have hx2 : Ext H1 H := hH2 ▸ wf1.ext _
 have hg1 : H.get h.next = some ⟨actC p a, 40, true⟩ := hx2.c _ _ hg0
 have hx : Ext h H := hx1.trans hx2
 clear hH hH2
 obtain ⟨a1, a2, a3⟩ := ra.ext hx
 obtain ⟨b1, b2, b3⟩ := rb.ext hx
 have cA := qeU p.q q.q a.ask b.ask H a1 b1
 have cM := qe9 p.c q.c a.cmd b.cmd H a2 b2
 have r1 := a3.rn
 have s1 := b3.rn
 obtain ⟨ua, uc, hu⟩ := r1.slice
 obtain ⟨va, vc, hv⟩ := s1.slice
 have l1 : (a.keep.map keptR).length = a.keep.length := List.length_map _
 have l2 : (b.keep.map keptR).length = b.keep.length := List.length_map _
 have hlen := a3.len
 by_cases hall : a.kind = b.kind ∧ a.node = b.node ∧ a.group = b.group ∧ a.client = b.client ∧ a.n = b.n ∧ a.ask = b.ask ∧ a.cmd = b.cmd ∧ a.keep.length = b.keep.length
 ·
  obtain ⟨e1, e2, e3, e4, e5, e6, e7, e8⟩ := hall
  rw [decide_eq_true e6] at cA
  rw [decide_eq_true e7] at cM
  repeat (first | refine W.w ?_ | refine AWp.c9 rfl ?_ | (refine zz rfl ?_; first | refine qag rfl ?_ | refine qad rfl ?_ | refine qan rfl ?_ | refine qae rfl rfl hg1 rfl ?_ | refine qae rfl rfl hg2 rfl ?_ | refine qah (sz := 7) rfl rfl hg1 (Nat.le_of_ble_eq_true rfl) ?_ | refine qah (sz := 7) rfl rfl hg2 (Nat.le_of_ble_eq_true rfl) ?_ | refine qah (sz := 20) rfl rfl hg1 (Nat.le_of_ble_eq_true rfl) ?_ | refine qah (sz := 20) rfl rfl hg2 (Nat.le_of_ble_eq_true rfl) ?_ | refine qav r1 rfl ?_ | refine qav s1 rfl ?_ | refine qak rfl rfl rfl (by omega) ?_ | refine qai (v := .bool _) rfl rfl ?_ | refine qab rfl rfl cA ?_ | refine qab rfl rfl cM ?_ | refine qaE rfl ?_))
  refine AWp.loop (α := Nat) (fun k => [(2, ptr h.next), (3, ptr H1.next), (5, .int .i64 (k : Nat))]) (fun _ => H) (fun k => k ≤ a.keep.length ∧ a.keep.take k = b.keep.take k) (fun k => a.keep.length - k) 0 ⟨Nat.zero_le _, rfl⟩ (Weak.same (EW.cons rfl (EW.cons rfl (EW.cons rfl EW.nil)))) ?_
  rintro k ⟨hk, hp⟩
  by_cases hlt : k < a.keep.length
  ·
   obtain ⟨x, hxa⟩ : ∃ x, a.keep[k]? = some x := ⟨_, List.getElem?_eq_getElem hlt⟩
   obtain ⟨y, hyb⟩ : ∃ y, b.keep[k]? = some y := ⟨_, List.getElem?_eq_getElem (by omega)⟩
   have hx2 : (a.keep.map keptR)[((k : Nat) : Int).toNat]? = some (keptR x) := by simp [hxa]
   have hy2 : (b.keep.map keptR)[((k : Nat) : Int).toNat]? = some (keptR y) := by simp [hyb]
   have px := r1.elt hx2
   have py := s1.elt hy2
   have hte := qeo hp hxa hyb
   have heq := qfR x y
   by_cases hxy : x = y
   ·
    rw [decide_eq_true hxy] at heq
    repeat (first | refine W.w ?_ | refine AWp.c8 rfl ?_ | (refine zz rfl ?_; first | refine qac rfl ?_ | refine qan rfl ?_ | refine qae rfl rfl hg1 rfl ?_ | refine qav r1 rfl ?_ | refine qaj rfl rfl rfl (by omega) ?_))
    refine AWp.draw (σ := [(0, .R), (1, .R), (2, .R), (3, .R), (4, .R), (5, .R), (6, .R), (7, .R), (8, .R), (9, .R), (10, .R)]) mixed (by kernel_rfl) ?_
    repeat (first | refine DAL.r rfl rfl rfl (fun h' hx hn => qac rfl ⟨rfl, rfl⟩) ?_ | refine DAL.r rfl rfl rfl (fun h' hx hn => qan rfl ⟨rfl, rfl⟩) ?_ | refine DAL.r rfl rfl rfl (fun h' hx hn => qae rfl rfl (hx.c _ _ hg1) rfl ⟨rfl, rfl⟩) ?_ | refine DAL.r rfl rfl rfl (fun h' hx hn => qae rfl rfl (hx.c _ _ hg2) rfl ⟨rfl, rfl⟩) ?_ | refine DAL.r rfl rfl rfl (fun h' hx hn => qaz (r1.ext hx) rfl rfl (by omega) hx2 ⟨rfl, rfl⟩) ?_ | refine DAL.r rfl rfl rfl (fun h' hx hn => qaz (s1.ext hx) rfl rfl (by omega) hy2 ⟨rfl, rfl⟩) ?_ | refine DAL.r rfl rfl rfl (fun h' hx hn => qaP (px.ext hx) rfl rfl rfl ⟨rfl, rfl⟩) ?_ | refine DAL.r rfl rfl rfl (fun h' hx hn => qaP (py.ext hx) rfl rfl rfl ⟨rfl, rfl⟩) ?_ | refine DAL.r rfl rfl rfl (fun h' hx hn => qdM (xs := keptR x) (ys := keptR y) rfl rfl rfl heq ⟨rfl, rfl⟩) ?_)
    refine DAL.nil ?_
    repeat (first | refine W.w ?_ | refine AWp.c9 rfl ?_ | (refine zz rfl ?_; first | refine qac rfl ?_ | refine qad rfl ?_ | refine qas rfl rfl (by omega) ?_))
    exact ⟨k + 1, ⟨hlt, hte.2 hxy⟩, by omega, Weak.same (EW.cons rfl (EW.cons rfl (EW.cons rfl EW.nil)))⟩
   ·
    rw [decide_eq_false hxy] at heq
    repeat (first | refine W.w ?_ | refine AWp.c8 rfl ?_ | (refine zz rfl ?_; first | refine qac rfl ?_ | refine qan rfl ?_ | refine qae rfl rfl hg1 rfl ?_ | refine qav r1 rfl ?_ | refine qaj rfl rfl rfl (by omega) ?_))
    refine AWp.draw (σ := [(0, .R), (1, .R), (2, .R), (3, .R), (4, .R), (5, .R), (6, .R), (7, .R), (8, .R), (9, .R), (10, .R)]) mixed (by kernel_rfl) ?_
    repeat (first | refine DAL.r rfl rfl rfl (fun h' hx hn => qac rfl ⟨rfl, rfl⟩) ?_ | refine DAL.r rfl rfl rfl (fun h' hx hn => qan rfl ⟨rfl, rfl⟩) ?_ | refine DAL.r rfl rfl rfl (fun h' hx hn => qae rfl rfl (hx.c _ _ hg1) rfl ⟨rfl, rfl⟩) ?_ | refine DAL.r rfl rfl rfl (fun h' hx hn => qae rfl rfl (hx.c _ _ hg2) rfl ⟨rfl, rfl⟩) ?_ | refine DAL.r rfl rfl rfl (fun h' hx hn => qaz (r1.ext hx) rfl rfl (by omega) hx2 ⟨rfl, rfl⟩) ?_ | refine DAL.r rfl rfl rfl (fun h' hx hn => qaz (s1.ext hx) rfl rfl (by omega) hy2 ⟨rfl, rfl⟩) ?_ | refine DAL.r rfl rfl rfl (fun h' hx hn => qaP (px.ext hx) rfl rfl rfl ⟨rfl, rfl⟩) ?_ | refine DAL.r rfl rfl rfl (fun h' hx hn => qaP (py.ext hx) rfl rfl rfl ⟨rfl, rfl⟩) ?_ | refine DAL.r rfl rfl rfl (fun h' hx hn => qdM (xs := keptR x) (ys := keptR y) rfl rfl rfl heq ⟨rfl, rfl⟩) ?_)
    refine DAL.nil ?_
    repeat (first | refine W.w ?_ | refine AWp.c8 rfl ?_ | refine zz rfl (qaa rfl ?_))
    exact ⟨_, ResV.tmp rfl, rfl, hx, congrArg Value.bool (decide_eq_false fun e => hxy (hte.1 (by rw [e]))).symm, rfl⟩
  ·
   obtain rfl : k = a.keep.length := by omega
   rw [List.take_length, e8, List.take_length] at hp
   repeat (first | refine AL.nil ?_ | refine AWp.seq ?_ | refine AWp.r9 ?_ | refine AWp.c9 rfl ?_ | refine AWp.ret ?_ | refine AWp.exit ?_ | (refine zz rfl ?_; first | refine qac rfl ?_ | refine qaa rfl ?_ | refine qan rfl ?_ | refine qae rfl rfl hg1 rfl ?_ | refine qav r1 rfl ?_ | refine qak rfl rfl rfl (by omega) ?_))
   exact ⟨_, ResV.tmp rfl, rfl, hx, congrArg Value.bool (decide_eq_true (act_ext.2 ⟨e1, e2, e3, e4, e5, e6, e7, hp⟩)).symm, rfl⟩
 ·
  repeat' (first | refine W.w ?_ | refine AL.skip rfl rfl ?_ | refine AWp.c8 rfl ?_ | refine AWp.c9 rfl ?_ | (refine zz rfl ?_; first | refine qag rfl ?_ | refine qad rfl ?_ | refine qaa rfl ?_ | refine qan rfl ?_ | refine qae rfl rfl hg1 rfl ?_ | refine qae rfl rfl hg2 rfl ?_ | refine qah (sz := 7) rfl rfl hg1 (Nat.le_of_ble_eq_true rfl) ?_ | refine qah (sz := 7) rfl rfl hg2 (Nat.le_of_ble_eq_true rfl) ?_ | refine qah (sz := 20) rfl rfl hg1 (Nat.le_of_ble_eq_true rfl) ?_ | refine qah (sz := 20) rfl rfl hg2 (Nat.le_of_ble_eq_true rfl) ?_ | refine qav r1 rfl ?_ | refine qav s1 rfl ?_ | refine qaQ rfl rfl cA (fun c => ?_) (fun c => ?_) | refine qaQ rfl rfl cM (fun c => ?_) (fun c => ?_) | refine qaE rfl ?_ | refine qaO rfl rfl rfl (fun c => ?_) (fun c => ?_) | refine qai (v := .bool _) rfl rfl ?_))
  all_goals first | (refine ⟨_, ResV.tmp rfl, rfl, hx, congrArg Value.bool (decide_eq_false fun e => ?_).symm, rfl⟩; subst e; clear cA cM; first | contradiction | omega | (simp at *; done) | grind) | (exfalso; clear cA cM; grind)
end Go.Proofs.YtigmojilaadbhaaGreatDoor
/- . -/
namespace Go.Pln
open Go Go.Lib
abbrev knA : Bytes := [116, 105, 109, 101, 114, 32, 48, 32, 49]
abbrev knB : Bytes := [97, 115, 107, 32, 49, 32, 48, 32, 49, 32, 112, 117, 116, 32, 97, 32, 37]
abbrev knC : Bytes := [112, 108, 97, 110, 32, 48, 32, 109, 111, 118, 101, 32, 37, 32, 50]
abbrev knD : Bytes := [112, 108, 97, 110, 32, 48, 32, 109, 111, 118, 101, 32, 97]
abbrev knE : Bytes := [104, 101, 97, 114, 32, 48, 49]
abbrev knF : Bytes := [99, 114, 97, 115, 104, 32, 48, 32, 97, 32, 49, 32, 97, 32, 50]
abbrev knT : Bytes := [115, 101, 116, 117, 112, 32, 49, 32, 49, 48, 50, 52, 32, 54, 52, 32, 50, 53, 54, 10, 103, 114, 111, 117, 112, 32, 48, 10, 103, 114, 111, 117, 112, 32, 48, 10, 116, 105, 109, 101, 114, 32, 48, 32, 49, 10]
abbrev knU : Bytes := [115, 101, 116, 117, 112, 32, 49, 32, 49, 48, 50, 52, 32, 54, 52, 32, 50, 53, 54, 10, 103, 114, 111, 117, 112, 32, 49, 10, 103, 114, 111, 117, 112, 32, 48, 10, 116, 105, 109, 101, 114, 32, 48, 32, 49, 10]
abbrev knV : Bytes := [115, 101, 116, 117, 112, 32, 49, 32, 49, 48, 50, 52, 32, 54, 52, 32, 50, 53, 54, 10, 103, 114, 111, 117, 112, 32, 48, 10, 103, 114, 111, 117, 112, 32, 48, 10, 116, 105, 109, 101, 114, 32, 48, 32, 50, 10]
abbrev knW : Bytes := [115, 101, 116, 117, 112, 32, 49, 32, 49, 48, 50, 52, 32, 54, 52, 32, 50, 53, 54, 10, 103, 114, 111, 117, 112, 32, 48, 10]
abbrev knX : Bytes := [115, 101, 116, 117, 112, 32, 49, 32, 49, 48, 50, 52, 32, 54, 52, 32, 50, 53, 54, 10, 103, 114, 111, 117, 112, 32, 48, 10, 103, 114, 111, 117, 112, 32, 48, 10, 116, 105, 109, 101, 114, 32, 49, 32, 49, 10]
def knL : ActM := { act0 with kind := 1, group := 1 }
def knM : ActM := { act0 with kind := 10, client := 1, group := 1, ask := { ask0 with kind := 2, key := [97] } }
def knN : ActM := { act0 with kind := 1, node := 5 }
def knO : ActM := { act0 with kind := 9, cmd := { cmd0 with kind := 8, group := 2 } }
theorem qhL : mayAct 5 5 knL = true ∧ lineM knL = knA := by decide +kernel
theorem qh0 : mayAct 5 5 knM = true ∧ lineM knM = knB := by decide +kernel
theorem knN_line : mayAct 5 5 knN = false := by decide +kernel
theorem knC_act : unlineP knC = some knO := (qcc _ _).2 (by decide +kernel)
theorem knD_act : unlineP knD = none := by decide +kernel
theorem knE_act : unlineP knE = none := by decide +kernel
theorem knF_act : unlineP knF = none := by decide +kernel
theorem qhw : (parseP knT).2 = (0, 0) ∧ (parseP knT).1.setup.groups.length = 2 ∧ (parseP knT).1.acts.length = 1 := by decide +kernel
theorem knU_read : (parseP knU).2 = (1, 4) ∧ (parseP knU).1.acts.length = 0 := by decide +kernel
theorem knV_read : (parseP knV).2 = (3, 4) ∧ (parseP knV).1.acts.length = 0 := by decide +kernel
theorem knW_read : (parseP knW).2 = (2, 4) ∧ (parseP knW).1.acts.length = 0 := by decide +kernel
theorem knX_read : (parseP knX).2 = (3, 4) ∧ (parseP knX).1.acts.length = 0 := by decide +kernel
end Go.Pln
/- . -/
namespace Go.Proofs.YtigmojilaadbhaaGreatDoor
open Go Go.Eng Go.Pln Go.Lib
attribute [local irreducible] AWp AL DAL AOp TAL
instance i_lnum : FnC Tryz.prog 20 := ⟨Tryz.f20, Tryz.func20, by kernel_rfl, by kernel_rfl⟩
instance i_lwrong : FnC Tryz.prog 37 := ⟨Tryz.f37, Tryz.func37, by kernel_rfl, by kernel_rfl⟩
instance i_lknown : FnC Tryz.prog 15 := ⟨Tryz.f15, Tryz.func15, by kernel_rfl, by kernel_rfl⟩
theorem qc2 (e : Int) (h : Heap) : ACalls Tryz.prog 20 [.int .i64 e] h fun u h' => u = .int .i64 e ∧ h' = h := by
 refine ACalls.body Tryz.func20 rfl rfl ?_
 repeat (first | refine W.w ?_ | refine zz rfl (qac rfl ?_) | refine zz rfl (qad rfl ?_))
 exact ⟨_, ResV.tmp rfl, rfl, rfl⟩
theorem qdK (text : Bytes) (n : Int) (h : Heap) (t : Tabs h) (h8 : 8 ≤ h.next) (hl : text.length ≤ 100000000) (hr : (parseP text).2 = (n, 4) ∧ (parseP text).1.acts.length = 0) : ACalls Tryz.prog 37 [str text, .int .i64 n] h fun u h' => u = .bool true ∧ h' = h := by
 refine ACalls.wf fun wf => ACalls.reset ?_
 refine ACalls.body Tryz.func37 rfl rfl ?_
 obtain ⟨e1, e2⟩ := Prod.mk.inj hr.1
 have ea := hr.2
 repeat (first | refine W.w ?_ | refine zz rfl (qal rfl ?_) | refine zz rfl (qaa rfl ?_))
 refine zz rfl (qar (evs := [str text]) rfl rfl ((parse_c text h t h8 hl).wf_post.mono ?_))
 rintro _ H1 ⟨⟨B, vg, va, rfl, hg, hav, x1⟩, w1, n1⟩
 rw [e1, e2]
 have h1 := qfx hg.one hav.one (parseP text).1.setup
 repeat (first | (refine zz rfl ?_; first | refine qaH rfl ?_ | refine qau rfl rfl ?_ | refine qat ?_))
 refine AL.eff rfl (qaI (vs := scrC vg va (parseP text).1.setup) rfl rfl rfl rfl h1 ?_)
 refine AL.heap (h := H1.alloc (scrB vg va (parseP text).1.setup)) rfl ?_
 obtain ⟨H2, hQ, g2, x2, _, _⟩ := aq w1 (scrB vg va (parseP text).1.setup)
 rw [hQ]
 obtain ⟨rows, r1, r2, _⟩ := (hav.ra.ext x2).ex
 have c4 := qc2 4 H2
 repeat (first | refine W.w ?_ | (refine zz rfl ?_; first | refine qac rfl ?_ | refine qag rfl ?_ | refine qad rfl ?_ | refine qaa rfl ?_ | refine qaj (a := n) (b := n) rfl rfl rfl rfl ?_ | refine qab rfl rfl c4 ?_ | refine qan rfl ?_ | refine qae rfl rfl g2 rfl ?_ | refine qav r1 rfl ?_ | refine qaj rfl rfl rfl (by omega) ?_ | refine qai (v := .bool _) rfl rfl ?_))
 exact ⟨_, ResV.tmp rfl, rfl, x1.trans x2, rfl, rfl⟩
theorem qhW (h : Heap) (t : Tabs h) (h8 : 8 ≤ h.next) : ACalls Tryz.prog 15 [] h fun u h' => u = .bool true ∧ h' = h := by
 refine ACalls.wf fun wf => ACalls.reset ?_
 refine ACalls.body Tryz.func15 rfl rfl ?_
 have c1 := qgs actV0 knL h t ((ActO.nil 0 h knL rfl rfl rfl).r (Nat.zero_le _))
 rw [show lineV knL = .tuple #[str knA, .int .i64 0] by unfold lineV; rw [if_pos qhL.1, qhL.2]] at c1
 repeat (first | refine W.w ?_ | (refine zz rfl ?_; first | refine qaH rfl ?_ | refine qad rfl ?_ | refine qaa rfl ?_ | refine qaf rfl ?_ | refine qay (out := actC actV0 knL) rfl rfl ?_ | refine qab rfl rfl c1 ?_ | refine qau rfl rfl ?_))
 refine zz rfl (qaL (bv [97]) rfl rfl rfl rfl (qcM _) ?_)
 refine AL.heap (h := h.alloc ⟨bv [97], 5, true⟩) rfl ?_
 have x1 := wf.ext ⟨bv [97], 5, true⟩
 have w1 := wf.alloc ⟨bv [97], 5, true⟩
 have g1 := Heap.alloc_new h ⟨bv [97], 5, true⟩
 have o1 : OS 0 (h.alloc ⟨bv [97], 5, true⟩) 5 (.slice (some ⟨h.next, 0, some 1⟩) 1 1) (bv [97]) := OS.new (Nat.zero_le _) rfl
 have n1 : 8 ≤ (h.alloc ⟨bv [97], 5, true⟩).next := by show 8 ≤ h.next + 1; omega
 generalize h.alloc ⟨bv [97], 5, true⟩ = H1 at x1 w1 g1 o1 n1 ⊢
 have c2 := qgs ⟨⟨.slice (some ⟨h.next, 0, some 1⟩) 1 1, nilS, nilS, nilS⟩, cmdV0, nilS⟩ knM H1 (t.ext x1) ⟨⟨o1.rb, RB.nil _, RB.nil _, RB.nil _⟩, CmdR.nil _, RK.nil _⟩
 rw [show lineV knM = .tuple #[str knB, .int .i64 0] by unfold lineV; rw [if_pos qh0.1, qh0.2]] at c2
 have c3 := qgs actV0 knN H1 (t.ext x1) ((ActO.nil 0 H1 knN rfl rfl rfl).r (Nat.zero_le _))
 rw [show lineV knN = .tuple #[str [], .int .i64 2] by unfold lineV; rw [if_neg (by rw [knN_line]; decide)]] at c3
 refine zz rfl (qgL rfl rfl g1 rfl ?_)
 repeat (first | refine W.w ?_ | (refine zz rfl ?_; first | refine qaH rfl ?_ | refine qad rfl ?_ | refine qaf rfl ?_ | refine qay (out := askC ⟨.slice (some ⟨h.next, 0, some 1⟩) 1 1, nilS, nilS, nilS⟩ knM.ask) rfl rfl ?_ | refine qay (out := actC ⟨⟨.slice (some ⟨h.next, 0, some 1⟩) 1 1, nilS, nilS, nilS⟩, cmdV0, nilS⟩ knM) rfl rfl ?_ | refine qab rfl rfl c2 ?_ | refine qau rfl rfl ?_ | refine qay (out := actC actV0 knN) rfl rfl ?_ | refine qab rfl rfl c3 ?_))
 skip
 have c2 := (qc7 knC H1 (t.ext x1) (by omega) (by decide)).wf_post
 rw [show unA knC = (knO, 0) by unfold unA; rw [knC_act]] at c2
 refine zz rfl (qar (evs := [str knC]) rfl rfl (c2.mono ?_))
 rintro _ K2 ⟨⟨q2, rfl, ⟨⟨B2, o2⟩, k2⟩, y2⟩, v2, m2⟩
 have e2 := qaF (o2.r k2)
 repeat (first | (refine zz rfl ?_; first | refine qaH rfl ?_ | refine qau rfl rfl ?_ | refine qat ?_))
 refine AL.eff rfl (qaI (vs := actC q2 knO) rfl rfl rfl rfl e2 ?_)
 refine AL.heap (h := K2.alloc ⟨actC q2 knO, 40, true⟩) rfl ?_
 obtain ⟨H2, hQ, g2, z2, w2, nQ⟩ := aq v2 ⟨actC q2 knO, 40, true⟩
 rw [hQ]
 have n2 : 8 ≤ H2.next := by omega
 have x2 := x1.trans (y2.trans z2)
 repeat (first | refine W.w ?_ | refine zz rfl (qad rfl ?_))
 have c3 := (qc7 knD H2 (t.ext x2) (by omega) (by decide)).wf_post
 rw [show unA knD = (act0, 4) by unfold unA; rw [knD_act]] at c3
 refine zz rfl (qar (evs := [str knD]) rfl rfl (c3.mono ?_))
 rintro _ K3 ⟨⟨q3, rfl, ⟨⟨B3, o3⟩, k3⟩, y3⟩, v3, m3⟩
 have e3 := qaF (o3.r k3)
 repeat (first | (refine zz rfl ?_; first | refine qaH rfl ?_ | refine qau rfl rfl ?_ | refine qat ?_))
 refine AL.eff rfl (qaI (vs := actC q3 act0) rfl rfl rfl rfl e3 ?_)
 refine AL.heap (h := K3.alloc ⟨actC q3 act0, 40, true⟩) rfl ?_
 obtain ⟨H3, hQ, g3, z3, w3, nQ⟩ := aq v3 ⟨actC q3 act0, 40, true⟩
 rw [hQ]
 have n3 : 8 ≤ H3.next := by omega
 have x3 := x2.trans (y3.trans z3)
 repeat (first | refine W.w ?_ | refine zz rfl (qad rfl ?_))
 have c4 := (qc7 knE H3 (t.ext x3) (by omega) (by decide)).wf_post
 rw [show unA knE = (act0, 4) by unfold unA; rw [knE_act]] at c4
 refine zz rfl (qar (evs := [str knE]) rfl rfl (c4.mono ?_))
 rintro _ K4 ⟨⟨q4, rfl, ⟨⟨B4, o4⟩, k4⟩, y4⟩, v4, m4⟩
 have e4 := qaF (o4.r k4)
 repeat (first | (refine zz rfl ?_; first | refine qaH rfl ?_ | refine qau rfl rfl ?_ | refine qat ?_))
 refine AL.eff rfl (qaI (vs := actC q4 act0) rfl rfl rfl rfl e4 ?_)
 refine AL.heap (h := K4.alloc ⟨actC q4 act0, 40, true⟩) rfl ?_
 obtain ⟨H4, hQ, g4, z4, w4, nQ⟩ := aq v4 ⟨actC q4 act0, 40, true⟩
 rw [hQ]
 have n4 : 8 ≤ H4.next := by omega
 have x4 := x3.trans (y4.trans z4)
 repeat (first | refine W.w ?_ | refine zz rfl (qad rfl ?_))
 have c5 := (qc7 knF H4 (t.ext x4) (by omega) (by decide)).wf_post
 rw [show unA knF = (act0, 4) by unfold unA; rw [knF_act]] at c5
 refine zz rfl (qar (evs := [str knF]) rfl rfl (c5.mono ?_))
 rintro _ K5 ⟨⟨q5, rfl, ⟨⟨B5, o5⟩, k5⟩, y5⟩, v5, m5⟩
 have e5 := qaF (o5.r k5)
 repeat (first | (refine zz rfl ?_; first | refine qaH rfl ?_ | refine qau rfl rfl ?_ | refine qat ?_))
 refine AL.eff rfl (qaI (vs := actC q5 act0) rfl rfl rfl rfl e5 ?_)
 refine AL.heap (h := K5.alloc ⟨actC q5 act0, 40, true⟩) rfl ?_
 obtain ⟨H5, hQ, g5, z5, w5, nQ⟩ := aq v5 ⟨actC q5 act0, 40, true⟩
 rw [hQ]
 have n5 : 8 ≤ H5.next := by omega
 have x5 := x4.trans (y5.trans z5)
 have u2 := z5.c _ _ (y5.c _ _ (z4.c _ _ (y4.c _ _ (z3.c _ _ (y3.c _ _ g2)))))
 have s2 : ActR H5 q2 knO := ((o2.r k2).ext (z2.trans (y3.trans z3))).ext ((y4.trans z4).trans (y5.trans z5))
 repeat (first | refine W.w ?_ | (refine zz rfl ?_; first | refine qad rfl ?_ | refine qay (out := cmdC cmdV0 knO.cmd) rfl rfl ?_ | refine qay (out := actC actV0 knO) rfl rfl ?_ | refine qat ?_))
 refine AL.eff rfl (qaI (vs := actC actV0 knO) rfl rfl rfl rfl rfl ?_)
 refine AL.heap (h := H5.alloc ⟨actC actV0 knO, 40, true⟩) rfl ?_
 obtain ⟨H6, hQ, g6, z6, w6, nQ⟩ := aq w5 ⟨actC actV0 knO, 40, true⟩
 rw [hQ]
 have n6 : 8 ≤ H6.next := by omega
 have x6 := x5.trans z6
 repeat (first | refine W.w ?_)
 refine zz rfl (qar (evs := [str knT]) rfl rfl ((parse_c knT H6 (t.ext x6) n6 (by decide)).wf_post.mono ?_))
 rintro _ K7 ⟨⟨B7, vg, va, rfl, hg, hav, y7⟩, v7, m7⟩
 obtain ⟨e1, e2⟩ := Prod.mk.inj qhw.1
 obtain ⟨_, lg, la⟩ := qhw
 rw [e1, e2]
 have h1 := qfx hg.one hav.one (parseP knT).1.setup
 repeat (first | (refine zz rfl ?_; first | refine qaH rfl ?_ | refine qau rfl rfl ?_ | refine qat ?_))
 refine AL.eff rfl (qaI (vs := scrC vg va (parseP knT).1.setup) rfl rfl rfl rfl h1 ?_)
 refine AL.heap (h := K7.alloc (scrB vg va (parseP knT).1.setup)) rfl ?_
 obtain ⟨H7, hQ, g7, z7, _, nQ⟩ := aq v7 (scrB vg va (parseP knT).1.setup)
 rw [hQ]
 have n7 : 8 ≤ H7.next := by omega
 have x7 := x6.trans (y7.trans z7)
 obtain ⟨rows, r1, r2, _⟩ := (hav.ra.ext z7).ex
 obtain ⟨vs, q1, q2', _⟩ := (hg.rg.ext z7)
 have p2 := (z6.trans (y7.trans z7)).c _ _ u2
 have p6 := (y7.trans z7).c _ _ g6
 have d0 := qc2 0 H7
 have d2 := qc2 2 H7
 have d4 := qc2 4 H7
 have dS := qfa q2 actV0 knO knO H7 (s2.ext (z6.trans (y7.trans z7))) ⟨AskR.nil _, ⟨AskR.nil _, ⟨RB.nil _, RB.nil _⟩, RE.nil _, RB.nil _, RB.nil _⟩, RK.nil _⟩
 rw [show decide (knO = knO) = true by decide] at dS
 have dU := qdK knU 1 H7 (t.ext x7) n7 (by decide) knU_read
 have dV := qdK knV 3 H7 (t.ext x7) n7 (by decide) knV_read
 have dW := qdK knW 2 H7 (t.ext x7) n7 (by decide) knW_read
 have dX := qdK knX 3 H7 (t.ext x7) n7 (by decide) knX_read
 repeat (first | refine W.w ?_ | (refine zz rfl ?_; first | refine qac rfl ?_ | refine qag rfl ?_ | refine qal rfl ?_ | refine qad rfl ?_ | refine qaa rfl ?_ | refine qaW (a := knA) (b := knA) rfl rfl rfl ?_ | refine qaW (a := knB) (b := knB) rfl rfl rfl ?_ | refine qai (v := .bool _) rfl rfl ?_ | refine qab rfl rfl d0 ?_ | refine qab rfl rfl d2 ?_ | refine qab rfl rfl d4 ?_ | refine qaj rfl rfl rfl (by omega) ?_ | refine qah (sz := 33) rfl rfl p2 (Nat.le_refl _) ?_ | refine qah (sz := 33) rfl rfl p6 (Nat.le_refl _) ?_ | refine qab rfl rfl dS ?_ | refine qan rfl ?_ | refine qae rfl rfl g7 rfl ?_ | refine qaJ q1 rfl ?_ | refine qav r1 rfl ?_ | refine qab rfl rfl dU ?_ | refine qab rfl rfl dV ?_ | refine qab rfl rfl dW ?_ | refine qab rfl rfl dX ?_ | refine qas rfl rfl (by omega) ?_))
 exact ⟨_, ResV.tmp rfl, rfl, x7, rfl, rfl⟩
instance i_rword : FnC Tryz.prog 102 := ⟨Tryz.f102, Tryz.func102, by kernel_rfl, by kernel_rfl⟩
structure Gr (h : Heap) (e : TypeId) (vs : List Value) (H : Heap) (u : Value) : Prop where
 os : OS h.next H e u vs
 ext : Ext h H
 wf : WF H
 nx : h.next ≤ H.next
theorem Gr.nil {h : Heap} (wf : WF h) (e : TypeId) : Gr h e [] h (.slice none 0 0) := ⟨OS.nil _ _ _, Ext.refl h, wf, Nat.le_refl _⟩
theorem Gr.more {h H H' : Heap} {e : TypeId} {vs : List Value} {u : Value} (g : Gr h e vs H u) (hx : Ext H H') (wf : WF H') (hn : H.next ≤ H'.next) : Gr h e vs H' u := ⟨g.os.ext hx, g.ext.trans hx, wf, Nat.le_trans g.nx hn⟩
section
variable {ρ : Operand → Value} {h : Heap} {K : Value → Heap → Prop} {dst : Option Tmp} {ty : TypeId} {pos : String} {aft : Array Edge} {g : Option (Nat × Bool)} {t t' : TypeId} {x y : Operand}
end
theorem hex_ix : ∀ n : Fin 16, (bstr wordHex)[((n.val : Nat) : Int).toNat]? = some (hexC n.val) := by decide +kernel
theorem rword_c (v : Value) (l : Bytes) (h : Heap) (r : RB h v l) (hl : l.length ≤ 100000000) : ACalls Tryz.prog 102 [v] h fun u h' => u = str (wordM l) ∧ h' = h := by
 refine ACalls.wf fun wf => ACalls.reset ?_
 refine ACalls.body Tryz.func102 rfl rfl ?_
 obtain ⟨va, vc, hv⟩ := RS.slice r
 by_cases h0 : l.length = 0
 ·
  have hl0 : l = [] := List.length_eq_zero_iff.1 h0
  repeat (first | refine W.w ?_ | refine AWp.c8 rfl ?_ | (refine zz rfl ?_; first | refine qaf rfl ?_ | refine qam (v := v) rfl ?_ | refine qaG r rfl ?_ | refine qaj rfl rfl rfl (by omega) ?_))
  refine ⟨_, ResV.tmp rfl, rfl, Ext.refl h, ?_, rfl⟩
  rw [hl0]
  rfl
 ·
  have hne : ¬ l = [] := fun e => h0 (by rw [e]; rfl)
  repeat (first | refine W.w ?_ | refine AWp.c9 rfl ?_ | (refine zz rfl ?_; first | refine qad rfl ?_ | refine qa5 rfl ?_ | refine qaf rfl ?_ | refine qam (v := v) rfl ?_ | refine qaG r rfl ?_ | refine qak rfl rfl rfl (by omega) ?_))
  refine AWp.loop (α := Nat × Heap × Value) (fun d => [(0, v), (3, d.2.2), (4, .int .i64 (d.1 : Nat))]) (fun d => d.2.1) (fun d => d.1 ≤ l.length ∧ Gr h 5 (bv ((l.take d.1).flatMap encB)) d.2.1 d.2.2) (fun d => l.length - d.1) (0, h, .slice none 0 0) ⟨Nat.zero_le _, Gr.nil wf _⟩
   (Weak.same (EW.cons rfl (EW.cons rfl (EW.cons rfl EW.nil)))) ?_
  rintro ⟨k, H, u⟩ ⟨hk, gg⟩
  replace hk : k ≤ l.length := hk
  replace gg : Gr h 5 (bv ((l.take k).flatMap encB)) H u := gg
  show AWp _ _ _ _ [(0, v), (3, u), (4, .int .i64 (k : Nat))] H
  have rH := r.ext gg.ext
  have ru := RS.slice gg.os.rs
  obtain ⟨ua, uc, hu⟩ := ru
  have hlen := qcU (l.take k)
  rw [List.length_take] at hlen
  by_cases hlt : k < l.length
  ·
   obtain ⟨ch, hc⟩ : ∃ ch, l[k]? = some ch := ⟨_, List.getElem?_eq_getElem hlt⟩
   have hft := qc3 (f := encB) hc
   have lc := ch.toNat_lt
   by_cases hp1 : plainC ch = true
   ·
    have he := qcZ hp1
    obtain ⟨q1, q2, q3⟩ : 32 < ch.toNat ∧ ch.toNat < 127 ∧ ch.toNat ≠ 37 := of_decide_eq_true hp1
    repeat (first | refine W.w ?_ | refine AWp.c8 rfl ?_ | (refine zz rfl ?_; first | refine qac rfl ?_ | refine qag rfl ?_ | refine qam (v := v) rfl ?_ | refine qam (v := u) rfl ?_ | refine qaG rH rfl ?_ | refine qaj rfl rfl rfl (by omega) ?_ | refine qai (v := .bool _) rfl rfl ?_ | refine qaM rH rfl rfl (by omega) (bvAt hc rfl) fun _ => ?_ | refine qaw (PT.of rH (bvAt hc rfl)) rfl rfl ?_ | refine qaL (bv [ch]) rfl rfl rfl rfl (qcM _) ?_))
    obtain ⟨H3, hQ, gr, xr, wr, _⟩ := aq gg.wf ⟨bv [ch], 5, true⟩
    rw [hQ]
    have rb : RB H3 (.slice (some ⟨H.next, 0, some 1⟩) 1 1) [ch] := RS.own gr rfl
    have n3 := wr.lt gr
    have g3 := gg.more xr wr (by omega)
    refine zz rfl (qa3 (z := .int .u8 0) (B := h.next) (e := 5) rfl wr g3.nx g3.os rfl rfl rb.src (qaA _) (qcG _) (by rw [qaA]; simp only [maxLen, List.length_cons, List.length_nil]; omega) (by rw [qaA]; simp only [List.length_cons, List.length_nil]; omega) ?_)
    intro u' H4 o4 k4 wf4 n4
    rw [← qb5] at o4
    have g4 : Gr h 5 _ H4 u' := ⟨o4, k4.ext g3.os wf (Nat.le_refl _) g3.ext, wf4, Nat.le_trans g3.nx n4⟩
    repeat (first | refine W.w ?_ | (refine zz rfl ?_; first | refine qac rfl ?_ | refine qad rfl ?_ | refine qaq (v := u') rfl ?_ | refine qas rfl rfl (by omega) ?_))
    exact ⟨(k + 1, H4, u'), ⟨hlt, by show Gr h _ (bv ((l.take (k + 1)).flatMap encB)) H4 u'; rw [hft, he]; exact g4⟩, by show l.length - (k + 1) < l.length - k; omega, Weak.same (EW.cons rfl (EW.cons rfl (EW.cons rfl EW.nil)))⟩
   ·
    have he := qfh hp1
    have hp2 : ¬ (32 < ch.toNat ∧ ch.toNat < 127 ∧ ch.toNat ≠ 37) := fun e => hp1 (decide_eq_true e)
    have hA := hex_ix ⟨ch.toNat / 16, by omega⟩
    have hB := hex_ix ⟨ch.toNat % 16, by omega⟩
    repeat' (first | refine W.w ?_ | refine AL.skip rfl rfl ?_ | refine AWp.c8 rfl ?_ | refine AWp.c9 rfl ?_ | (refine zz rfl ?_; first | refine qac rfl ?_ | refine qag rfl ?_ | refine qam (v := v) rfl ?_ | refine qaG rH rfl ?_ | refine qaj rfl rfl rfl (by omega) ?_ | refine qak rfl rfl rfl (by omega) ?_ | refine qai (v := .bool _) rfl rfl ?_ | refine qaM rH rfl rfl (by omega) (bvAt hc rfl) fun _ => ?_ | refine qaw (PT.of rH (bvAt hc rfl)) rfl rfl ?_ | refine qaO rfl rfl rfl (fun c => ?_) (fun c => ?_)))
    all_goals first | (exfalso; omega) | skip
    all_goals (
     refine AWp.tree (t := OT.seq [(0, .R), (1, .R), (2, .R), (3, .R), (4, .R), (5, .R), (6, .R), (7, .R), (8, .R), (9, .R), (10, .R), (11, .R), (12, .R), (13, .X), (14, .W), (15, .R)] .nil) mixed (by kernel_rfl) ?_
     repeat (first | refine TAL.r rfl rfl rfl (fun h' hx hn => qac rfl ⟨rfl, rfl⟩) ?_ | refine TAL.r rfl rfl rfl (fun h' hx hn => qam (v := v) rfl ⟨rfl, rfl⟩) ?_ | refine TAL.r rfl rfl rfl (fun h' hx hn => qam (v := u) rfl ⟨rfl, rfl⟩) ?_ | refine TAL.r rfl rfl rfl (fun h' hx hn => qaM (rH.ext hx) rfl rfl (by omega) (bvAt hc rfl) fun _ => ⟨rfl, rfl⟩) ?_ | refine TAL.r rfl rfl rfl (fun h' hx hn => qaw (PT.of (rH.ext hx) (bvAt hc rfl)) rfl rfl ⟨rfl, rfl⟩) ?_ | refine TAL.r rfl rfl rfl (fun h' hx hn => op_shr4 rfl rfl ⟨rfl, rfl⟩) ?_ | refine TAL.r rfl rfl rfl (fun h' hx hn => qhU rfl rfl ⟨rfl, rfl⟩) ?_ | refine TAL.r rfl rfl rfl (fun h' hx hn => qbx rfl rfl (by omega) hA ⟨rfl, rfl⟩) ?_ | refine TAL.r rfl rfl rfl (fun h' hx hn => qbx rfl rfl (by omega) hB ⟨rfl, rfl⟩) ?_)
     refine TAL.x rfl rfl rfl (qaL (bv [37, hexC (ch.toNat / 16), hexC (ch.toNat % 16)]) rfl rfl rfl rfl (qcM _) ⟨gg.wf.ext _, ?_⟩)
     obtain ⟨H3, hQ, gr, xr, wr, _⟩ := aq gg.wf ⟨bv [37, hexC (ch.toNat / 16), hexC (ch.toNat % 16)], 5, true⟩
     rw [hQ]
     have rb : RB H3 (.slice (some ⟨H.next, 0, some 1⟩) 3 3) [37, hexC (ch.toNat / 16), hexC (ch.toNat % 16)] := RS.own gr rfl
     have n3 := wr.lt gr
     have g3 := gg.more xr wr (by omega)
     refine TAL.w rfl rfl rfl (qa3 (z := .int .u8 0) (B := h.next) (e := 5) rfl wr g3.nx g3.os rfl rfl rb.src (qaA _) (qcG _) (by rw [qaA]; simp only [maxLen, List.length_cons, List.length_nil]; omega) (by rw [qaA]; simp only [List.length_cons, List.length_nil]; omega) ?_)
     intro u' H4 o4 k4 wf4 n4
     rw [← qb5] at o4
     have g4 : Gr h 5 _ H4 u' := ⟨o4, k4.ext g3.os wf (Nat.le_refl _) g3.ext, wf4, Nat.le_trans g3.nx n4⟩
     repeat (first | refine TAL.r rfl rfl rfl (fun h' hx hn => qaq (v := u') rfl ⟨rfl, rfl⟩) ?_)
     refine TAL.nil ?_
     repeat (first | refine W.w ?_ | (refine zz rfl ?_; first | refine qac rfl ?_ | refine qad rfl ?_ | refine qas rfl rfl (by omega) ?_))
     exact ⟨(k + 1, H4, u'), ⟨hlt, by show Gr h _ (bv ((l.take (k + 1)).flatMap encB)) H4 u'; rw [hft, he]; exact g4⟩, by show l.length - (k + 1) < l.length - k; omega, Weak.same (EW.cons rfl (EW.cons rfl (EW.cons rfl EW.nil)))⟩)
  ·
   obtain rfl : k = l.length := by omega
   rw [List.take_length] at gg
   have rb : RB H u (l.flatMap encB) := gg.os.rs
   repeat (first | refine AL.nil ?_ | refine AWp.seq ?_ | refine AWp.r9 ?_ | refine AWp.c9 rfl ?_ | refine AWp.ret ?_ | refine AWp.exit ?_ | (refine zz rfl ?_; first | refine qac rfl ?_ | refine qaf rfl ?_ | refine qam (v := v) rfl ?_ | refine qam (v := u) rfl ?_ | refine qaG rH rfl ?_ | refine qak rfl rfl rfl (by omega) ?_ | refine qao rb rfl ?_))
   have e : wordM l = l.flatMap encB := by unfold wordM; rw [if_neg hne]
   rw [e]
   exact ⟨_, ResV.tmp rfl, rfl, gg.ext, rfl, rfl⟩
instance i_rnames : FnC Tryz.prog 101 := ⟨Tryz.f101, Tryz.func101, by kernel_rfl, by kernel_rfl⟩
instance i_rName : FnC Tryz.prog 49 := ⟨Tryz.f49, Tryz.func49, by kernel_rfl, by kernel_rfl⟩
instance i_rB : FnC Tryz.prog 51 := ⟨Tryz.f51, Tryz.func51, by kernel_rfl, by kernel_rfl⟩
structure UrI (h : Heap) (s : Bytes) (i : Nat) (acc : Bytes) (H : Heap) (u : Value) : Prop where
 le : i ≤ s.length
 eq : unR s = (unR (s.drop i)).map (acc ++ ·)
 gr : Gr h 5 (bv acc) H u
 len : acc.length ≤ i
def UwOk (h : Heap) (s : Bytes) (u : Value) (h' : Heap) : Prop := ∃ v b, u = .tuple #[v, .bool (unwordR s).isSome] ∧ OS h.next h' 5 v (bv b) ∧ b.length ≤ s.length ∧ Ext h h' ∧ ((unwordR s).isSome = true → unwordR s = some b)
instance i_TyD_Sl_Sl_uint8 : TyD Tryz.prog 135 (.slice 27) := ⟨Tryz.underlying135⟩
abbrev noB (s : Bytes) : Prop := ∀ c ∈ s, c ≠ 32
structure WdI (h : Heap) (s : Bytes) (i at_ : Nat) (ws : List Bytes) (H : Heap) (u : Value) : Prop where
 gr : Gr h 9 (ws.map str) H u
 len : ws.length ≤ i
 alt : (i ≤ s.length ∧ at_ ≤ i ∧ wordsS s = ws ++ wordsS (s.drop at_) ∧ noB ((s.take i).drop at_)) ∨ (i = s.length + 1 ∧ wordsS s = ws)
theorem qfz (w : Bytes) : ∀ v ∈ [str w], oneB v = true := by
 intro v hv
 rw [List.mem_singleton.1 hv]
 rfl
def namesL : List Bytes := [[], [116, 105, 109, 101, 114], [98, 101, 97, 116], [104, 101, 97, 114], [100, 114, 111, 112], [100, 111, 117, 98, 108, 101], [97, 112, 112, 108, 121], [119, 111, 114, 107], [100, 114, 105, 118, 101], [112, 108, 97, 110], [97, 115, 107], [97, 103, 97, 105, 110], [99, 114, 97, 115, 104], [115, 116, 97, 114, 116]]
theorem names_at : ∀ i : Fin 13, namesL[i.val + 1]? = some (kword (i.val + 1)) := by decide +kernel
theorem strs_ones (ws : List Bytes) : ∀ v ∈ ws.map str, oneB v = true := by
 intro v hv
 obtain ⟨w, _, rfl⟩ := List.mem_map.1 hv
 rfl
theorem rnames_c (h : Heap) : ACalls Tryz.prog 101 [] h fun u h' => u = .slice (some ⟨h.next, 0, some 1⟩) 14 14 ∧ h' = h.alloc ⟨namesL.map str, 9, true⟩ := by
 refine ACalls.body Tryz.func101 rfl rfl ?_
 repeat (first | refine W.w ?_ | refine zz rfl (qa5 rfl ?_) | refine zz rfl (qaL (namesL.map str) rfl rfl rfl rfl (strs_ones _) ?_))
 exact ⟨_, ResV.tmp rfl, rfl, rfl⟩
theorem rName_c (k : Int) (hk : 1 ≤ k ∧ k ≤ 13) (h : Heap) : ACalls Tryz.prog 49 [.int .i64 k] h fun u h' => u = str (kword k) ∧ h' = h := by
 refine ACalls.wf fun wf => ACalls.reset ?_
 refine ACalls.body Tryz.func49 rfl rfl ?_
 repeat (first | refine W.w ?_ | refine zz rfl (qaf rfl ?_))
 refine zz rfl (qar rfl rfl ((rnames_c h).mono ?_))
 rintro _ H1 ⟨rfl, hH1⟩
 cases hH1.symm
 obtain ⟨H1, hQ, g1, x1, _, _⟩ := aq wf ⟨namesL.map str, 9, true⟩
 rw [hQ]
 have r1 : RS H1 (.slice (some ⟨h.next, 0, some 1⟩) 14 14) (namesL.map str) := RS.own g1 rfl
 have hn : (namesL.map str)[k.toNat]? = some (str (kword k)) := by
  have := names_at ⟨(k - 1).toNat, by omega⟩
  have e1 : (k - 1).toNat + 1 = k.toNat := by omega
  have e2 : (((k - 1).toNat : Nat) : Int) + 1 = k := by omega
  simp only [e1, e2] at this
  rw [List.getElem?_map, this]
  rfl
 repeat (first | refine W.w ?_ | (refine zz rfl ?_; first | refine qac rfl ?_ | refine qaf rfl ?_ | refine qaM r1 rfl rfl (by omega) hn fun _ => ?_ | refine qaw (PT.of r1 hn) rfl rfl ?_))
 exact ⟨_, ResV.tmp rfl, rfl, x1, rfl, rfl⟩
theorem rB_c (s : Bytes) (v : Value) (l : List Bytes) (h : Heap) (r : RBB h v l) (hs : s.length ≤ 100000) (hb : ∀ b ∈ l, b.length ≤ 1000) (hl : l.length ≤ 100) : ACalls Tryz.prog 51 [str s, v] h fun u h' => u = str (s ++ tailW (l.map wordM)) ∧ h' = h := by
 refine ACalls.body Tryz.func51 rfl rfl ?_
 obtain ⟨vs, r1, r2, r3⟩ := r
 obtain ⟨va, vc, hv⟩ := RS.slice r1
 repeat (first | refine W.w ?_ | refine zz rfl (qad rfl ?_) | refine zz rfl (qaf rfl ?_))
 refine AWp.loop (α := Nat) (fun k => [(0, str (s ++ tailW ((l.take k).map wordM))), (1, v), (5, .int .i64 (k : Nat))]) (fun _ => h) (fun k => k ≤ l.length ∧ (tailW ((l.take k).map wordM)).length ≤ 3002 * k) (fun k => l.length - k) 0 ⟨Nat.zero_le _, Nat.le_refl _⟩ (Weak.same (EW.cons (congrArg str (List.append_nil s).symm) (EW.cons rfl (EW.cons rfl EW.nil)))) ?_
 rintro k ⟨hk, hkl⟩
 by_cases hlt : k < l.length
 ·
  obtain ⟨b, hbk⟩ : ∃ b, l[k]? = some b := ⟨_, List.getElem?_eq_getElem hlt⟩
  obtain ⟨x, hx⟩ : ∃ x, vs[k]? = some x := ⟨_, List.getElem?_eq_getElem (by omega)⟩
  have hxk : vs[((k : Nat) : Int).toNat]? = some x := hx
  have rb := r3 k x b hx hbk
  have hbl := hb b (List.mem_of_getElem? hbk)
  have cw := rword_c x b h rb (by omega)
  have hwl : (wordM b).length ≤ 3001 := by
   unfold wordM
   split
   ·
    simp
   ·
    have := qcU b; omega
  have e : s ++ tailW ((l.take (k + 1)).map wordM) = s ++ tailW ((l.take k).map wordM) ++ [32] ++ wordM b := by
   rw [List.take_add_one, hbk, List.map_append, qca]
   simp [tailW]
  have e2 : tailW ((l.take (k + 1)).map wordM) = tailW ((l.take k).map wordM) ++ 32 :: wordM b := by
   rw [List.take_add_one, hbk, List.map_append, qca]
   simp [tailW]
  repeat (first | refine W.w ?_ | refine AWp.c8 rfl ?_ | (refine zz rfl ?_; first | refine qac rfl ?_ | refine qal rfl ?_ | refine qad rfl ?_ | refine qaf rfl ?_ | refine qam (v := v) rfl ?_ | refine qaJ r1 rfl ?_ | refine qaj rfl rfl rfl (by omega) ?_ | refine qby rfl rfl (by simp only [maxLen, List.length_append, List.length_cons, List.length_nil]; omega) ?_ | refine qaM r1 rfl rfl (by omega) hxk fun _ => ?_ | refine qaw (PT.of r1 hxk) rfl rfl ?_ | refine qab rfl rfl cw ?_ | refine qas rfl rfl (by omega) ?_))
  exact ⟨k + 1, ⟨hlt, by rw [e2, List.length_append, List.length_cons]; omega⟩, by omega, Weak.same (EW.cons (congrArg str e.symm) (EW.cons rfl (EW.cons rfl EW.nil)))⟩
 ·
  obtain rfl : k = l.length := by omega
  rw [List.take_length] at hkl ⊢
  repeat (first | refine AL.nil ?_ | refine AWp.seq ?_ | refine AWp.r9 ?_ | refine AWp.c9 rfl ?_ | refine AWp.ret ?_ | refine AWp.exit ?_ | (refine zz rfl ?_; first | refine qac rfl ?_ | refine qal rfl ?_ | refine qaf rfl ?_ | refine qam (v := v) rfl ?_ | refine qaJ r1 rfl ?_ | refine qak rfl rfl rfl (by omega) ?_))
  exact ⟨_, ResV.tmp rfl, rfl, rfl⟩
end Go.Proofs.YtigmojilaadbhaaGreatDoor
/- . -/
namespace Go.Pln
open Go Go.Lib
end Go.Pln
/- . -/
namespace Go.Proofs.YtigmojilaadbhaaGreatDoor
open Go Go.Eng Go.Pln Go.Lib
attribute [local irreducible] AWp AL DAL AOp TAL
structure RW (B : Nat) (h : Heap) (v : Value) (ws : List Bytes) : Prop where
 os : OS B h 9 v (ws.map str)
 len : ws.length ≤ 1000000000
 all : ∀ w ∈ ws, w.length ≤ 100000000
def WiOk (B : Nat) (ws : List Bytes) (i : Nat) (u : Value) (h' : Heap) : Prop := ∃ v b, u = .tuple #[v, .bool (wordI ws i).isSome] ∧ OS B h' 5 v (bv b) ∧ ((wordI ws i).isSome = true → wordI ws i = some b)
structure UaI (h : Heap) (j4 j6 : Nat) (q : AskV) (a : AskM) (H : Heap) : Prop where
 ext : Ext h H
 wf : WF H
 nx : h.next ≤ H.next
 n4 : h.next ≤ j4
 n6 : h.next ≤ j6
 ne : j4 ≠ j6
 g4 : H.get j4 = some ⟨askC askV0 ask0, 29, true⟩
 g6 : H.get j6 = some ⟨askC q a, 29, true⟩
 o : AskO h.next H q a
structure UpI (h : Heap) (j4 j6 : Nat) (q : CmdV) (a : CmdM) (H : Heap) : Prop where
 ext : Ext h H
 wf : WF H
 nx : h.next ≤ H.next
 n4 : h.next ≤ j4
 n6 : h.next ≤ j6
 ne : j4 ≠ j6
 g4 : H.get j4 = some ⟨cmdC cmdV0 cmd0, 37, true⟩
 g6 : H.get j6 = some ⟨cmdC q a, 37, true⟩
 o : CmdO h.next H q a
instance i_rAsk : FnC Tryz.prog 52 := ⟨Tryz.f52, Tryz.func52, by kernel_rfl, by kernel_rfl⟩
def RBs (h : Heap) : List Value → List Bytes → Prop
 | [], [] => True
 | v :: vs, l :: ll => RB h v l ∧ RBs h vs ll
 | _, _ => False
theorem RBs.at {h : Heap} : ∀ {vs : List Value} {ll : List Bytes}, RBs h vs ll → vs.length = ll.length ∧ ∀ (k : Nat) x l, vs[k]? = some x → ll[k]? = some l → RB h x l
 | [], [], _ => ⟨rfl, fun k x l hx _ => by simp at hx⟩
 | v :: vs, l :: ll, r => by
  obtain ⟨h1, h2⟩ := RBs.at r.2
  refine ⟨by simp [h1], fun k x m hx hm => ?_⟩
  cases k with
  | zero => simp at hx hm; subst hx hm; exact r.1
  | succ k => simp at hx hm; exact h2 k x m hx hm
theorem RBs.rbb {h : Heap} {v : Value} {vs : List Value} {ll : List Bytes} (r : RBs h vs ll) (rs : RS h v vs) : RBB h v ll := ⟨vs, rs, r.at.1, r.at.2⟩
theorem RBs.ext {h h' : Heap} (hx : Ext h h') : ∀ {vs : List Value} {ll : List Bytes}, RBs h vs ll → RBs h' vs ll
 | [], [], _ => trivial
 | _ :: _, _ :: _, r => ⟨r.1.ext hx, RBs.ext hx r.2⟩
theorem RBs.ones {h : Heap} : ∀ {vs : List Value} {ll : List Bytes}, RBs h vs ll → ∀ v ∈ vs, oneB v = true
 | [], [], _, v, hv => by cases hv
 | w :: vs, l :: ll, r, v, hv => by
  rcases List.mem_cons.1 hv with rfl | hv
  ·
   exact r.1.one.1
  ·
   exact RBs.ones r.2 v hv
theorem qbL (l : List Int) : ∀ v ∈ iv64 l, oneB v = true := by
 intro v hv
 obtain ⟨n, _, rfl⟩ := List.mem_map.1 hv
 rfl
theorem rBx_c (s : Bytes) (v : Value) (l : List Bytes) {H : Heap} (r : RBB H v l) (hs : s.length ≤ 100000) (hb : ∀ b ∈ l, b.length ≤ 1000) (hl : l.length ≤ 100) (h : Heap) (hx : Ext H h) : ACalls Tryz.prog 51 [str s, v] h fun u h' => u = str (s ++ tailW (l.map wordM)) ∧ h' = h := rB_c s v l h (r.ext hx) hs hb hl
theorem rNx_c (s : Bytes) (v : Value) (l : List Int) {H : Heap} (r : RS H v (iv64 l)) (hi : ∀ n ∈ l, I64 n) (hl : s.length + 22 * l.length ≤ 140737488351232) (t : Tabs H) (h : Heap) (hx : Ext H h) : ACalls Tryz.prog 50 [str s, v] h fun u h' => u = str (s ++ tailW (l.map itoa)) ∧ h' = h := N_c s v l h (r.ext hx) hi hl (t.ext hx)
theorem rAsk_c (p : AskV) (a : AskM) (h : Heap) (r : AskR h p a) (hm : mayAsk a = true) (t : Tabs h) : ACalls Tryz.prog 52 [.agg (askC p a).toArray] h fun u h' => u = str (joinW (askW a)) ∧ h' = h := by
 obtain ⟨l1, l2, l3, l4, l5, l6, l7, l8⟩ := qcx hm
 refine ACalls.wf fun wf => ACalls.reset ?_
 refine ACalls.body Tryz.func52 rfl rfl ?_
 repeat (first | refine W.w ?_ | refine zz rfl (qaf rfl ?_) | refine zz rfl (qaK rfl (by intro e; cases e) ?_))
 generalize hH : h.alloc _ = H
 have hg : H.get h.next = some ⟨askC p a, 29, true⟩ := hH ▸ Heap.alloc_new _ _
 have xh : Ext h H := hH ▸ wf.ext _
 have wfH : WF H := hH ▸ wf.alloc _
 clear hH
 obtain ⟨q1, q2, q3, q4⟩ := r.ext xh
 by_cases k1 : a.kind = 1
 ·
  have he : askW a = [wGet, wordM a.key] := by unfold askW; rw [if_pos k1]
  have q : RBs H [p.k] [a.key] := ⟨q1, trivial⟩
  repeat (first | refine W.w ?_ | refine AWp.c8 rfl ?_ | (refine zz rfl ?_; first | refine qaa rfl ?_ | refine qan rfl ?_ | refine qae rfl rfl hg rfl ?_ | refine qaj rfl rfl rfl (by omega) ?_ | refine qaL [p.k] rfl rfl rfl rfl q.ones ?_))
  obtain ⟨H1, hQ, gr, xr, _, _⟩ := aq wfH ⟨[p.k], 27, true⟩
  rw [hQ]
  have rr : RBB H1 (.slice (some ⟨H.next, 0, some 1⟩) 1 1) [a.key] := (q.ext xr).rbb (RS.own gr rfl)
  have cb := rB_c wGet _ [a.key] H1 rr (by decide) (by intro b hb; simp only [List.mem_cons, List.not_mem_nil, or_false] at hb; rcases hb with rfl <;> omega) (by simp)
  repeat (first | refine W.w ?_ | refine zz rfl (qaf rfl ?_) | refine zz rfl (qab rfl rfl cb ?_))
  refine ⟨_, ResV.tmp rfl, rfl, xh.trans xr, ?_, rfl⟩
  rw [he, qaN]
  rfl
 by_cases k3 : a.kind = 3
 ·
  have he : askW a = [wDelete, wordM a.key] := by unfold askW; rw [if_neg k1, if_pos k3]
  have q : RBs H [p.k] [a.key] := ⟨q1, trivial⟩
  repeat (first | refine W.w ?_ | refine AWp.c8 rfl ?_ | refine AWp.c9 rfl ?_ | (refine zz rfl ?_; first | refine qaa rfl ?_ | refine qan rfl ?_ | refine qae rfl rfl hg rfl ?_ | refine qaj rfl rfl rfl (by omega) ?_ | refine qak rfl rfl rfl (by omega) ?_ | refine qaL [p.k] rfl rfl rfl rfl q.ones ?_))
  obtain ⟨H1, hQ, gr, xr, _, _⟩ := aq wfH ⟨[p.k], 27, true⟩
  rw [hQ]
  have rr : RBB H1 (.slice (some ⟨H.next, 0, some 1⟩) 1 1) [a.key] := (q.ext xr).rbb (RS.own gr rfl)
  have cb := rB_c wDelete _ [a.key] H1 rr (by decide) (by intro b hb; simp only [List.mem_cons, List.not_mem_nil, or_false] at hb; rcases hb with rfl <;> omega) (by simp)
  repeat (first | refine W.w ?_ | refine zz rfl (qaf rfl ?_) | refine zz rfl (qab rfl rfl cb ?_))
  refine ⟨_, ResV.tmp rfl, rfl, xh.trans xr, ?_, rfl⟩
  rw [he, qaN]
  rfl
 by_cases k2 : a.kind = 2
 ·
  have he : askW a = [wPut, wordM a.key, wordM a.value] := by unfold askW; rw [if_neg k1, if_neg k3, if_pos k2]
  have q : RBs H [p.k, p.v] [a.key, a.value] := ⟨q1, q3, trivial⟩
  repeat (first | refine W.w ?_ | refine AWp.c8 rfl ?_ | refine AWp.c9 rfl ?_ | (refine zz rfl ?_; first | refine qaa rfl ?_ | refine qan rfl ?_ | refine qae rfl rfl hg rfl ?_ | refine qaj rfl rfl rfl (by omega) ?_ | refine qak rfl rfl rfl (by omega) ?_ | refine qaL [p.k, p.v] rfl rfl rfl rfl q.ones ?_))
  obtain ⟨H1, hQ, gr, xr, _, _⟩ := aq wfH ⟨[p.k, p.v], 27, true⟩
  rw [hQ]
  have rr : RBB H1 (.slice (some ⟨H.next, 0, some 1⟩) 2 2) [a.key, a.value] := (q.ext xr).rbb (RS.own gr rfl)
  have cb := rB_c wPut _ [a.key, a.value] H1 rr (by decide) (by intro b hb; simp only [List.mem_cons, List.not_mem_nil, or_false] at hb; rcases hb with rfl | rfl <;> omega) (by simp)
  repeat (first | refine W.w ?_ | refine zz rfl (qaf rfl ?_) | refine zz rfl (qab rfl rfl cb ?_))
  refine ⟨_, ResV.tmp rfl, rfl, xh.trans xr, ?_, rfl⟩
  rw [he, qaN]
  rfl
 by_cases k5 : a.kind = 5
 ·
  have he : askW a = [wScan, wordM a.key, wordM a.to, itoa a.most] := by unfold askW; rw [if_neg k1, if_neg k3, if_neg k2, if_pos k5]
  have q : RBs H [p.k, p.t] [a.key, a.to] := ⟨q1, q2, trivial⟩
  have hb : ∀ b ∈ [a.key, a.to], b.length ≤ 1000 := by intro b hb; simp only [List.mem_cons, List.not_mem_nil, or_false] at hb; rcases hb with rfl | rfl <;> omega
  have hi : ∀ n ∈ [a.most], I64 n := by intro n hn; rw [List.mem_singleton.1 hn]; exact ⟨by omega, by omega⟩
  have hsl : (wScan ++ tailW ([a.key, a.to].map wordM)).length + 22 * [a.most].length ≤ 140737488351232 := by
   have w1 := qbo a.key
   have w2 := qbo a.to
   simp only [tailW, List.map_cons, List.map_nil, List.flatMap_cons, List.flatMap_nil, List.length_append, List.length_cons, List.length_nil]
   have : wScan.length = 4 := rfl
   omega
  have fin : str (wScan ++ tailW ([a.key, a.to].map wordM) ++ tailW ([a.most].map itoa)) = str (joinW (askW a)) := by
   rw [he, qaN]
   simp [tailW]
  repeat (first | refine W.w ?_ | refine AWp.c8 rfl ?_ | refine AWp.c9 rfl ?_ | (refine zz rfl ?_; first | refine qaa rfl ?_ | refine qan rfl ?_ | refine qae rfl rfl hg rfl ?_ | refine qaj rfl rfl rfl (by omega) ?_ | refine qak rfl rfl rfl (by omega) ?_))
  refine AWp.tree (t := OT.seq [(0, .R), (1, .R), (2, .R), (3, .R), (6, .R), (7, .R)] (.alt (OT.seq [(4, .X), (5, .R), (8, .X), (9, .R), (10, .R)] .nil) (OT.seq [(8, .X), (4, .X), (5, .R), (9, .R), (10, .R)] .nil))) mixed (by kernel_rfl) ?_
  repeat (first | refine TAL.r rfl rfl rfl (fun h' hx hn => qan rfl ⟨rfl, rfl⟩) ?_ | refine TAL.r rfl rfl rfl (fun h' hx hn => qae rfl rfl (hx.c _ _ hg) rfl ⟨rfl, rfl⟩) ?_)
  refine TAL.two ?_ ?_
  ·
   refine TAL.x rfl rfl rfl (qaL [p.k, p.t] rfl rfl rfl rfl q.ones ⟨wfH.ext _, ?_⟩)
   obtain ⟨H1, hQ, g1, x1, w1, _⟩ := aq wfH ⟨[p.k, p.t], 27, true⟩
   rw [hQ]
   have cB := rBx_c wScan (.slice (some ⟨H.next, 0, some 1⟩) 2 2) [a.key, a.to] ((q.ext x1).rbb (RS.own g1 rfl)) (by decide) hb (by simp)
   repeat (first | refine TAL.r rfl rfl rfl (fun h' hx hn => qab rfl rfl (cB h' hx) ⟨rfl, rfl⟩) ?_)
   refine TAL.x rfl rfl rfl (qaL (iv64 [a.most]) rfl rfl rfl rfl (qbL _) ⟨w1.ext _, ?_⟩)
   obtain ⟨H2, hQ, g2, x2, _, _⟩ := aq w1 ⟨iv64 [a.most], 3, true⟩
   rw [hQ]
   have cN := rNx_c (wScan ++ tailW ([a.key, a.to].map wordM)) (.slice (some ⟨H1.next, 0, some 1⟩) 1 1) [a.most] (H := H2) (RS.own g2 rfl) hi hsl (t.ext (xh.trans (x1.trans x2)))
   repeat (first | refine TAL.r rfl rfl rfl (fun h' hx hn => qaf rfl ⟨rfl, rfl⟩) ?_ | refine TAL.r rfl rfl rfl (fun h' hx hn => qab rfl rfl (cN h' hx) ⟨rfl, rfl⟩) ?_)
   refine TAL.nil ?_
   repeat (first | refine AWp.ret ?_)
   exact ⟨_, ResV.tmp rfl, rfl, xh.trans (x1.trans x2), fin, rfl⟩
  ·
   refine TAL.x rfl rfl rfl (qaL (iv64 [a.most]) rfl rfl rfl rfl (qbL _) ⟨wfH.ext _, ?_⟩)
   obtain ⟨H1, hQ, g1, x1, w1, _⟩ := aq wfH ⟨iv64 [a.most], 3, true⟩
   rw [hQ]
   refine TAL.x rfl rfl rfl (qaL [p.k, p.t] rfl rfl rfl rfl q.ones ⟨w1.ext _, ?_⟩)
   obtain ⟨H2, hQ, g2, x2, _, _⟩ := aq w1 ⟨[p.k, p.t], 27, true⟩
   rw [hQ]
   have cB := rBx_c wScan (.slice (some ⟨H1.next, 0, some 1⟩) 2 2) [a.key, a.to] ((q.ext (x1.trans x2)).rbb (RS.own g2 rfl)) (by decide) hb (by simp)
   have cN := rNx_c (wScan ++ tailW ([a.key, a.to].map wordM)) (.slice (some ⟨H.next, 0, some 1⟩) 1 1) [a.most] (H := H2) ((RS.own g1 rfl : RS H1 _ (iv64 [a.most])).ext x2) hi hsl (t.ext (xh.trans (x1.trans x2)))
   repeat (first | refine TAL.r rfl rfl rfl (fun h' hx hn => qaf rfl ⟨rfl, rfl⟩) ?_ | refine TAL.r rfl rfl rfl (fun h' hx hn => qab rfl rfl (cB h' hx) ⟨rfl, rfl⟩) ?_ | refine TAL.r rfl rfl rfl (fun h' hx hn => qab rfl rfl (cN h' hx) ⟨rfl, rfl⟩) ?_)
   refine TAL.nil ?_
   repeat (first | refine AWp.ret ?_)
   exact ⟨_, ResV.tmp rfl, rfl, xh.trans (x1.trans x2), fin, rfl⟩
 cases hn : a.none with
 | true =>
  have he : askW a = [wFresh, wordM a.key, wordM a.value] := by unfold askW; rw [if_neg k1, if_neg k3, if_neg k2, if_neg k5, if_pos hn]
  have hnc : .bool a.none = Value.bool true := by rw [hn]
  have q : RBs H [p.k, p.v] [a.key, a.value] := ⟨q1, q3, trivial⟩
  have hg' : H.get h.next = some ⟨[.int .i64 a.kind, p.k, p.t, p.v, p.w, .bool true, .int .i64 a.most], 29, true⟩ := by rw [hg, askC, hn]
  replace hg := hg'
  have q : RBs H [p.k, p.v] [a.key, a.value] := ⟨q1, q3, trivial⟩
  repeat (first | refine W.w ?_ | refine AWp.c8 rfl ?_ | refine AWp.c9 rfl ?_ | (refine zz rfl ?_; first | refine qaa rfl ?_ | refine qan rfl ?_ | refine qae rfl rfl hg rfl ?_ | refine qak rfl rfl rfl (by omega) ?_ | refine qaL [p.k, p.v] rfl rfl rfl rfl q.ones ?_))
  obtain ⟨H1, hQ, gr, xr, _, _⟩ := aq wfH ⟨[p.k, p.v], 27, true⟩
  rw [hQ]
  have rr : RBB H1 (.slice (some ⟨H.next, 0, some 1⟩) 2 2) [a.key, a.value] := (q.ext xr).rbb (RS.own gr rfl)
  have cb := rB_c wFresh _ [a.key, a.value] H1 rr (by decide) (by intro b hb; simp only [List.mem_cons, List.not_mem_nil, or_false] at hb; rcases hb with rfl | rfl <;> omega) (by simp)
  repeat (first | refine W.w ?_ | refine zz rfl (qaf rfl ?_) | refine zz rfl (qab rfl rfl cb ?_))
  refine ⟨_, ResV.tmp rfl, rfl, xh.trans xr, ?_, rfl⟩
  rw [he, qaN]
  rfl
 | false =>
  have he : askW a = [wSwap, wordM a.key, wordM a.value, wordM a.was] := by unfold askW; rw [if_neg k1, if_neg k3, if_neg k2, if_neg k5, if_neg (by rw [hn]; exact Bool.false_ne_true)]
  have hg' : H.get h.next = some ⟨[.int .i64 a.kind, p.k, p.t, p.v, p.w, .bool false, .int .i64 a.most], 29, true⟩ := by rw [hg, askC, hn]
  replace hg := hg'
  have q : RBs H [p.k, p.v, p.w] [a.key, a.value, a.was] := ⟨q1, q3, q4, trivial⟩
  repeat (first | refine W.w ?_ | refine AWp.c9 rfl ?_ | (refine zz rfl ?_; first | refine qaa rfl ?_ | refine qan rfl ?_ | refine qae rfl rfl hg rfl ?_ | refine qak rfl rfl rfl (by omega) ?_ | refine qaL [p.k, p.v, p.w] rfl rfl rfl rfl q.ones ?_))
  obtain ⟨H1, hQ, gr, xr, _, _⟩ := aq wfH ⟨[p.k, p.v, p.w], 27, true⟩
  rw [hQ]
  have rr : RBB H1 (.slice (some ⟨H.next, 0, some 1⟩) 3 3) [a.key, a.value, a.was] := (q.ext xr).rbb (RS.own gr rfl)
  have cb := rB_c wSwap _ [a.key, a.value, a.was] H1 rr (by decide) (by intro b hb; simp only [List.mem_cons, List.not_mem_nil, or_false] at hb; rcases hb with rfl | rfl | rfl <;> omega) (by simp)
  repeat (first | refine W.w ?_ | refine zz rfl (qaf rfl ?_) | refine zz rfl (qab rfl rfl cb ?_))
  refine ⟨_, ResV.tmp rfl, rfl, xh.trans xr, ?_, rfl⟩
  rw [he, qaN]
  rfl
end Go.Proofs.YtigmojilaadbhaaGreatDoor
