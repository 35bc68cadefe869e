/-
  DiskNone.
-/
import Derived.Test.YtiebmncpdnbcjaaDskZkFin
namespace Go.Proofs.Ytiebmncpdnbcjaa
open Go Go.Eng Go.Dsk
attribute [local irreducible] AWp AL DAL AOp TAL

set_option maxHeartbeats 4000000 in
theorem over_off (d : Option Addr) (h : Heap) (o : Off h d) : ACalls Try.prog 40 [.pointer d, .slice none 0 0, .int .i64 0] h fun u h' => u = .bool true ∧ h' = h := by
  refine ACalls.wf fun wf => ACalls.resetB ?_
  refine ACalls.bodyX Try.func40 rfl (Nat.le_of_ble_eq_true rfl) fun bb => ?_
  repeat (first | refine XWp.seq ?_ | refine XWp.region ?_)
  refine XL.set rfl rfl rfl (op_box (v := .slice none 0 0) rfl (by intro e; cases e) ?_)
  refine XL.heap (show _ = h.alloc ⟨[.slice none 0 0], 52, true⟩ from rfl) ?_
  have hx1 := wf.ext ⟨[.slice none 0 0], 52, true⟩
  have wf1 := wf.alloc ⟨[.slice none 0 0], 52, true⟩
  have g1 := Heap.alloc_new h ⟨[.slice none 0 0], 52, true⟩
  have n1 : (h.alloc ⟨[.slice none 0 0], 52, true⟩).next = h.next + 1 := rfl
  generalize h.alloc ⟨[.slice none 0 0], 52, true⟩ = H1 at hx1 wf1 g1 n1 ⊢
  refine XL.set rfl rfl rfl (op_box (v := .int .i64 0) rfl (by intro e; cases e) ?_)
  refine XL.heap (show _ = H1.alloc (cellI 0) from rfl) ?_
  have hx2 := hx1.trans (wf1.ext (cellI 0))
  have wf2 := wf1.alloc (cellI 0)
  replace g1 := (wf1.ext (cellI 0)).c _ _ g1
  have n2 : (H1.alloc (cellI 0)).next = H1.next + 1 := rfl
  generalize H1.alloc (cellI 0) = H2 at hx2 wf2 g1 n2 ⊢
  refine XL.set rfl rfl rfl (op_alloc (z := .bool false) ?_)
  refine XL.heap (show _ = H2.alloc (cellB false) from rfl) ?_
  have hx3 := hx2.trans (wf2.ext (cellB false))
  have wf3 := wf2.alloc (cellB false)
  have g3 := Heap.alloc_new H2 (cellB false)
  replace g1 := (wf2.ext (cellB false)).c _ _ g1
  have n3 : (H2.alloc (cellB false)).next = H2.next + 1 := rfl
  generalize H2.alloc (cellB false) = H3 at hx3 wf3 g1 g3 n3 ⊢
  repeat (first | refine XL.nil ?_ | refine XWp.seq ?_ | refine XWp.region ?_ | refine XL.set rfl rfl rfl (op_moveP rfl ?_) | refine XL.set rfl rfl rfl (op_call rfl rfl ((dall_c d H3).mono ?_)))
  rintro _ H4 ⟨rfl, hx4, gp, wf4, n4⟩
  replace g1 := hx4.c _ _ g1
  replace g3 := hx4.c _ _ g3
  repeat (first | refine XL.nil ?_ | refine XWp.seq ?_ | refine XWp.region ?_ | refine XWp.condF rfl ?_ | refine XWp.skip ?_ | refine XL.set rfl rfl rfl (op_moveF rfl ?_) | refine XL.set rfl rfl rfl (op_assignF rfl ?_) | refine XL.set rfl rfl rfl (op_eqFuncNil rfl rfl ?_) | refine XL.set rfl rfl rfl (op_alloc (z := .int .i64 0) ?_))
  refine XL.eff rfl rfl (op_store (v := .int .i64 0) rfl rfl rfl (Heap.alloc_new _ _) rfl (by decide) ?_)
  refine XL.heap (h' := (H4.alloc (cellI 0)).set H4.next (cellI 0)) rfl ?_
  refine XL.heap (Heap.set_alloc _ _ _) ?_
  have hx5 := wf4.ext (cellI 0)
  have wf5 := wf4.alloc (cellI 0)
  have g5 := Heap.alloc_new H4 (cellI 0)
  replace g1 := hx5.c _ _ g1
  replace g3 := hx5.c _ _ g3
  replace gp := hx5.c _ _ gp
  have hx6 : Ext h (H4.alloc (cellI 0)) := (hx3.trans hx4).trans hx5
  generalize H4.alloc (cellI 0) = H5 at hx5 wf5 g1 g3 g5 gp hx6 ⊢
  repeat (first | refine XL.nil ?_ | refine XWp.seq ?_ | refine XWp.region ?_ | refine XWp.block ?_ | refine XL.set rfl rfl rfl (op_moveF rfl ?_))
  refine XWp.rangeFunc (ι := Unit) (fi := []) (ca := [ptr H3.next]) (fun _ _ _ => False) (fun _ _ => False) (fun _ _ _ => False) (fun H => H = H5) (fun _ _ => False)
    rfl (fun k e => e) (fun _ _ l => l) rfl ?_ ?_ ?_ ?_ ?_
  · rintro i H args ⟨⟩
  · intro C1 y hq ys
    exact dall1_off C1 hq y H3.next d H5 (o.ext hx6) gp _ _ rfl
  · rintro Ca Cb y i H' args ⟨⟩
  · rintro H _ rfl
    repeat (first | refine XWp.seq ?_ | refine XWp.region ?_ | refine XL.set rfl rfl rfl (op_load rfl rfl g5 rfl ?_) | refine XL.set rfl rfl rfl (op_load rfl rfl g1 rfl ?_) | refine XL.set rfl rfl rfl (op_lenS rfl ?_) | refine XL.set rfl rfl rfl (op_intT rfl rfl rfl rfl ?_))
    refine XL.eff rfl rfl (op_store (v := .bool true) rfl rfl rfl g3 rfl Nat.zero_lt_one ?_)
    have hx7 := wf.ext_set (j := H2.next) hx6 (by omega) (cellB true)
    have g7 := Heap.set_at H H2.next (cellB true)
    refine XL.heap (show _ = H.set H2.next (cellB true) from rfl) ?_
    generalize H.set H2.next (cellB true) = H7 at hx7 g7 ⊢
    repeat (first | refine XL.nil ?_ | refine XWp.ret ?_)
    exact ⟨_, ResV.cell rfl rfl rfl g7 rfl, Bdd.plain rfl, hx7, rfl, rfl⟩
  · rintro h' j _ ⟨⟩
abbrev L1x : FL := [(nA, ([], bX), 0)]
abbrev keZ : Blk := ⟨([(([] : List UInt8), (0 : Int))].map keepR).flatten, 69, true⟩
set_option maxHeartbeats 8000000 in
set_option maxRecDepth 4000 in
theorem none_walk (h : Heap) : ACalls Try.prog 10 [] h fun v _ => v = .bool true := by
  refine ACalls.wf fun wf => ?_
  refine ACalls.bodyX Try.func10 rfl (Nat.le_of_ble_eq_true rfl) fun bb => ?_
  repeat (first | refine XL.nil ?_ | refine XWp.seq ?_ | refine XWp.region ?_ | refine XL.set rfl rfl rfl (op_assignB rfl ?_) | refine XL.set rfl rfl rfl (op_assignP rfl ?_) | refine XL.set rfl rfl rfl (op_buildS (out := [.int .i64 0, .int .i64 0, .map none]) rfl rfl ?_))
  refine XL.set rfl rfl rfl (op_box (v := .agg #[.int .i64 0, .int .i64 0, .map none]) rfl (by intro e; cases e) ?_)
  refine XL.heap (show _ = h.alloc (dskB 0 0 none) from rfl) ?_
  have wf1 := wf.alloc (dskB 0 0 none)
  have g1 := Heap.alloc_new h (dskB 0 0 none)
  generalize hz : h.next = z at g1 ⊢
  generalize h.alloc (dskB 0 0 none) = H1 at wf1 g1 ⊢
  repeat (first | refine XL.nil ?_ | refine XWp.seq ?_ | refine XWp.region ?_ | refine XWp.block ?_ | refine XL.set rfl rfl rfl (op_assignI rfl ?_) | refine XL.set rfl rfl rfl (op_assignP rfl ?_))
  refine XWp.loop (α := Nat × Heap) (fun d => [(1, .pointer none), (2, ptr z), (3, .int .i64 (d.1 : Nat))]) (fun d => d.2) (fun d => d.1 ≤ 2 ∧ d.2.get z = some (dskB 0 0 none) ∧ WF d.2) (fun d => 2 - d.1) (0, H1)
    ⟨Nat.zero_le _, g1, wf1⟩ (Weak.same (EW.cons rfl (EW.cons rfl (EW.cons rfl EW.nil)))) ?_
  clear wf1 g1
  rintro ⟨k, H⟩ ⟨w1, gz, wfH⟩
  replace w1 : k ≤ 2 := w1
  replace gz : H.get z = some (dskB 0 0 none) := gz
  replace wfH : WF H := wfH
  show XWp _ _ _ _ _ [(1, .pointer none), (2, ptr z), (3, .int .i64 (k : Nat))] H none
  obtain rfl | rfl | rfl : k = 0 ∨ k = 1 ∨ k = 2 := by omega
  · repeat (first | refine XL.nil ?_ | refine XWp.seq ?_ | refine XWp.region ?_ | refine XWp.condT rfl ?_ | refine XWp.condF rfl ?_ | refine XWp.block ?_ | refine XWp.skip ?_ | refine XL.set rfl rfl rfl (op_moveI rfl ?_) | refine XL.set rfl rfl rfl (op_moveP rfl ?_) | refine XL.set rfl rfl rfl (op_assignP rfl ?_) | refine XL.set rfl rfl rfl (op_intT rfl rfl rfl (by omega) ?_) | refine XL.set rfl rfl rfl (op_intF rfl rfl rfl (by omega) ?_) | refine XL.set rfl rfl rfl (op_call rfl rfl ((read_off (none) nA H ((off_nil H))).wf_post.mono ?_)))
    rintro _ H5 ⟨⟨w5, rfl, _, hx5⟩, wf5, _⟩
    have o5 : Off H5 (none) := Off.ext ((off_nil H)) hx5
    repeat (first | refine XL.nil ?_ | refine XWp.seq ?_ | refine XWp.region ?_ | refine XL.set rfl rfl rfl (op_moveP rfl ?_) | refine XL.set rfl rfl rfl (op_moveT rfl ?_) | refine XL.set rfl rfl rfl (op_assignI rfl ?_) | refine XL.set rfl rfl rfl (op_extract rfl rfl ?_) | refine XL.set rfl rfl rfl (op_callS rfl rfl (lasting_off (none) [] H5 o5) ?_) | refine XL.set rfl rfl rfl (op_buildS (out := keepR ([], 0)) rfl rfl ?_) | refine XL.set rfl rfl rfl (op_assign (by conv => lhs; whnf) ?_))
    refine XL.set rfl rfl rfl (op_rowN1 (by show 2 ≤ 16777216; decide) (by show 0 < 2; decide) rfl rfl ?_)
    refine XL.heap (show _ = H5.alloc keZ from rfl) ?_
    have hx6 := wf5.ext keZ
    have o6 : Off (H5.alloc keZ) (none) := Off.ext o5 hx6
    generalize H5.alloc keZ = H6 at hx6 o6 ⊢
    refine XL.set rfl rfl rfl (op_call rfl rfl ((crash_off (none) _ H6 o6).mono ?_))
    rintro _ H7 ⟨rfl, hx7, wf7⟩
    have o7 : Off H7 (none) := Off.ext o6 hx7
    have z7 := hx7.c _ _ (hx6.c _ _ (hx5.c _ _ gz))
    have cs : ACalls Try.prog 35 [.pointer (none), .pointer none] H7 fun u h' => u = .bool true ∧ h' = H7 := same_off (none) none false false H7 rfl (o7 H7 (Ext.refl _)) (on_nil H7)
    repeat (first | refine XL.nil ?_ | refine XWp.seq ?_ | refine XWp.region ?_ | refine XWp.condF rfl ?_ | refine XWp.skip ?_ | refine XL.set rfl rfl rfl (op_moveI rfl ?_) | refine XL.set rfl rfl rfl (op_moveB rfl ?_) | refine XL.set rfl rfl rfl (op_moveP rfl ?_) | refine XL.set rfl rfl rfl (op_moveT rfl ?_) | refine XL.set rfl rfl rfl (op_assignI rfl ?_) | refine XL.set rfl rfl rfl (op_assignP rfl ?_) | refine XL.set rfl rfl rfl (op_extract rfl rfl ?_) | refine XL.set rfl rfl rfl (op_callS rfl rfl (num_c _ H7) ?_) | refine XL.set rfl rfl rfl (op_intF rfl rfl rfl (by exact fun e => e rfl) ?_) | refine XL.set rfl rfl rfl (op_pick (v := .bool _) rfl rfl ?_) | refine XL.set rfl rfl rfl (op_callS rfl rfl (append_off (none) nA H7 o7) ?_) | refine XL.set rfl rfl rfl (op_callS rfl rfl (sync_off (none) nA H7 o7) ?_) | refine XL.set rfl rfl rfl (op_callS rfl rfl (rename_off (none) [] [] H7 o7) ?_) | refine XL.set rfl rfl rfl (op_callS rfl rfl (remove_off (none) nA H7 o7) ?_) | refine XL.set rfl rfl rfl (op_callS rfl rfl (used_off (none) H7 o7) ?_) | refine XL.set rfl rfl rfl (op_callS rfl rfl (room_off (none) H7 o7) ?_) | refine XL.set rfl rfl rfl (op_callS rfl rfl (names_off (none) H7 o7) ?_) | refine XL.set rfl rfl rfl (op_lenR (RS.nil _) rfl ?_) | refine XL.set rfl rfl rfl (op_callS rfl rfl (copy_off (none) H7 o7) ?_) | refine XL.set rfl rfl rfl (op_nePtrNil rfl rfl ?_) | refine XL.set rfl rfl rfl (op_callS rfl rfl (over_off (none) H7 o7) ?_) | refine XL.set rfl rfl rfl (op_not rfl ?_) | refine XL.set rfl rfl rfl (op_callS rfl rfl cs ?_) | refine XL.set rfl rfl rfl (op_add64 rfl rfl (by omega) ?_))
    exact ⟨rfl, (1, H7), ⟨(by show 1 ≤ 2; decide), z7, wf7⟩, (by show 2 - 1 < 2 - (1 - 1); decide), Weak.same (EW.cons rfl (EW.cons rfl (EW.cons rfl EW.nil)))⟩
  · repeat (first | refine XL.nil ?_ | refine XWp.seq ?_ | refine XWp.region ?_ | refine XWp.condT rfl ?_ | refine XWp.block ?_ | refine XWp.skip ?_ | refine XL.set rfl rfl rfl (op_moveI rfl ?_) | refine XL.set rfl rfl rfl (op_moveP rfl ?_) | refine XL.set rfl rfl rfl (op_assignP rfl ?_) | refine XL.set rfl rfl rfl (op_intT rfl rfl rfl (by omega) ?_) | refine XL.set rfl rfl rfl (op_call rfl rfl ((read_off (some ⟨z, 0, none⟩) nA H ((off_zero gz))).wf_post.mono ?_)))
    rintro _ H5 ⟨⟨w5, rfl, _, hx5⟩, wf5, _⟩
    have o5 : Off H5 (some ⟨z, 0, none⟩) := Off.ext ((off_zero gz)) hx5
    repeat (first | refine XL.nil ?_ | refine XWp.seq ?_ | refine XWp.region ?_ | refine XL.set rfl rfl rfl (op_moveP rfl ?_) | refine XL.set rfl rfl rfl (op_moveT rfl ?_) | refine XL.set rfl rfl rfl (op_assignI rfl ?_) | refine XL.set rfl rfl rfl (op_extract rfl rfl ?_) | refine XL.set rfl rfl rfl (op_callS rfl rfl (lasting_off (some ⟨z, 0, none⟩) [] H5 o5) ?_) | refine XL.set rfl rfl rfl (op_buildS (out := keepR ([], 0)) rfl rfl ?_) | refine XL.set rfl rfl rfl (op_assign (by conv => lhs; whnf) ?_))
    refine XL.set rfl rfl rfl (op_rowN1 (by show 2 ≤ 16777216; decide) (by show 0 < 2; decide) rfl rfl ?_)
    refine XL.heap (show _ = H5.alloc keZ from rfl) ?_
    have hx6 := wf5.ext keZ
    have o6 : Off (H5.alloc keZ) (some ⟨z, 0, none⟩) := Off.ext o5 hx6
    generalize H5.alloc keZ = H6 at hx6 o6 ⊢
    refine XL.set rfl rfl rfl (op_call rfl rfl ((crash_off (some ⟨z, 0, none⟩) _ H6 o6).mono ?_))
    rintro _ H7 ⟨rfl, hx7, wf7⟩
    have o7 : Off H7 (some ⟨z, 0, none⟩) := Off.ext o6 hx7
    have z7 := hx7.c _ _ (hx6.c _ _ (hx5.c _ _ gz))
    have cs : ACalls Try.prog 35 [.pointer (some ⟨z, 0, none⟩), .pointer none] H7 fun u h' => u = .bool true ∧ h' = H7 := same_off (some ⟨z, 0, none⟩) none false false H7 rfl (o7 H7 (Ext.refl _)) (on_nil H7)
    repeat (first | refine XL.nil ?_ | refine XWp.seq ?_ | refine XWp.region ?_ | refine XWp.condF rfl ?_ | refine XWp.skip ?_ | refine XL.set rfl rfl rfl (op_moveI rfl ?_) | refine XL.set rfl rfl rfl (op_moveB rfl ?_) | refine XL.set rfl rfl rfl (op_moveP rfl ?_) | refine XL.set rfl rfl rfl (op_moveT rfl ?_) | refine XL.set rfl rfl rfl (op_assignI rfl ?_) | refine XL.set rfl rfl rfl (op_assignP rfl ?_) | refine XL.set rfl rfl rfl (op_extract rfl rfl ?_) | refine XL.set rfl rfl rfl (op_callS rfl rfl (num_c _ H7) ?_) | refine XL.set rfl rfl rfl (op_intF rfl rfl rfl (by exact fun e => e rfl) ?_) | refine XL.set rfl rfl rfl (op_pick (v := .bool _) rfl rfl ?_) | refine XL.set rfl rfl rfl (op_callS rfl rfl (append_off (some ⟨z, 0, none⟩) nA H7 o7) ?_) | refine XL.set rfl rfl rfl (op_callS rfl rfl (sync_off (some ⟨z, 0, none⟩) nA H7 o7) ?_) | refine XL.set rfl rfl rfl (op_callS rfl rfl (rename_off (some ⟨z, 0, none⟩) [] [] H7 o7) ?_) | refine XL.set rfl rfl rfl (op_callS rfl rfl (remove_off (some ⟨z, 0, none⟩) nA H7 o7) ?_) | refine XL.set rfl rfl rfl (op_callS rfl rfl (used_off (some ⟨z, 0, none⟩) H7 o7) ?_) | refine XL.set rfl rfl rfl (op_callS rfl rfl (room_off (some ⟨z, 0, none⟩) H7 o7) ?_) | refine XL.set rfl rfl rfl (op_callS rfl rfl (names_off (some ⟨z, 0, none⟩) H7 o7) ?_) | refine XL.set rfl rfl rfl (op_lenR (RS.nil _) rfl ?_) | refine XL.set rfl rfl rfl (op_callS rfl rfl (copy_off (some ⟨z, 0, none⟩) H7 o7) ?_) | refine XL.set rfl rfl rfl (op_nePtrNil rfl rfl ?_) | refine XL.set rfl rfl rfl (op_callS rfl rfl (over_off (some ⟨z, 0, none⟩) H7 o7) ?_) | refine XL.set rfl rfl rfl (op_not rfl ?_) | refine XL.set rfl rfl rfl (op_callS rfl rfl cs ?_) | refine XL.set rfl rfl rfl (op_add64 rfl rfl (by omega) ?_))
    exact ⟨rfl, (2, H7), ⟨(by show 2 ≤ 2; decide), z7, wf7⟩, (by show 2 - 2 < 2 - (2 - 1); decide), Weak.same (EW.cons rfl (EW.cons rfl (EW.cons rfl EW.nil)))⟩
  · repeat (first | refine XL.nil ?_ | refine XWp.seq ?_ | refine XWp.region ?_ | refine XWp.condF rfl ?_ | refine XWp.exit ?_ | refine XL.set rfl rfl rfl (op_moveI rfl ?_) | refine XL.set rfl rfl rfl (op_intF rfl rfl rfl (by omega) ?_) | refine XL.set rfl rfl rfl (op_call rfl rfl ((new_yes 1048576 H (by decide) (by decide)).wf_post.mono ?_)))
    rintro _ H2 ⟨⟨i, m, rfl, q1, q2, a2, hx2⟩, wf2, _⟩
    repeat (first | refine XL.nil ?_ | refine XWp.seq ?_ | refine XWp.region ?_ | refine XWp.condF rfl ?_ | refine XWp.skip ?_ | refine XL.set rfl rfl rfl (op_moveI rfl ?_) | refine XL.set rfl rfl rfl (op_moveB rfl ?_) | refine XL.set rfl rfl rfl (op_moveP rfl ?_) | refine XL.set rfl rfl rfl (op_moveT rfl ?_) | refine XL.set rfl rfl rfl (op_assignI rfl ?_) | refine XL.set rfl rfl rfl (op_assignP rfl ?_) | refine XL.set rfl rfl rfl (op_extract rfl rfl ?_) | refine XL.set rfl rfl rfl (op_eqPtrNil rfl rfl ?_) | refine XL.set rfl rfl rfl (op_pick (v := .bool _) rfl rfl ?_) | refine XL.set rfl rfl rfl (op_callS rfl rfl (num_c _ H2) ?_) | refine XL.set rfl rfl rfl (op_intF rfl rfl rfl (by exact fun e => e rfl) ?_))
    refine XL.set rfl rfl rfl (op_call rfl rfl ((dall_c (some ⟨i, 0, none⟩) H2).mono ?_))
    rintro _ H3 ⟨rfl, hx3, gp, wf3, n3⟩
    have a3 : At H3 i m 1048576 [] 0 := ⟨hx3.c _ _ a2.box, hx3.o _ _ a2.map, a2.ok, a2.big⟩
    have l2 := a2.lt wf2
    have cs : ACalls Try.prog 35 [ptr i, .pointer none] H3 fun u h' => u = .bool false ∧ h' = H3 := same_off _ none true false H3 rfl (on_c i 1048576 (used [] : Nat) (some m) H3 a3.box) (on_nil H3)
    repeat (first | refine XL.nil ?_ | refine XWp.seq ?_ | refine XWp.region ?_ | refine XL.set rfl rfl rfl (op_moveB rfl ?_) | refine XL.set rfl rfl rfl (op_moveP rfl ?_) | refine XL.set rfl rfl rfl (op_moveF rfl ?_) | refine XL.set rfl rfl rfl (op_assignF rfl ?_) | refine XL.set rfl rfl rfl (op_eqFuncNil rfl rfl ?_) | refine XL.set rfl rfl rfl (op_pick (v := .bool _) rfl rfl ?_) | refine XL.set rfl rfl rfl (op_callS rfl rfl cs ?_))
    refine XL.set rfl rfl rfl (op_row (bv bX) rfl rfl rfl rfl (bv_ones _) ?_)
    refine XL.heap (show _ = H3.alloc (byB bX) from rfl) ?_
    have hx4 := wf3.ext (byB bX)
    have wf4 := wf3.alloc (byB bX)
    have g4 := Heap.alloc_new H3 (byB bX)
    have n4 : (H3.alloc (byB bX)).next = H3.next + 1 := rfl
    replace gp := hx4.c _ _ gp
    have a4 : At (H3.alloc (byB bX)) i m 1048576 [] 0 := ⟨hx4.c _ _ a3.box, hx4.o _ _ a3.map, a3.ok, a3.big⟩
    generalize H3.alloc (byB bX) = H4 at hx4 wf4 g4 n4 gp a4 ⊢
    have ca := append_c i m 1048576 [] 0 nA (.slice (some ⟨H3.next, 0, some 1⟩) 1 1) bX H4 a4 (by decide) (RS.own g4 rfl) (by decide)
    rw [show appE 1048576 [] nA bX = 0 from by kernel_rfl, show appL 1048576 [] 0 nA bX = L1x from by kernel_rfl, show appC 1048576 [] 0 nA bX = 1 from by kernel_rfl] at ca
    have d := DOk.app a4.ok nA bX
    rw [show appL 1048576 [] 0 nA bX = L1x from by kernel_rfl, show appC 1048576 [] 0 nA bX = 1 from by kernel_rfl] at d
    repeat (first | refine XL.set rfl rfl rfl (op_convSame rfl rfl g4 rfl ?_))
    refine XL.set rfl rfl rfl (op_call rfl rfl (ca.mono ?_))
    rintro _ _ ⟨rfl, rfl⟩
    have l4 := a4.lt wf4
    have k5 := st_ch (room := 1048576) (l := L1x) (c := 1) wf4 l4.1 l4.2
    have a5 : At (stD H4 i m 1048576 L1x 1) i m 1048576 L1x 1 := At.st d a4.big
    replace gp := k5.c _ _ gp (by omega)
    have wf5 := k5.wf
    generalize stD H4 i m 1048576 L1x 1 = H5 at gp a5 wf5 ⊢
    repeat (first | refine XL.nil ?_ | refine XWp.seq ?_ | refine XWp.region ?_ | refine XWp.condF rfl ?_ | refine XWp.skip ?_ | refine XL.set rfl rfl rfl (op_callS rfl rfl (num_c _ H5) ?_) | refine XL.set rfl rfl rfl (op_intF rfl rfl rfl (by exact fun e => e rfl) ?_) | refine XL.set rfl rfl rfl (op_pick (v := .bool _) rfl rfl ?_) | refine XL.set rfl rfl rfl (op_alloc (z := .int .i64 0) ?_))
    refine XL.eff rfl rfl (op_store (v := .int .i64 0) rfl rfl rfl (Heap.alloc_new _ _) rfl (by decide) ?_)
    refine XL.heap (h' := (H5.alloc (cellI 0)).set H5.next (cellI 0)) rfl ?_
    refine XL.heap (Heap.set_alloc _ _ _) ?_
    have hx6 := wf5.ext (cellI 0)
    have wf6 := wf5.alloc (cellI 0)
    have g6 := Heap.alloc_new H5 (cellI 0)
    have n6 : (H5.alloc (cellI 0)).next = H5.next + 1 := rfl
    replace gp := hx6.c _ _ gp
    have a6 : At (H5.alloc (cellI 0)) i m 1048576 L1x 1 := ⟨hx6.c _ _ a5.box, hx6.o _ _ a5.map, a5.ok, a5.big⟩
    generalize hnc : H5.next = nc at g6 n6 ⊢
    generalize H5.alloc (cellI 0) = H6 at hx6 wf6 g6 n6 gp a6 ⊢
    repeat (first | refine XL.nil ?_ | refine XWp.seq ?_ | refine XWp.region ?_ | refine XWp.block ?_ | refine XL.set rfl rfl rfl (op_moveF rfl ?_))
    refine XWp.rangeFunc (ι := Nat × Heap) (fi := []) (ca := [ptr H2.next]) (PreA L1x [nA] (fun k H => H.get nc = some (cellI k))) (TA (fun j => j = nc) (fun k H => H.get nc = some (cellI k))) (fun _ _ _ => False) (fun H => H.get nc = some (cellI 1)) (fun _ _ => False)
      rfl (fun k e => e) (fun _ _ l => l) rfl ?_ ?_ ?_ ?_ ?_
    · rintro i H args ⟨s, q, rfl, _⟩; rfl
    · intro C1 y hq ys
      exact dall1_x C1 hq y H2.next i m 1048576 L1x 1 [nA] H6 a6 gp (List.pairwise_singleton _ _) (by intro x; exact Iff.rfl) (fun j => j = nc) (by rintro j rfl; omega) (fun k H => H.get nc = some (cellI k)) (fun _ _ => False) (fun k H H' hY hx _ => hx.c _ _ hY) ys g6
    · rintro Ca Cb y ⟨k, H⟩ H' args ⟨s, q, rfl, hs, hq, hqn, hY, rfl, wfH'⟩
      replace hY : H.get nc = some (cellI k) := hY
      replace wfH' : WF H := wfH'
      replace hqn : q + 1 = H.next := hqn
      have hk1 : k < 1 := (List.getElem?_eq_some_iff.1 hs).1
      show XWp Ca _ _ _ _ (setPs _ [.string (bstr s), .slice (some ⟨q, 0, some 1⟩) (allF (fileOf L1x s)).length ((allF (fileOf L1x s)).length + 1)] _) H none
      repeat (first | refine XWp.region ?_ | refine XWp.block ?_ | refine XWp.skip ?_ | refine XL.set rfl rfl rfl (op_load rfl rfl hY rfl ?_) | refine XL.set rfl rfl rfl (op_add64 rfl rfl (by omega) ?_))
      refine XL.eff rfl rfl (op_store (v := .int .i64 ((k : Int) + 1)) rfl rfl rfl hY rfl Nat.zero_lt_one ?_)
      have hs1 : H.set nc ⟨[.int .i64 ((k : Int) + 1)], 3, true⟩ = H.set nc (cellI (k + 1)) := by
        rw [show (k : Int) + 1 = ((k + 1 : Nat) : Int) from by omega]
      refine XL.heap hs1 ?_
      repeat (first | refine XL.nil ?_)
      exact ⟨Heap.set_at _ _ _, ⟨fun j x e ho => (Heap.set_other (fun e2 => ho (.inl e2))).trans e, fun j x e ho => e⟩⟩
    · intro H _ hE
      repeat (first | refine XL.nil ?_ | refine XWp.seq ?_ | refine XWp.region ?_ | refine XWp.ret ?_ | refine XL.set rfl rfl rfl (op_moveB rfl ?_) | refine XL.set rfl rfl rfl (op_assignB rfl ?_) | refine XL.set rfl rfl rfl (op_load rfl rfl hE rfl ?_) | refine XL.set rfl rfl rfl (op_intT rfl rfl rfl rfl ?_) | refine XL.set rfl rfl rfl (op_callS rfl rfl (known_c H) ?_) | refine XL.set rfl rfl rfl (op_pick (v := .bool _) rfl rfl ?_))
      exact ⟨_, ResV.tmp rfl, rfl⟩
    · rintro h' j _ ⟨⟩
end Go.Proofs.Ytiebmncpdnbcjaa
