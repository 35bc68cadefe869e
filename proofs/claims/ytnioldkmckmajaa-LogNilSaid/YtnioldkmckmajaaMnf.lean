/-
  Texts of one claim, merged: 10 parts.
-/
import Derived.Test.YtnioldkmckmajaaMne
import Derived.Test.YtnioldkmckmajaaMnd
import Derived.ProofKit
import Derived.Deep.Matrix
set_option maxHeartbeats 16000000
/-
  Sums: package crc's and the reference's.
-/
namespace Go.Proofs.Ytnioldkmckmajaa.Fr
open Go Go.Eng Go.Crc
set_option maxRecDepth 20000
theorem feeds_take (r : W) (l : List UInt8) (k : Nat) (b : UInt8) (hb : l[k]? = some b) : feeds r (l.take (k + 1)) = feed (feeds r (l.take k)) b := by
  rw [List.take_add_one, hb]
  simp [feeds]
theorem feeds_flat (r : W) (ll : List (List UInt8)) (k : Nat) (l : List UInt8) (hl : ll[k]? = some l) : feeds r (ll.take (k + 1)).flatten = feeds (feeds r (ll.take k).flatten) l := by
  rw [List.take_add_one, hl]
  simp [feeds_append]
theorem tab_cell (L : W → W) (x : W) (a : Nat) (ha : a < 4) : (tab L)[0 + ((a : Nat) : Int).toNat * 256 + ((Crc.byteOf x a : Nat) : Int).toNat * 1]? = some (u32 (L (ent (a * 256 + Crc.byteOf x a)))) := by
  rw [show 0 + ((a : Nat) : Int).toNat * 256 + ((Crc.byteOf x a : Nat) : Int).toNat * 1 = a * 256 + Crc.byteOf x a from by simp]
  exact tab_get L a _ ha (byteOf_lt x a)
set_option maxHeartbeats 1000000 in
theorem take_c (r : W) (v : Value) (ll : List (List UInt8)) (h : Heap) (hr : RBB h v ll) (hll : ll.length ≤ 9223372036854775807) (hin : ∀ l ∈ ll, l.length ≤ 9223372036854775807) :
    ACalls Try.prog 89 [u32 r, v] h fun u h' => u = u32 (feeds r ll.flatten) ∧ h' = h := by
  refine ACalls.wf fun wf => ACalls.reset ?_
  refine ACalls.body Try.func89 rfl rfl ?_
  repeat (first | refine AWp.seq ?_ | refine AWp.region ?_ | refine AL.set rfl rfl (op_moveI rfl ?_) | refine AL.set rfl rfl (op_moveS rfl ?_) | refine AL.set rfl rfl (op_moveB rfl ?_) | refine AL.set rfl rfl (op_moveP rfl ?_) | refine AL.set rfl rfl (op_moveStr rfl ?_) | refine AL.set rfl rfl (op_moveA rfl ?_) | refine AL.set rfl rfl (op_moveT rfl ?_) | refine AL.set rfl rfl (op_moveF rfl ?_) | refine AL.set rfl rfl (op_assignI rfl ?_) | refine AL.set rfl rfl (op_assignS rfl ?_) | refine AL.set rfl rfl (op_assignB rfl ?_) | refine AL.set rfl rfl (op_assignP rfl ?_) | refine AL.set rfl rfl (op_assignStr rfl ?_) | refine AL.set rfl rfl (op_assignA rfl ?_) | refine AL.set rfl rfl (op_assignF rfl ?_) | refine AL.set rfl rfl (op_call rfl rfl ((one_c _).wf_post.mono ?_)) | refine AL.set rfl rfl (op_add64 rfl rfl (by omega) ?_) | refine AL.set rfl rfl (op_sub64 rfl rfl (by omega) ?_) | refine AL.set rfl rfl (op_quo64 rfl rfl (by omega) ?_) | refine AL.set rfl rfl (op_rem64 rfl rfl (by omega) ?_) | refine AL.set rfl rfl (op_mul64 rfl rfl (by omega) ?_) | refine AL.set rfl rfl (op_int rfl rfl rfl ?_) | refine AL.set rfl rfl (op_conv64 rfl (by omega) ?_) | refine AL.set rfl rfl (op_convI rfl ?_) | refine AL.set rfl rfl (op_not rfl ?_) | refine AL.set rfl rfl (op_lenS rfl ?_) | refine AL.set rfl rfl (op_lenStr rfl ?_) | refine AWp.condT rfl ?_ | refine AWp.condF rfl ?_ | refine AL.skip rfl rfl ?_ | refine AL.nil ?_ | refine AWp.ret ?_ | refine AWp.exit ?_ | refine AWp.block ?_ | refine AWp.skip ?_ | refine AWp.label ?_ | refine AWp.scope ?_)
  rintro _ h1 ⟨⟨rfl, hx1⟩, wf1, hn1⟩
  repeat (first | refine AWp.seq ?_ | refine AWp.region ?_ | refine AL.set rfl rfl (op_moveI rfl ?_) | refine AL.set rfl rfl (op_moveS rfl ?_) | refine AL.set rfl rfl (op_moveB rfl ?_) | refine AL.set rfl rfl (op_moveP rfl ?_) | refine AL.set rfl rfl (op_moveStr rfl ?_) | refine AL.set rfl rfl (op_moveA rfl ?_) | refine AL.set rfl rfl (op_moveT rfl ?_) | refine AL.set rfl rfl (op_moveF rfl ?_) | refine AL.set rfl rfl (op_assignI rfl ?_) | refine AL.set rfl rfl (op_assignS rfl ?_) | refine AL.set rfl rfl (op_assignB rfl ?_) | refine AL.set rfl rfl (op_assignP rfl ?_) | refine AL.set rfl rfl (op_assignStr rfl ?_) | refine AL.set rfl rfl (op_assignA rfl ?_) | refine AL.set rfl rfl (op_assignF rfl ?_) | refine AL.set rfl rfl (op_allocT ?_) | refine AL.set rfl rfl (op_add64 rfl rfl (by omega) ?_) | refine AL.set rfl rfl (op_sub64 rfl rfl (by omega) ?_) | refine AL.set rfl rfl (op_quo64 rfl rfl (by omega) ?_) | refine AL.set rfl rfl (op_rem64 rfl rfl (by omega) ?_) | refine AL.set rfl rfl (op_mul64 rfl rfl (by omega) ?_) | refine AL.set rfl rfl (op_int rfl rfl rfl ?_) | refine AL.set rfl rfl (op_conv64 rfl (by omega) ?_) | refine AL.set rfl rfl (op_convI rfl ?_) | refine AL.set rfl rfl (op_not rfl ?_) | refine AL.set rfl rfl (op_lenS rfl ?_) | refine AL.set rfl rfl (op_lenStr rfl ?_) | refine AWp.condT rfl ?_ | refine AWp.condF rfl ?_ | refine AL.skip rfl rfl ?_ | refine AL.nil ?_ | refine AWp.ret ?_ | refine AWp.exit ?_ | refine AWp.block ?_ | refine AWp.skip ?_ | refine AWp.label ?_ | refine AWp.scope ?_)
  refine AL.eff rfl (op_storeA (vs := (tab step8).toArray) rfl rfl (tabF_one _) (by rw [List.size_toArray, tab, tabF_length]) (Heap.alloc_new _ _) rfl (by rw [tabF_length]; omega) ?_)
  have hst : (h1.alloc (tabB fun _ => 0#32)).set h1.next ⟨splice (tabF fun _ => 0#32) 0 (tab step8).toArray.toList, 133, true⟩ = h1.alloc (tabB fun k => step8 (ent k)) := by
    rw [Heap.set_alloc]
    congr 2
    simp [splice, tab, tabF_length]
  refine AL.heap hst ?_
  have hxH : Ext h (h1.alloc (tabB fun k => step8 (ent k))) := wf1.ext_alloc hx1 _
  generalize hH : h1.alloc (tabB fun k => step8 (ent k)) = H at hxH ⊢
  have hg : H.get h1.next = some (tabB fun k => step8 (ent k)) := by rw [← hH]; exact Heap.alloc_new _ _
  have hrH := hr.ext hxH
  repeat (first | refine AWp.seq ?_ | refine AWp.region ?_ | refine AL.set rfl rfl (op_moveI rfl ?_) | refine AL.set rfl rfl (op_moveS rfl ?_) | refine AL.set rfl rfl (op_moveB rfl ?_) | refine AL.set rfl rfl (op_moveP rfl ?_) | refine AL.set rfl rfl (op_moveStr rfl ?_) | refine AL.set rfl rfl (op_moveA rfl ?_) | refine AL.set rfl rfl (op_moveT rfl ?_) | refine AL.set rfl rfl (op_moveF rfl ?_) | refine AL.set rfl rfl (op_assignI rfl ?_) | refine AL.set rfl rfl (op_assignS rfl ?_) | refine AL.set rfl rfl (op_assignB rfl ?_) | refine AL.set rfl rfl (op_assignP rfl ?_) | refine AL.set rfl rfl (op_assignStr rfl ?_) | refine AL.set rfl rfl (op_assignA rfl ?_) | refine AL.set rfl rfl (op_assignF rfl ?_) | refine AL.set rfl rfl (op_move (v := v) rfl ?_) | refine AL.set rfl rfl (op_lenRBB hrH rfl ?_) | refine AL.set rfl rfl (op_add64 rfl rfl (by omega) ?_) | refine AL.set rfl rfl (op_sub64 rfl rfl (by omega) ?_) | refine AL.set rfl rfl (op_quo64 rfl rfl (by omega) ?_) | refine AL.set rfl rfl (op_rem64 rfl rfl (by omega) ?_) | refine AL.set rfl rfl (op_mul64 rfl rfl (by omega) ?_) | refine AL.set rfl rfl (op_int rfl rfl rfl ?_) | refine AL.set rfl rfl (op_conv64 rfl (by omega) ?_) | refine AL.set rfl rfl (op_convI rfl ?_) | refine AL.set rfl rfl (op_not rfl ?_) | refine AL.set rfl rfl (op_lenS rfl ?_) | refine AL.set rfl rfl (op_lenStr rfl ?_) | refine AWp.condT rfl ?_ | refine AWp.condF rfl ?_ | refine AL.skip rfl rfl ?_ | refine AL.nil ?_ | refine AWp.ret ?_ | refine AWp.exit ?_ | refine AWp.block ?_ | refine AWp.skip ?_ | refine AWp.label ?_ | refine AWp.scope ?_)
  obtain ⟨vs, hs, hvl, hve⟩ := hrH
  refine AWp.loop (α := Nat) (fun k => [(0, u32 (feeds r (ll.take k).flatten)), (5, .pointer (some ⟨h1.next, 0, none⟩)), (11, v), (12, .int .i64 (ll.length : Nat)), (13, .int .i64 (k : Nat))]) (fun _ => H) (fun k => k ≤ ll.length) (fun k => ll.length - k) 0 (Nat.zero_le _)
    (Weak.same (EW.cons rfl (EW.cons rfl (EW.cons rfl (EW.cons rfl (EW.cons rfl EW.nil)))))) ?_
  intro k hk
  repeat (first | refine AWp.seq ?_ | refine AWp.region ?_ | refine AL.set rfl rfl (op_moveI rfl ?_) | refine AL.set rfl rfl (op_moveS rfl ?_) | refine AL.set rfl rfl (op_moveB rfl ?_) | refine AL.set rfl rfl (op_moveP rfl ?_) | refine AL.set rfl rfl (op_moveStr rfl ?_) | refine AL.set rfl rfl (op_moveA rfl ?_) | refine AL.set rfl rfl (op_moveT rfl ?_) | refine AL.set rfl rfl (op_moveF rfl ?_) | refine AL.set rfl rfl (op_assignI rfl ?_) | refine AL.set rfl rfl (op_assignS rfl ?_) | refine AL.set rfl rfl (op_assignB rfl ?_) | refine AL.set rfl rfl (op_assignP rfl ?_) | refine AL.set rfl rfl (op_assignStr rfl ?_) | refine AL.set rfl rfl (op_assignA rfl ?_) | refine AL.set rfl rfl (op_assignF rfl ?_) | refine AL.set rfl rfl (op_add64 rfl rfl (by omega) ?_) | refine AL.set rfl rfl (op_sub64 rfl rfl (by omega) ?_) | refine AL.set rfl rfl (op_quo64 rfl rfl (by omega) ?_) | refine AL.set rfl rfl (op_rem64 rfl rfl (by omega) ?_) | refine AL.set rfl rfl (op_mul64 rfl rfl (by omega) ?_) | refine AL.set rfl rfl (op_int rfl rfl rfl ?_) | refine AL.set rfl rfl (op_conv64 rfl (by omega) ?_) | refine AL.set rfl rfl (op_convI rfl ?_) | refine AL.set rfl rfl (op_not rfl ?_) | refine AL.set rfl rfl (op_lenS rfl ?_) | refine AL.set rfl rfl (op_lenStr rfl ?_) | refine AWp.condT rfl ?_ | refine AWp.condF rfl ?_ | refine AL.skip rfl rfl ?_ | refine AL.nil ?_ | refine AWp.ret ?_ | refine AWp.exit ?_ | refine AWp.block ?_ | refine AWp.skip ?_ | refine AWp.label ?_ | refine AWp.scope ?_)
  refine AWp.condP rfl ?_ ?_
  · intro hlt
    have hkl : k < ll.length := by omega
    obtain ⟨l, hl⟩ : ∃ l, ll[k]? = some l := ⟨_, List.getElem?_eq_getElem hkl⟩
    obtain ⟨u, hu⟩ : ∃ u, vs[k]? = some u := ⟨_, List.getElem?_eq_getElem (by omega)⟩
    have hb := hve k u l hu hl
    have hlm := hin l (List.mem_of_getElem? hl)
    repeat (first | refine AWp.seq ?_ | refine AWp.region ?_ | refine AL.set rfl rfl (op_moveI rfl ?_) | refine AL.set rfl rfl (op_moveS rfl ?_) | refine AL.set rfl rfl (op_moveB rfl ?_) | refine AL.set rfl rfl (op_moveP rfl ?_) | refine AL.set rfl rfl (op_moveStr rfl ?_) | refine AL.set rfl rfl (op_moveA rfl ?_) | refine AL.set rfl rfl (op_moveT rfl ?_) | refine AL.set rfl rfl (op_moveF rfl ?_) | refine AL.set rfl rfl (op_assignI rfl ?_) | refine AL.set rfl rfl (op_assignS rfl ?_) | refine AL.set rfl rfl (op_assignB rfl ?_) | refine AL.set rfl rfl (op_assignP rfl ?_) | refine AL.set rfl rfl (op_assignStr rfl ?_) | refine AL.set rfl rfl (op_assignA rfl ?_) | refine AL.set rfl rfl (op_assignF rfl ?_) | refine AL.set rfl rfl (op_indexR hs rfl rfl (by omega) hu ?_) | refine AL.set rfl rfl (op_add64 rfl rfl (by omega) ?_) | refine AL.set rfl rfl (op_sub64 rfl rfl (by omega) ?_) | refine AL.set rfl rfl (op_quo64 rfl rfl (by omega) ?_) | refine AL.set rfl rfl (op_rem64 rfl rfl (by omega) ?_) | refine AL.set rfl rfl (op_mul64 rfl rfl (by omega) ?_) | refine AL.set rfl rfl (op_int rfl rfl rfl ?_) | refine AL.set rfl rfl (op_conv64 rfl (by omega) ?_) | refine AL.set rfl rfl (op_convI rfl ?_) | refine AL.set rfl rfl (op_not rfl ?_) | refine AL.set rfl rfl (op_lenS rfl ?_) | refine AL.set rfl rfl (op_lenStr rfl ?_) | refine AWp.condT rfl ?_ | refine AWp.condF rfl ?_ | refine AL.skip rfl rfl ?_ | refine AL.nil ?_ | refine AWp.ret ?_ | refine AWp.exit ?_ | refine AWp.block ?_ | refine AWp.skip ?_ | refine AWp.label ?_ | refine AWp.scope ?_)
    intro p hp
    repeat (first | refine AWp.seq ?_ | refine AWp.region ?_ | refine AL.set rfl rfl (op_moveI rfl ?_) | refine AL.set rfl rfl (op_moveS rfl ?_) | refine AL.set rfl rfl (op_moveB rfl ?_) | refine AL.set rfl rfl (op_moveP rfl ?_) | refine AL.set rfl rfl (op_moveStr rfl ?_) | refine AL.set rfl rfl (op_moveA rfl ?_) | refine AL.set rfl rfl (op_moveT rfl ?_) | refine AL.set rfl rfl (op_moveF rfl ?_) | refine AL.set rfl rfl (op_assignI rfl ?_) | refine AL.set rfl rfl (op_assignS rfl ?_) | refine AL.set rfl rfl (op_assignB rfl ?_) | refine AL.set rfl rfl (op_assignP rfl ?_) | refine AL.set rfl rfl (op_assignStr rfl ?_) | refine AL.set rfl rfl (op_assignA rfl ?_) | refine AL.set rfl rfl (op_assignF rfl ?_) | refine AL.set rfl rfl (op_loadR hp rfl rfl ?_) | refine AL.set rfl rfl (op_move (v := u) rfl ?_) | refine AL.set rfl rfl (op_assign (v := u) rfl ?_) | refine AL.set rfl rfl (op_lenRB hb rfl ?_) | refine AL.set rfl rfl (op_add64 rfl rfl (by omega) ?_) | refine AL.set rfl rfl (op_sub64 rfl rfl (by omega) ?_) | refine AL.set rfl rfl (op_quo64 rfl rfl (by omega) ?_) | refine AL.set rfl rfl (op_rem64 rfl rfl (by omega) ?_) | refine AL.set rfl rfl (op_mul64 rfl rfl (by omega) ?_) | refine AL.set rfl rfl (op_int rfl rfl rfl ?_) | refine AL.set rfl rfl (op_conv64 rfl (by omega) ?_) | refine AL.set rfl rfl (op_convI rfl ?_) | refine AL.set rfl rfl (op_not rfl ?_) | refine AL.set rfl rfl (op_lenS rfl ?_) | refine AL.set rfl rfl (op_lenStr rfl ?_) | refine AWp.condT rfl ?_ | refine AWp.condF rfl ?_ | refine AL.skip rfl rfl ?_ | refine AL.nil ?_ | refine AWp.ret ?_ | refine AWp.exit ?_ | refine AWp.block ?_ | refine AWp.skip ?_ | refine AWp.label ?_ | refine AWp.scope ?_)
    refine AWp.loop (α := Nat) (fun j => [(0, u32 (feeds (feeds r (ll.take k).flatten) (l.take j))), (5, .pointer (some ⟨h1.next, 0, none⟩)), (11, v), (12, .int .i64 (ll.length : Nat)), (13, .int .i64 (k : Nat)), (17, u), (18, .int .i64 (l.length : Nat)), (19, .int .i64 (j : Nat))])
      (fun _ => H) (fun j => j ≤ l.length) (fun j => l.length - j) 0 (Nat.zero_le _)
      (Weak.same (EW.cons rfl (EW.cons rfl (EW.cons rfl (EW.cons rfl (EW.cons rfl (EW.cons rfl (EW.cons rfl (EW.cons rfl EW.nil))))))))) ?_
    intro j hj
    repeat (first | refine AWp.seq ?_ | refine AWp.region ?_ | refine AL.set rfl rfl (op_moveI rfl ?_) | refine AL.set rfl rfl (op_moveS rfl ?_) | refine AL.set rfl rfl (op_moveB rfl ?_) | refine AL.set rfl rfl (op_moveP rfl ?_) | refine AL.set rfl rfl (op_moveStr rfl ?_) | refine AL.set rfl rfl (op_moveA rfl ?_) | refine AL.set rfl rfl (op_moveT rfl ?_) | refine AL.set rfl rfl (op_moveF rfl ?_) | refine AL.set rfl rfl (op_assignI rfl ?_) | refine AL.set rfl rfl (op_assignS rfl ?_) | refine AL.set rfl rfl (op_assignB rfl ?_) | refine AL.set rfl rfl (op_assignP rfl ?_) | refine AL.set rfl rfl (op_assignStr rfl ?_) | refine AL.set rfl rfl (op_assignA rfl ?_) | refine AL.set rfl rfl (op_assignF rfl ?_) | refine AL.set rfl rfl (op_add64 rfl rfl (by omega) ?_) | refine AL.set rfl rfl (op_sub64 rfl rfl (by omega) ?_) | refine AL.set rfl rfl (op_quo64 rfl rfl (by omega) ?_) | refine AL.set rfl rfl (op_rem64 rfl rfl (by omega) ?_) | refine AL.set rfl rfl (op_mul64 rfl rfl (by omega) ?_) | refine AL.set rfl rfl (op_int rfl rfl rfl ?_) | refine AL.set rfl rfl (op_conv64 rfl (by omega) ?_) | refine AL.set rfl rfl (op_convI rfl ?_) | refine AL.set rfl rfl (op_not rfl ?_) | refine AL.set rfl rfl (op_lenS rfl ?_) | refine AL.set rfl rfl (op_lenStr rfl ?_) | refine AWp.condT rfl ?_ | refine AWp.condF rfl ?_ | refine AL.skip rfl rfl ?_ | refine AL.nil ?_ | refine AWp.ret ?_ | refine AWp.exit ?_ | refine AWp.block ?_ | refine AWp.skip ?_ | refine AWp.label ?_ | refine AWp.scope ?_)
    refine AWp.condP rfl ?_ ?_
    · intro hlt2
      have hjl : j < l.length := by omega
      obtain ⟨b, hbb⟩ : ∃ b, l[j]? = some b := ⟨_, List.getElem?_eq_getElem hjl⟩
      repeat (first | refine AWp.seq ?_ | refine AWp.region ?_ | refine AL.set rfl rfl (op_moveI rfl ?_) | refine AL.set rfl rfl (op_moveS rfl ?_) | refine AL.set rfl rfl (op_moveB rfl ?_) | refine AL.set rfl rfl (op_moveP rfl ?_) | refine AL.set rfl rfl (op_moveStr rfl ?_) | refine AL.set rfl rfl (op_moveA rfl ?_) | refine AL.set rfl rfl (op_moveT rfl ?_) | refine AL.set rfl rfl (op_moveF rfl ?_) | refine AL.set rfl rfl (op_assignI rfl ?_) | refine AL.set rfl rfl (op_assignS rfl ?_) | refine AL.set rfl rfl (op_assignB rfl ?_) | refine AL.set rfl rfl (op_assignP rfl ?_) | refine AL.set rfl rfl (op_assignStr rfl ?_) | refine AL.set rfl rfl (op_assignA rfl ?_) | refine AL.set rfl rfl (op_assignF rfl ?_) | refine AL.set rfl rfl (op_indexR hb rfl rfl (by omega) (bv_get l j b hbb) ?_) | refine AL.set rfl rfl (op_add64 rfl rfl (by omega) ?_) | refine AL.set rfl rfl (op_sub64 rfl rfl (by omega) ?_) | refine AL.set rfl rfl (op_quo64 rfl rfl (by omega) ?_) | refine AL.set rfl rfl (op_rem64 rfl rfl (by omega) ?_) | refine AL.set rfl rfl (op_mul64 rfl rfl (by omega) ?_) | refine AL.set rfl rfl (op_int rfl rfl rfl ?_) | refine AL.set rfl rfl (op_conv64 rfl (by omega) ?_) | refine AL.set rfl rfl (op_convI rfl ?_) | refine AL.set rfl rfl (op_not rfl ?_) | refine AL.set rfl rfl (op_lenS rfl ?_) | refine AL.set rfl rfl (op_lenStr rfl ?_) | refine AWp.condT rfl ?_ | refine AWp.condF rfl ?_ | refine AL.skip rfl rfl ?_ | refine AL.nil ?_ | refine AWp.ret ?_ | refine AWp.exit ?_ | refine AWp.block ?_ | refine AWp.skip ?_ | refine AWp.label ?_ | refine AWp.scope ?_)
      intro q hq
      have hlow := byteOf_lt (feeds (feeds r (ll.take k).flatten) (l.take j) ^^^ ofB b) 0
      have hcell := tab_cell step8 (feeds (feeds r (ll.take k).flatten) (l.take j) ^^^ ofB b) 0 (by omega)
      repeat (first | refine AWp.seq ?_ | refine AWp.region ?_ | refine AL.set rfl rfl (op_moveI rfl ?_) | refine AL.set rfl rfl (op_moveS rfl ?_) | refine AL.set rfl rfl (op_moveB rfl ?_) | refine AL.set rfl rfl (op_moveP rfl ?_) | refine AL.set rfl rfl (op_moveStr rfl ?_) | refine AL.set rfl rfl (op_moveA rfl ?_) | refine AL.set rfl rfl (op_moveT rfl ?_) | refine AL.set rfl rfl (op_moveF rfl ?_) | refine AL.set rfl rfl (op_assignI rfl ?_) | refine AL.set rfl rfl (op_assignS rfl ?_) | refine AL.set rfl rfl (op_assignB rfl ?_) | refine AL.set rfl rfl (op_assignP rfl ?_) | refine AL.set rfl rfl (op_assignStr rfl ?_) | refine AL.set rfl rfl (op_assignA rfl ?_) | refine AL.set rfl rfl (op_assignF rfl ?_) | refine AL.set rfl rfl (op_loadR hq rfl rfl ?_) | refine AL.set rfl rfl (op_bc32 rfl ?_) | refine AL.set rfl rfl (op_x32 rfl rfl ?_) | refine AL.set rfl rfl (op_cb32 rfl ?_) | refine AL.set rfl rfl (op_s32 8 rfl (by omega) rfl rfl ?_) | refine AL.set rfl rfl (op_indexA rfl rfl (by omega) (by omega) ?_) | refine AL.set rfl rfl (op_load rfl rfl hg hcell ?_) | refine AL.set rfl rfl (op_add64 rfl rfl (by omega) ?_) | refine AL.set rfl rfl (op_sub64 rfl rfl (by omega) ?_) | refine AL.set rfl rfl (op_quo64 rfl rfl (by omega) ?_) | refine AL.set rfl rfl (op_rem64 rfl rfl (by omega) ?_) | refine AL.set rfl rfl (op_mul64 rfl rfl (by omega) ?_) | refine AL.set rfl rfl (op_int rfl rfl rfl ?_) | refine AL.set rfl rfl (op_conv64 rfl (by omega) ?_) | refine AL.set rfl rfl (op_convI rfl ?_) | refine AL.set rfl rfl (op_not rfl ?_) | refine AL.set rfl rfl (op_lenS rfl ?_) | refine AL.set rfl rfl (op_lenStr rfl ?_) | refine AWp.condT rfl ?_ | refine AWp.condF rfl ?_ | refine AL.skip rfl rfl ?_ | refine AL.nil ?_ | refine AWp.ret ?_ | refine AWp.exit ?_ | refine AWp.block ?_ | refine AWp.skip ?_ | refine AWp.label ?_ | refine AWp.scope ?_)
      refine ⟨j + 1, by omega, by omega, Weak.same (EW.cons ?_ (EW.cons rfl (EW.cons rfl (EW.cons rfl (EW.cons rfl (EW.cons rfl (EW.cons rfl (EW.cons rfl EW.nil))))))))⟩
      have e : feeds (feeds r (ll.take k).flatten) (l.take (j + 1)) = step8 (ent (0 * 256 + Crc.byteOf (feeds (feeds r (ll.take k).flatten) (l.take j) ^^^ ofB b) 0)) ^^^ (feeds (feeds r (ll.take k).flatten) (l.take j) ^^^ ofB b) >>> 8 := by
        rw [feeds_take _ _ _ _ hbb, feed, step8_byte, Nat.zero_mul, Nat.zero_add]
      rw [e]; rfl
    · intro hge2
      obtain rfl : j = l.length := by omega
      repeat (first | refine AWp.seq ?_ | refine AWp.region ?_ | refine AL.set rfl rfl (op_moveI rfl ?_) | refine AL.set rfl rfl (op_moveS rfl ?_) | refine AL.set rfl rfl (op_moveB rfl ?_) | refine AL.set rfl rfl (op_moveP rfl ?_) | refine AL.set rfl rfl (op_moveStr rfl ?_) | refine AL.set rfl rfl (op_moveA rfl ?_) | refine AL.set rfl rfl (op_moveT rfl ?_) | refine AL.set rfl rfl (op_moveF rfl ?_) | refine AL.set rfl rfl (op_assignI rfl ?_) | refine AL.set rfl rfl (op_assignS rfl ?_) | refine AL.set rfl rfl (op_assignB rfl ?_) | refine AL.set rfl rfl (op_assignP rfl ?_) | refine AL.set rfl rfl (op_assignStr rfl ?_) | refine AL.set rfl rfl (op_assignA rfl ?_) | refine AL.set rfl rfl (op_assignF rfl ?_) | refine AL.set rfl rfl (op_add64 rfl rfl (by omega) ?_) | refine AL.set rfl rfl (op_sub64 rfl rfl (by omega) ?_) | refine AL.set rfl rfl (op_quo64 rfl rfl (by omega) ?_) | refine AL.set rfl rfl (op_rem64 rfl rfl (by omega) ?_) | refine AL.set rfl rfl (op_mul64 rfl rfl (by omega) ?_) | refine AL.set rfl rfl (op_int rfl rfl rfl ?_) | refine AL.set rfl rfl (op_conv64 rfl (by omega) ?_) | refine AL.set rfl rfl (op_convI rfl ?_) | refine AL.set rfl rfl (op_not rfl ?_) | refine AL.set rfl rfl (op_lenS rfl ?_) | refine AL.set rfl rfl (op_lenStr rfl ?_) | refine AWp.condT rfl ?_ | refine AWp.condF rfl ?_ | refine AL.skip rfl rfl ?_ | refine AL.nil ?_ | refine AWp.ret ?_ | refine AWp.exit ?_ | refine AWp.block ?_ | refine AWp.skip ?_ | refine AWp.label ?_ | refine AWp.scope ?_)
      refine ⟨k + 1, by omega, by omega, Weak.same (EW.cons ?_ (EW.cons rfl (EW.cons rfl (EW.cons rfl (EW.cons rfl EW.nil)))))⟩
      rw [feeds_flat _ _ _ _ hl, List.take_length]; rfl
  · intro hge
    obtain rfl : k = ll.length := by omega
    repeat (first | refine AWp.seq ?_ | refine AWp.region ?_ | refine AL.set rfl rfl (op_moveI rfl ?_) | refine AL.set rfl rfl (op_moveS rfl ?_) | refine AL.set rfl rfl (op_moveB rfl ?_) | refine AL.set rfl rfl (op_moveP rfl ?_) | refine AL.set rfl rfl (op_moveStr rfl ?_) | refine AL.set rfl rfl (op_moveA rfl ?_) | refine AL.set rfl rfl (op_moveT rfl ?_) | refine AL.set rfl rfl (op_moveF rfl ?_) | refine AL.set rfl rfl (op_assignI rfl ?_) | refine AL.set rfl rfl (op_assignS rfl ?_) | refine AL.set rfl rfl (op_assignB rfl ?_) | refine AL.set rfl rfl (op_assignP rfl ?_) | refine AL.set rfl rfl (op_assignStr rfl ?_) | refine AL.set rfl rfl (op_assignA rfl ?_) | refine AL.set rfl rfl (op_assignF rfl ?_) | refine AL.set rfl rfl (op_add64 rfl rfl (by omega) ?_) | refine AL.set rfl rfl (op_sub64 rfl rfl (by omega) ?_) | refine AL.set rfl rfl (op_quo64 rfl rfl (by omega) ?_) | refine AL.set rfl rfl (op_rem64 rfl rfl (by omega) ?_) | refine AL.set rfl rfl (op_mul64 rfl rfl (by omega) ?_) | refine AL.set rfl rfl (op_int rfl rfl rfl ?_) | refine AL.set rfl rfl (op_conv64 rfl (by omega) ?_) | refine AL.set rfl rfl (op_convI rfl ?_) | refine AL.set rfl rfl (op_not rfl ?_) | refine AL.set rfl rfl (op_lenS rfl ?_) | refine AL.set rfl rfl (op_lenStr rfl ?_) | refine AWp.condT rfl ?_ | refine AWp.condF rfl ?_ | refine AL.skip rfl rfl ?_ | refine AL.nil ?_ | refine AWp.ret ?_ | refine AWp.exit ?_ | refine AWp.block ?_ | refine AWp.skip ?_ | refine AWp.label ?_ | refine AWp.scope ?_)
    refine ⟨_, ResV.tmp rfl, rfl, hxH, ?_, rfl⟩
    rw [List.take_length]; rfl
set_option maxHeartbeats 400000 in
theorem sum_c (v : Value) (ll : List (List UInt8)) (h : Heap) (hr : RBB h v ll) (hll : ll.length ≤ 9223372036854775807) (hin : ∀ l ∈ ll, l.length ≤ 9223372036854775807) :
    ACalls Try.prog 81 [v] h fun u h' => u = u32 (sum ll.flatten) ∧ h' = h := by
  refine ACalls.body Try.func81 rfl rfl ?_
  repeat (first | refine AWp.seq ?_ | refine AWp.region ?_ | refine AL.set rfl rfl (op_moveI rfl ?_) | refine AL.set rfl rfl (op_moveS rfl ?_) | refine AL.set rfl rfl (op_moveB rfl ?_) | refine AL.set rfl rfl (op_moveP rfl ?_) | refine AL.set rfl rfl (op_moveStr rfl ?_) | refine AL.set rfl rfl (op_moveA rfl ?_) | refine AL.set rfl rfl (op_moveT rfl ?_) | refine AL.set rfl rfl (op_moveF rfl ?_) | refine AL.set rfl rfl (op_assignI rfl ?_) | refine AL.set rfl rfl (op_assignS rfl ?_) | refine AL.set rfl rfl (op_assignB rfl ?_) | refine AL.set rfl rfl (op_assignP rfl ?_) | refine AL.set rfl rfl (op_assignStr rfl ?_) | refine AL.set rfl rfl (op_assignA rfl ?_) | refine AL.set rfl rfl (op_assignF rfl ?_) | refine AL.set rfl rfl (op_move (v := v) rfl ?_) | refine AL.set rfl rfl (op_call rfl rfl ((take_c (~~~0#32) v ll _ hr hll hin).mono ?_)) | refine AL.set rfl rfl (op_add64 rfl rfl (by omega) ?_) | refine AL.set rfl rfl (op_sub64 rfl rfl (by omega) ?_) | refine AL.set rfl rfl (op_quo64 rfl rfl (by omega) ?_) | refine AL.set rfl rfl (op_rem64 rfl rfl (by omega) ?_) | refine AL.set rfl rfl (op_mul64 rfl rfl (by omega) ?_) | refine AL.set rfl rfl (op_int rfl rfl rfl ?_) | refine AL.set rfl rfl (op_conv64 rfl (by omega) ?_) | refine AL.set rfl rfl (op_convI rfl ?_) | refine AL.set rfl rfl (op_not rfl ?_) | refine AL.set rfl rfl (op_lenS rfl ?_) | refine AL.set rfl rfl (op_lenStr rfl ?_) | refine AWp.condT rfl ?_ | refine AWp.condF rfl ?_ | refine AL.skip rfl rfl ?_ | refine AL.nil ?_ | refine AWp.ret ?_ | refine AWp.exit ?_ | refine AWp.block ?_ | refine AWp.skip ?_ | refine AWp.label ?_ | refine AWp.scope ?_)
  rintro _ _ ⟨rfl, rfl⟩
  repeat (first | refine AWp.seq ?_ | refine AWp.region ?_ | refine AL.set rfl rfl (op_moveI rfl ?_) | refine AL.set rfl rfl (op_moveS rfl ?_) | refine AL.set rfl rfl (op_moveB rfl ?_) | refine AL.set rfl rfl (op_moveP rfl ?_) | refine AL.set rfl rfl (op_moveStr rfl ?_) | refine AL.set rfl rfl (op_moveA rfl ?_) | refine AL.set rfl rfl (op_moveT rfl ?_) | refine AL.set rfl rfl (op_moveF rfl ?_) | refine AL.set rfl rfl (op_assignI rfl ?_) | refine AL.set rfl rfl (op_assignS rfl ?_) | refine AL.set rfl rfl (op_assignB rfl ?_) | refine AL.set rfl rfl (op_assignP rfl ?_) | refine AL.set rfl rfl (op_assignStr rfl ?_) | refine AL.set rfl rfl (op_assignA rfl ?_) | refine AL.set rfl rfl (op_assignF rfl ?_) | refine AL.set rfl rfl (op_c32 rfl ?_) | refine AL.set rfl rfl (op_add64 rfl rfl (by omega) ?_) | refine AL.set rfl rfl (op_sub64 rfl rfl (by omega) ?_) | refine AL.set rfl rfl (op_quo64 rfl rfl (by omega) ?_) | refine AL.set rfl rfl (op_rem64 rfl rfl (by omega) ?_) | refine AL.set rfl rfl (op_mul64 rfl rfl (by omega) ?_) | refine AL.set rfl rfl (op_int rfl rfl rfl ?_) | refine AL.set rfl rfl (op_conv64 rfl (by omega) ?_) | refine AL.set rfl rfl (op_convI rfl ?_) | refine AL.set rfl rfl (op_not rfl ?_) | refine AL.set rfl rfl (op_lenS rfl ?_) | refine AL.set rfl rfl (op_lenStr rfl ?_) | refine AWp.condT rfl ?_ | refine AWp.condF rfl ?_ | refine AL.skip rfl rfl ?_ | refine AL.nil ?_ | refine AWp.ret ?_ | refine AWp.exit ?_ | refine AWp.block ?_ | refine AWp.skip ?_ | refine AWp.label ?_ | refine AWp.scope ?_)
  exact ⟨_, ResV.tmp rfl, rfl, rfl⟩
end Go.Proofs.Ytnioldkmckmajaa.Fr
/-
  A linear map by its 32 columns.
-/
namespace Go.Crc
open Go Go.Eng
def bit (k : Nat) : W := 1#32 <<< k
def low (x : W) (k : Nat) : W := BitVec.ofNat 32 (x.toNat % 2 ^ k)
def thr (L : W → W) (x : W) : Nat → W
  | 0 => 0#32
  | k + 1 => if x.getLsbD k then thr L x k ^^^ L (bit k) else thr L x k
def rowF (f : Nat → W) : List Value := (List.range 32).map fun k => u32 (f k)
attribute [irreducible] rowF
def row (L : W → W) : List Value := rowF fun k => L (bit k)
def made (M : W → W) (n k : Nat) : W := if k < n then M (bit k) else 0#32
end Go.Crc
/-
  Sums of texts that are xored, or of which bits are turned.
-/
namespace Go.Crc
open Go Go.Eng
def xor3 (a b c : List UInt8) : List UInt8 := List.zipWith (· ^^^ ·) (List.zipWith (· ^^^ ·) a b) c
def fillTo (xs : List UInt8) (k : Nat) : List UInt8 := xs.take k ++ List.replicate (xs.length - k) 0
section
variable {P : Program} {ρ : Operand → Value} {h : Heap} {K : Value → Heap → Prop} {dst : Option Tmp} {ty : TypeId} {pos : String} {aft : Array Edge} {g : Option (Nat × Bool)} {t t' : TypeId} {x y : Operand}
end
end Go.Crc
/-
  Bits that are turned over: what becomes of the sum.
-/
namespace Go.Crc
open Go Go.Eng
def flip (l : List UInt8) (k : Nat) : List UInt8 :=
  match l[k / 8]? with
  | some b => l.set (k / 8) (b ^^^ UInt8.ofNat (1 <<< (k % 8)))
  | none => l
def flips (l : List UInt8) (ks : List Nat) : List UInt8 := ks.foldl flip l
def img (n : Nat) : W := it fall n 1#32
def imgs (n : Nat) (ks : List Nat) : W := ks.foldr (fun k x => img (8 * n - k) ^^^ x) 0#32
end Go.Crc
/-
  Frames, in plain words.
-/
namespace Go.Frm
open Go Go.Eng Go.Crc
def wordB (n : W) : List UInt8 := [UInt8.ofNat (Crc.byteOf n 3), UInt8.ofNat (Crc.byteOf n 2), UInt8.ofNat (Crc.byteOf n 1), UInt8.ofNat (Crc.byteOf n 0)]
def be (b : List UInt8) : Nat := (b.getD 0 0).toNat * 16777216 + (b.getD 1 0).toNat * 65536 + (b.getD 2 0).toNat * 256 + (b.getD 3 0).toNat
theorem be_lt (b : List UInt8) : be b < 4294967296 := by
  have h0 := (b.getD 0 0).toNat_lt
  have h1 := (b.getD 1 0).toNat_lt
  have h2 := (b.getD 2 0).toNat_lt
  have h3 := (b.getD 3 0).toNat_lt
  unfold be
  omega
def mayN (n : Nat) : Bool := decide (1 ≤ n ∧ n ≤ 1048576)
theorem wordB_length (n : W) : (wordB n).length = 4 := rfl
def sumOf (b : List UInt8) : W := sum (b.take 4 ++ (b.drop 8).take (be b))
def first (b : List UInt8) : Option Nat :=
  if 8 ≤ b.length ∧ 1 ≤ be b ∧ be b ≤ 1048576 ∧ be b + 8 ≤ b.length ∧ (sumOf b).toNat = be (b.drop 4) then some (be b) else none
theorem first_some {b : List UInt8} {n : Nat} (h : first b = some n) : n = be b ∧ 8 ≤ b.length ∧ 1 ≤ n ∧ n ≤ 1048576 ∧ n + 8 ≤ b.length ∧ (sumOf b).toNat = be (b.drop 4) := by
  unfold first at h
  split at h
  · cases h; rename_i hc; exact ⟨rfl, hc⟩
  · cases h
def payload (b : List UInt8) (k n : Nat) : List UInt8 := (b.drop (k + 8)).take n
theorem payload_length {b : List UInt8} {k n : Nat} (h : k + 8 + n ≤ b.length) : (payload b k n).length = n := by
  simp [payload]; omega
def frs : Nat → List UInt8 → Nat → List (Nat × List UInt8)
  | 0, _, _ => []
  | f + 1, b, k => match first (b.drop k) with
    | some n => (k, payload b k n) :: frs f b (k + 8 + n)
    | none => []
theorem first_room {b : List UInt8} {k n : Nat} (h : first (b.drop k) = some n) : k + 8 + n ≤ b.length := by
  have := (first_some h).2.2.2.2.1
  rw [List.length_drop] at this
  omega
theorem frs_enough (b : List UInt8) : ∀ (f g k : Nat), b.length < k + f → b.length < k + g → frs f b k = frs g b k
  | 0, 0, _, _, _ => rfl
  | 0, g + 1, k, h, _ => by
    simp only [frs]
    cases hf : first (b.drop k) with
    | none => rfl
    | some n => have := first_room hf; omega
  | f + 1, 0, k, _, h => by
    simp only [frs]
    cases hf : first (b.drop k) with
    | none => rfl
    | some n => have := first_room hf; omega
  | f + 1, g + 1, k, h1, h2 => by
    simp only [frs]
    cases hf : first (b.drop k) with
    | none => rfl
    | some n =>
      have := first_room hf
      simp only [frs_enough b f g (k + 8 + n) (by omega) (by omega)]
def fr (b : List UInt8) (k : Nat) : List (Nat × List UInt8) := frs (b.length + 1) b k
theorem fr_none {b : List UInt8} {k : Nat} (h : first (b.drop k) = none) : fr b k = [] := by
  unfold fr frs
  rw [h]
theorem fr_some {b : List UInt8} {k n : Nat} (h : first (b.drop k) = some n) : fr b k = (k, payload b k n) :: fr b (k + 8 + n) := by
  have hr := first_room h
  have e : fr b k = (k, payload b k n) :: frs b.length b (k + 8 + n) := by
    show frs (b.length + 1) b k = _
    simp only [frs, h]
  rw [e]
  congr 1
  exact frs_enough b _ _ _ (by omega) (by omega)
def endF (k : Nat) : List (Nat × List UInt8) → Nat
  | [] => k
  | (a, p) :: l => endF (a + 8 + p.length) l
theorem endF_append (k : Nat) (l : List (Nat × List UInt8)) (a : Nat) (p : List UInt8) : endF k (l ++ [(a, p)]) = a + 8 + p.length := by
  induction l generalizing k with
  | nil => rfl
  | cons x l ih => exact ih _
structure Come (b : List UInt8) (done : List (Nat × List UInt8)) (k : Nat) : Prop where
  all : fr b 0 = done ++ fr b k
  at_ : endF 0 done = k
  le : k ≤ b.length
  count : done.length ≤ k
theorem Come.start (b : List UInt8) : Come b [] 0 := ⟨rfl, rfl, Nat.zero_le _, Nat.le_refl _⟩
theorem Come.next {b : List UInt8} {done : List (Nat × List UInt8)} {k n : Nat} (c : Come b done k) (h : first (b.drop k) = some n) : Come b (done ++ [(k, payload b k n)]) (k + 8 + n) := by
  have hr := first_room h
  refine ⟨?_, ?_, hr, by have := c.count; simp; omega⟩
  · rw [c.all, fr_some h, List.append_assoc]
    rfl
  · rw [endF_append, payload_length hr]
theorem Come.stop {b : List UInt8} {done : List (Nat × List UInt8)} {k : Nat} (c : Come b done k) (h : first (b.drop k) = none) : fr b 0 = done ∧ endF 0 (fr b 0) = k := by
  have e : fr b 0 = done := by rw [c.all, fr_none h, List.append_nil]
  exact ⟨e, by rw [e]; exact c.at_⟩
def endW (b : List UInt8) : Nat := endF 0 (fr b 0)
def odd (b : List UInt8) : Bool :=
  let rest := b.drop (endW b)
  if rest.length < 8 then false else !mayN (be rest) || decide (8 + be rest ≤ rest.length)
end Go.Frm
/-
  The engine, part M: arguments of a law, from the world «to» the abstract heap.
-/
namespace Go.Eng
open Go
def IsRow (k : IntKind) (w : World) (a : Option Addr) (len cap : Nat) (zs : List Int) : Prop :=
  (a = none ∧ len = 0 ∧ cap = 0 ∧ zs = []) ∨
  ∃ x, a = some x ∧ len ≤ cap ∧ cap ≤ maxLen ∧ zs.length = cap ∧ (∀ i, i < zs.length → w.cell? (x.add i) = some (.int k (zs.getD i 0))) ∧ ∀ n ∈ zs, (Lit.int k n).wf = true
def atOf (a : Option Addr) (cap : Nat) : Addr := if cap = 0 then ⟨0, 0, none⟩ else a.getD ⟨0, 0, none⟩
def absS (a : Option Addr) (i len cap : Nat) : Value :=
  match a with
  | none => .slice none 0 0
  | some _ => .slice (some ⟨i, 0, none⟩) len (if cap = len then len else len + 1)
def toB (zs : List Int) : List UInt8 := zs.map fun z => UInt8.ofNat z.toNat
def iv (k : IntKind) (zs : List Int) : List Value := zs.map fun z => .int k z
section
variable {k : IntKind} {W : World} {a : Option Addr} {len cap : Nat} {zs : List Int} {G : Nat} {bs : List RoB} {j : Nat}
end
end Go.Eng
/-
  The engine, part O: an argument that is a slice of slices of integers.
-/
namespace Go.Eng
open Go
def IsRows (k : IntKind) (W : World) (a : Option Addr) (len cap : Nat) (A : Nat → Option Addr) (L C : Nat → Nat) (Z : Nat → List Int) : Prop :=
  (a = none ∧ len = 0 ∧ cap = 0) ∨
  ∃ x, a = some x ∧ len ≤ cap ∧ cap ≤ maxLen ∧ ∀ r, r < cap → W.cell? (x.add r) = some (.slice (A r) (L r) (C r)) ∧ IsRow k W (A r) (L r) (C r) (Z r)
section
variable {k : IntKind} {W : World} {a : Option Addr} {len cap : Nat} {A : Nat → Option Addr} {L C : Nat → Nat} {Z : Nat → List Int} {G : Nat} {bs : List RoB} {j0 j1 : Nat}
def outer (G j1 : Nat) (len : Nat) (A : Nat → Option Addr) (L C : Nat → Nat) : List Value := (List.range len).map fun r => absS (A r) (G + (j1 + r)) (L r) (C r)
def inner (k : IntKind) (len : Nat) (A : Nat → Option Addr) (L C : Nat → Nat) (Z : Nat → List Int) : List RoB := (List.range len).map fun r => ⟨iv k ((Z r).take (L r)), atOf (A r) (C r)⟩
theorem spot_of {x : Addr} {v : Value} (h0 : W.cell? (x.add 0) = some v) : x.spot = none := by
  have : x.add 0 = x := by simp [Addr.add]
  rw [this] at h0
  cases hs : x.spot with
  | none => rfl
  | some s =>
    exfalso
    unfold World.cell? at h0
    split at h0
    · simp [hs] at h0
    · cases h0
end
end Go.Eng
/-
  The engine, part P: a region whose order is drawn, told by what each operation's value is known «to» be.
-/
namespace Go.Eng
open Go
structure Spec where
  p : Value → Heap → Prop
  mono : ∀ v h h', p v h → Ext h h' → p v h'
def Spec.any : Spec := ⟨fun _ _ => True, fun _ _ _ _ _ => trivial⟩
def Spec.eq (c : Value) : Spec := ⟨fun v _ => v = c, fun _ _ _ h _ => h⟩
def Spec.rs (vs : List Value) : Spec := ⟨fun v h => RS h v vs, fun _ _ _ h x => RS.ext h x⟩
def Spec.rb (l : List UInt8) : Spec := ⟨fun v h => RB h v l, fun _ _ _ h x => RB.ext h x⟩
def Spec.rbb (l : List (List UInt8)) : Spec := ⟨fun v h => RBB h v l, fun _ _ _ h x => RBB.ext h x⟩
def dstOf (ops : Array Oper) (j : Nat) : Nat :=
  match ops[j]? with
  | some o => o.dst.getD 0
  | none => 0
def lowB (ops : Array Oper) (t : Nat) : Bool := ops.toList.all fun o => match o.dst with
  | some d => !Nat.beq d t
  | none => true
def flowB (N : Nat) (ops : Array Oper) : Bool :=
  (List.range ops.size).all fun i => (match ops[i]? with
    | some o => (match o.dst with
      | some d => Nat.blt d N
      | none => false) && o.after.all (fun e => !Region.binds .any e || Nat.blt e.on i)
    | none => false) && (List.range i).all fun j => !Nat.beq (dstOf ops i) (dstOf ops j)
section
variable {P : Program} {N : Nat} {ops : Array Oper} {Q : Exit → Env → Heap → Prop} {env : Env} {h : Heap} {S : List Spec}
def spec (S : List Spec) (i : Nat) : Spec := S.getD i .any
def FlowAt (P : Program) (ops : Array Oper) (env : Env) (h : Heap) (S : List Spec) (i : Nat) (o : Oper) : Prop :=
  ∀ e h', Ext h h' → WF h' → h.next ≤ h'.next → (∀ t, lowB ops t = true → e.get t = env.get t) → (∀ j, edgeB ops i j = true → (spec S j).p (e.get (dstOf ops j)) h') →
    (gv ops e o = some true ∧ AOp P o (ev P e) h' fun v h'' => Ext h' h'' ∧ (spec S i).p v h'') ∨ (gv ops e o = some false ∧ (spec S i).p undef h')
def FlowL (P : Program) (ops : Array Oper) (env : Env) (h : Heap) (S : List Spec) : Nat → List Oper → Prop
  | _, [] => True
  | i, o :: l => FlowAt P ops env h S i o ∧ FlowL P ops env h S (i + 1) l
theorem FlowL.cons {i : Nat} {o : Oper} {l : List Oper} (a : FlowAt P ops env h S i o) (b : FlowL P ops env h S (i + 1) l) : FlowL P ops env h S i (o :: l) := ⟨a, b⟩
theorem FlowL.nil {i : Nat} : FlowL P ops env h S i [] := trivial
theorem FlowL.at : ∀ {l : List Oper} {k i : Nat} {o : Oper}, FlowL P ops env h S k l → l[i]? = some o → FlowAt P ops env h S (k + i) o
  | [], _, _, _, _, hi => by simp at hi
  | o' :: l, k, 0, o, p, hi => by simp at hi; subst hi; exact p.1
  | o' :: l, k, i + 1, o, p, hi => by
    have := FlowL.at p.2 (i := i) (by simpa using hi)
    rwa [show k + (i + 1) = k + 1 + i from by omega]
theorem flowB_at (hb : flowB N ops = true) {i : Nat} {o : Oper} (ho : ops[i]? = some o) : (∃ d, o.dst = some d ∧ d < N) ∧ (∀ j, edgeB ops i j = true → j < i) ∧ ∀ j, j < i → dstOf ops i ≠ dstOf ops j := by
  have hi : i < ops.size := (Array.getElem?_eq_some_iff.1 ho).1
  have h1 := List.all_eq_true.1 hb i (List.mem_range.2 hi)
  rw [Bool.and_eq_true] at h1
  obtain ⟨h1, h2⟩ := h1
  simp only [ho, Bool.and_eq_true] at h1
  obtain ⟨h3, h4⟩ := h1
  refine ⟨?_, ?_, ?_⟩
  · cases hd : o.dst with
    | none => rw [hd] at h3; cases h3
    | some d => rw [hd] at h3; exact ⟨d, rfl, by simpa [Nat.blt_eq] using h3⟩
  · intro j hj
    obtain ⟨e, he, hbi, rfl⟩ := (edgeB_iff ho).1 hj
    have := Array.all_eq_true_iff_forall_mem.1 h4 e he
    simp only [hbi, Bool.not_true, Bool.false_or] at this
    simpa [Nat.blt_eq] using this
  · intro j hj
    have := List.all_eq_true.1 h2 j (List.mem_range.2 hj)
    intro e
    rw [e] at this
    simp at this
theorem dstOf_eq {i : Nat} {o : Oper} {d : Nat} (ho : ops[i]? = some o) (hd : o.dst = some d) : dstOf ops i = d := by
  simp [dstOf, ho, hd]
theorem least : ∀ (U : List Nat), U ≠ [] → ∃ i, i ∈ U ∧ ∀ j, j ∈ U → i ≤ j
  | [], h => absurd rfl h
  | [a], _ => ⟨a, by simp, by simp⟩
  | a :: b :: U, _ => by
    obtain ⟨i, hi, hm⟩ := least (b :: U) (by simp)
    by_cases ha : a ≤ i
    · refine ⟨a, by simp, fun j hj => ?_⟩
      rcases List.mem_cons.1 hj with rfl | hj
      · exact Nat.le_refl _
      · exact Nat.le_trans ha (hm j hj)
    · refine ⟨i, List.mem_cons_of_mem _ hi, fun j hj => ?_⟩
      rcases List.mem_cons.1 hj with rfl | hj
      · omega
      · exact hm j hj
theorem lowB_dst {i : Nat} {o : Oper} {d t : Nat} (ho : ops[i]? = some o) (hd : o.dst = some d) (hl : lowB ops t = true) : d ≠ t := by
  have := List.all_eq_true.1 hl o (by simpa using Array.mem_of_getElem? ho)
  rw [hd] at this
  intro e
  rw [e] at this
  simp at this
theorem flow_order (hb : flowB N ops = true) (hall : FlowL P ops env h S 0 ops.toList)
    (hend : ∀ e h', Ext h h' → WF h' → h.next ≤ h'.next → (∀ t, lowB ops t = true → e.get t = env.get t) → (∀ j, j < ops.size → (spec S j).p (e.get (dstOf ops j)) h') → Q .normal e h') :
    ∀ (n : Nat) (U : List Nat) (L : Array Bool) (e : Env) (h1 : Heap) (φ : Ren) (a : Act) (w : World), U.length = n → L.size = ops.size → U.Nodup → (∀ i, i < ops.size → (L.getD i true = false ↔ i ∈ U)) → (∀ i, i ∈ U → i < ops.size) →
      Ext h h1 → h.next ≤ h1.next → (∀ t, lowB ops t = true → e.get t = env.get t) → (∀ j, j < ops.size → ¬ j ∈ U → (spec S j).p (e.get (dstOf ops j)) h1) →
      a.defers = [] → Rel P N φ e h1 a.tmps w → wpAny P .any ops (fun ex a' w' => Post P N φ h1 w (Q ex) a' w') n L a w := by
  intro n
  induction n with
  | zero =>
    intro U L e h1 φ a w hn hL _ hmem hlt hx hnx hlow hS hd r
    have : U = [] := List.eq_nil_of_length_eq_zero hn
    subst this
    refine ⟨?_, Post.now (hend e h1 hx r.sim.next hnx hlow fun j hj => hS j hj (by simp)) hd r⟩
    apply List.eq_nil_iff_forall_not_mem.2
    intro i hi
    obtain ⟨q1, o, q2, _⟩ := mem_ready.1 hi
    have hil : i < ops.size := (Array.getElem?_eq_some_iff.1 q2).1
    have := (hmem i hil).1 q1
    cases this
  | succ n ih =>
    intro U L e h1 φ a w hn hL hnd hmem hlt hx hnx hlow hS hd r
    have hdone : ∀ j, j < ops.size → ¬ j ∈ U → L.getD j false = true := by
      intro j hj hno
      cases hq : L.getD j true with
      | false => exact absurd ((hmem j hj).1 hq) hno
      | true =>
        have hjl : j < L.size := by omega
        simp only [Array.getD_eq_getD_getElem?, Array.getElem?_eq_getElem hjl, Option.getD_some] at hq ⊢
        exact hq
    refine ⟨fun hnil => ?_, fun i hi => ?_⟩
    · exfalso
      obtain ⟨i0, hi0, hmin⟩ := least U (by intro e; rw [e] at hn; simp at hn)
      have hil := hlt i0 hi0
      have ho0 : ops[i0]? = some ops[i0] := Array.getElem?_eq_getElem hil
      have : i0 ∈ Region.ready .any ops L := by
        refine mem_ready.2 ⟨(hmem i0 hil).2 hi0, ops[i0], ho0, fun ed he hbi => ?_⟩
        have hlt2 := (flowB_at hb ho0).2.1 ed.on ((edgeB_iff ho0).2 ⟨ed, he, hbi, rfl⟩)
        exact hdone ed.on (by omega) (fun hin => by have := hmin _ hin; omega)
      rw [hnil] at this
      cases this
    · obtain ⟨hi1, o, ho, hedges⟩ := mem_ready.1 hi
      have hil : i < ops.size := (Array.getElem?_eq_some_iff.1 ho).1
      have hiU := (hmem i hil).1 hi1
      obtain ⟨U1, U2, rfl⟩ := List.append_of_mem hiU
      obtain ⟨⟨d, hdst, hdN⟩, hback, _⟩ := flowB_at hb ho
      have hdist : ∀ j, j < ops.size → j ≠ i → dstOf ops j ≠ d := by
        intro j hj hne he
        rw [← dstOf_eq ho hdst] at he
        have hoj : ops[j]? = some ops[j] := Array.getElem?_eq_getElem hj
        rcases Nat.lt_or_gt_of_ne hne with h2 | h2
        · exact (flowB_at hb ho).2.2 j h2 he.symm
        · exact (flowB_at hb hoj).2.2 i h2 he
      have hU' : (U1 ++ U2).length = n := by simp at hn ⊢; omega
      have hnd' : (U1 ++ U2).Nodup := by
        rw [List.nodup_append] at hnd ⊢
        refine ⟨hnd.1, (List.nodup_cons.1 hnd.2.1).2, fun x hx1 y hy => hnd.2.2 x hx1 y (by simp [hy])⟩
      have hni : ¬ i ∈ U1 ++ U2 := by
        rw [List.nodup_append] at hnd
        intro hin
        rcases List.mem_append.1 hin with h2 | h2
        · exact hnd.2.2 i h2 i (by simp) rfl
        · exact (List.nodup_cons.1 hnd.2.1).1 h2
      have hL' : (L.setIfInBounds i true).size = ops.size := by simp [hL]
      have hsub : ∀ j, j ≠ i → (j ∈ U1 ++ U2 ↔ j ∈ U1 ++ i :: U2) := by
        intro j hj
        simp [hj]
      have hmem' : ∀ j, j < ops.size → ((L.setIfInBounds i true).getD j true = false ↔ j ∈ U1 ++ U2) := by
        intro j hj
        by_cases hji : i = j
        · subst hji
          have : (L.setIfInBounds i true).getD i true = true := by
            simp [Array.getD_eq_getD_getElem?]
          rw [this]
          constructor
          · intro e; cases e
          · intro e; exact absurd e hni
        · rw [getD_set_ne _ hji, hmem j hj, hsub j (fun e => hji e.symm)]
      have hlt' : ∀ j, j ∈ U1 ++ U2 → j < ops.size := fun j hj => hlt j (by
        rcases List.mem_append.1 hj with h2 | h2
        · exact List.mem_append_left _ h2
        · exact List.mem_append_right _ (by simp [h2]))
      have go : ∀ (φ' : Ren) (v : Value) (h2 : Heap) (a' : Act) (w' : World), a'.defers = [] → Ext h1 h2 → (spec S i).p v h2 → Rel P N φ' (e.put o.dst v) h2 a'.tmps w' → Step φ h1 w φ' h2 w' →
          wpAny P .any ops (fun ex a2 w2 => Post P N φ h1 w (Q ex) a2 w2) n (L.setIfInBounds i true) a' w' := by
        intro φ' v h2 a' w' hd' hx2 hsp r' st
        refine wpAny_mono (fun _ _ _ hp => hp.trans st) _ _ _ _ (ih (U1 ++ U2) _ _ h2 φ' a' w' hU' hL' hnd' hmem' hlt' (hx.trans hx2) (Nat.le_trans hnx st.next) ?_ ?_ hd' r')
        · intro t ht
          rw [put_other (fun he => lowB_dst ho he ht rfl)]
          exact hlow t ht
        · intro j hj hno
          by_cases hji : j = i
          · subst hji
            rw [dstOf_eq ho hdst, hdst, show (e.put (some d) v) = (d, v) :: e from rfl, Env.get_put, if_pos rfl]
            exact hsp
          · rw [put_other (fun he => hdist j hj hji (by rw [hdst] at he; cases he; rfl))]
            exact (spec S j).mono _ _ _ (hS j hj (fun hin => hno ((hsub j hji).2 hin))) hx2
      have hdB : dstB N o.dst = true := by
        rw [hdst]
        simpa [dstB, Nat.blt_eq] using hdN
      have hat0 := FlowL.at hall (i := i) (by simpa using ho)
      rw [Nat.zero_add] at hat0
      have hat := hat0 e h1 hx r.sim.next hnx hlow (fun j hj => hS j (by have := hback j hj; omega) (fun hin => by
        have hjl : j < ops.size := by have := hback j hj; omega
        have q1 := (hmem j hjl).2 hin
        obtain ⟨ed, he, hbi, rfl⟩ := (edgeB_iff ho).1 hj
        have q2 := hedges ed he hbi
        have hjl' : ed.on < L.size := by omega
        simp only [Array.getD_eq_getD_getElem?, Array.getElem?_eq_getElem hjl', Option.getD_some] at q1 q2
        rw [q1] at q2; cases q2))
      rcases hat with ⟨hg, hop⟩ | ⟨hg, hsp⟩
      · simp only [wpOp, ho, wanted_of r hg, if_true]
        refine .inl (hop φ a w ⟨r.sim, fun x _ => r.ev x⟩ _ _ fun c w' φ' h2 v ⟨kv1, kv2⟩ vr s st => ?_)
        exact go φ' v h2 _ w' (by rw [put_defers]; exact hd) kv1 kv2 ((r.step s st).put o.dst (dstB_lt hdB) vr) st
      · simp only [wpOp, ho, wanted_of r hg, Bool.false_eq_true, if_false]
        exact go φ undef h1 _ w (by rw [put_defers]; exact hd) (Ext.refl _) hsp (r.put o.dst (dstB_lt hdB) (.und _)) (Step.refl _ _ _)
theorem AWp.flow {id : Nat} (S : List Spec) (hm : P.follows .mixedOrders = true) (hb : flowB N ops = true)
    (hend : ∀ e h', Ext h h' → WF h' → h.next ≤ h'.next → (∀ t, lowB ops t = true → e.get t = env.get t) → (∀ j, j < ops.size → (spec S j).p (e.get (dstOf ops j)) h') → Q .normal e h')
    (hall : FlowL P ops env h S 0 ops.toList) : AWp P N (.region id ops true) Q env h := by
  intro φ a w hd r
  refine wp_region_any hm ?_
  have r' : Rel P N φ env h a.tmps w.drew := ⟨r.sim.drew, r.size, r.env⟩
  refine wpAny_mono (fun _ _ _ hp => hp.trans Step.drew) _ _ _ _ (flow_order hb hall hend ops.size (List.range ops.size) (Array.replicate ops.size false) env h φ a w.drew (by simp) (by simp) List.nodup_range ?_ ?_ (Ext.refl _) (Nat.le_refl _) (fun _ _ => rfl) ?_ hd r')
  · intro i hi
    have q : (Array.replicate ops.size false).getD i true = false := by
      simp [Array.getD_eq_getD_getElem?, hi]
    rw [q]
    simp [hi]
  · intro i hi
    exact List.mem_range.1 hi
  · intro j hj hno
    exact absurd (List.mem_range.2 hj) hno
end
end Go.Eng
/-
  The engine, part Q: arrays by value, a slice against nil, results of two kinds.
-/
namespace Go.Eng
open Go
variable {P : Program} {ρ : Operand → Value} {h : Heap} {K : Value → Heap → Prop} {dst : Option Tmp} {ty : TypeId} {pos : String} {aft : Array Edge} {g : Option (Nat × Bool)}
theorem op_eqNil {t t' e : TypeId} {x : Operand} {y : Operand} {a : Option Addr} {n c : Nat} [td : TyD P t (.slice e)] (hx : ρ x = .slice a n c) (hy : ρ y = .slice none 0 0) (kk : K (.bool a.isNone) h) : AOp P ⟨dst, .binOp .eql t x y t', ty, pos, aft, g⟩ ρ h K :=
  .of_pure kk fun φ ac w r => by
    have hv := hx ▸ r.ev x (by simp [Op.operands])
    have h2 := hy ▸ r.ev y (by simp [Op.operands])
    obtain ⟨_, _, e2⟩ := h2.nilSlice_inv
    have he : ∃ a' n' c', ac.eval x = .slice a' n' c' ∧ a'.isNone = a.isNone := by
      cases a with
      | none => obtain ⟨e1, e2, e3⟩ := hv.nilSlice_inv; exact ⟨none, _, _, e3, rfl⟩
      | some a =>
        obtain ⟨i, o, s⟩ := a
        obtain ⟨cap', a', e1, _⟩ := hv.slice_inv
        exact ⟨some a', _, _, e1, rfl⟩
    obtain ⟨a', n', c', e1, e3⟩ := he
    refine ⟨.bool a.isNone, ?_, .bool _⟩
    simp [execOp, e1, e2, eqGuard, binOp, run_equal_slice_nil (P := P) w t e a' n' c' td.eq, e3]
theorem ResV.cell2 {fn : Func} {env : Env} {a u : Tmp} {t : TypeId} {i o sz by_ : Nat} {z : Value} {s : Option Nat} {b : Blk} {d : TypeDesc} [td : TyD P t d] [ti : TyI P t sz by_ z] (hr : fn.results = #[.cell a t, .tmp u]) (hx : env.get a = .pointer (some ⟨i, o, s⟩)) (ha : aggB d = true)
    (hi : h.get i = some b) (hl : o + sz ≤ b.cells.length) : ResV P fn env h (.tuple #[.agg ((b.cells.drop o).take sz).toArray, env.get u]) := by
  intro N φ tmps w r
  obtain ⟨v, h1, h2⟩ := load_run (P := P) (t := t) r.sim (hx ▸ r.env a) ha hi hl
  refine ⟨.tuple #[v, tmps.getD u undef], ?_, .tuple2 h2 (r.env u)⟩
  have h3 : (results fn tmps).run P w = (do let x ← loadVar t (← asAddr (tmps.getD a undef)); pure (.tuple #[x, tmps.getD u undef]) : Sem Value).run P w := by
    simp only [results, hr]
    simp only [List.mapM_toArray, List.mapM_cons, List.mapM_nil, Sem.run_bind, Sem.run_map, Sem.run_pure]
    cases (asAddr (tmps.getD a undef)).run P w with
    | halt x w1 => rfl
    | ok x w1 =>
      simp only [Result.andThen_ok]
      cases (loadVar t x).run P w1 with
      | halt y w2 => rfl
      | ok y w2 => rfl
  rw [h3]
  simp only [Sem.run_bind] at h1 ⊢
  cases h4 : (asAddr (tmps.getD a undef)).run P w with
  | halt x w1 => rw [h4] at h1; cases h1
  | ok x w1 =>
    rw [h4] at h1
    simp only [Result.andThen_ok] at h1 ⊢
    rw [h1]
    simp
theorem ACalls.resetB {f : FuncId} {args : List Value} {Q : Value → Heap → Prop} (p : ACalls P f args h fun v h' => Bdd h.next v ∧ Ext h h' ∧ Q v h) : ACalls P f args h Q :=
  fun φ w cargs s va => (p φ w cargs s va).mono fun e w' hr => by
    cases e with
    | returned c =>
      obtain ⟨v, h', φ', ⟨⟨φ0, c0, hb⟩, hx, q⟩, r1, r2, r3⟩ := hr
      exact ⟨v, h, φ', q, r1.lower hb, s.reset r2 r3.agree hx, r3.reset hx⟩
    | _ => exact hr
theorem Bdd.plain {n : Nat} {v : Value} (h : plainV v = true) : Bdd n v := ⟨fun _ => ⟨0, 0, 0⟩, v, .of_plain h⟩
theorem Bdd.pair {n : Nat} {a b : Value} (_ha : Bdd n a) (_hb : Bdd n b) (hp : plainV a = true) (hq : plainV b = true) : Bdd n (.tuple #[a, b]) :=
  ⟨fun _ => ⟨0, 0, 0⟩, .tuple #[a, b], .tuple2 (.of_plain hp) (.of_plain hq)⟩
end Go.Eng
/-
  The engine, part R: calls whose answer is known and that leave nothing.
-/
namespace Go.Eng
open Go
variable {P : Program} {ρ : Operand → Value} {h : Heap} {K : Value → Heap → Prop} {dst : Option Tmp} {ty : TypeId} {pos : String} {aft : Array Edge} {g : Option (Nat × Bool)}
theorem op_callS {x : Operand} {f : FuncId} {fi ca : Array Value} {args : Array Operand} {aT : Array TypeId} [fc : FnC P f] {evs : List Value} {v : Value} (hx : ρ x = .func (.func f) fi ca) (he : fi.toList ++ (args.toList.map ρ ++ ca.toList) = evs)
    (c : ACalls P f evs h fun u h' => u = v ∧ h' = h) (kk : K v h) : AOp P ⟨dst, .call ⟨.value x, args, aT⟩, ty, pos, aft, g⟩ ρ h K :=
  op_call hx he (c.mono (by rintro u h' ⟨rfl, rfl⟩; exact kk))
end Go.Eng
