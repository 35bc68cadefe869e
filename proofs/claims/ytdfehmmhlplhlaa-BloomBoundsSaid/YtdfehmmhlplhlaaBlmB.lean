/-
  A key's bits: package bloom's, by complex numbers, and the reference's.
-/
import Derived.Test.YtdfehmmhlplhlaaBlmA
import Derived.Test.YtdfehmmhlplhlaaBlmOpsB
namespace Go.Proofs.Ytdfehmmhlplhlaa
open Go Go.Eng Go.Crc Go.Blm


/-- A row of five, some of it written. -/
def fill5 (xs : List Int) (k : Nat) : List Int := xs.take k ++ List.replicate (xs.length - k) 0
theorem fill5_length (xs : List Int) (k : Nat) : (fill5 xs k).length = xs.length := by simp [fill5]; omega
theorem fill5_zero (xs : List Int) : fill5 xs 0 = List.replicate xs.length 0 := by simp [fill5]
theorem fill5_all (xs : List Int) : fill5 xs xs.length = xs := by simp [fill5]
theorem fill5_set (xs : List Int) (k : Nat) (x : Int) (hx : xs[k]? = some x) : (fill5 xs k).set k x = fill5 xs (k + 1) := by
  have hk : k < xs.length := (List.getElem?_eq_some_iff.1 hx).1
  unfold fill5
  rw [List.set_append_right _ _ (by simp; omega), List.take_add_one, hx]
  have h1 : (xs.take k).length = k := by simp; omega
  rw [h1, Nat.sub_self]
  obtain ⟨m, hm⟩ : ∃ m, xs.length - k = m + 1 := ⟨xs.length - k - 1, by omega⟩
  rw [hm, show xs.length - (k + 1) = m from by omega]
  simp [List.replicate_succ]
theorem iv_set (k : IntKind) (zs : List Int) (i : Nat) (z : Int) : (iv k zs).set i (.int k z) = iv k (zs.set i z) := by simp [iv, List.map_set]
theorem iv_length (k : IntKind) (zs : List Int) : (iv k zs).length = zs.length := by simp [iv]
theorem iv_get (k : IntKind) (zs : List Int) (i : Nat) (z : Int) (hz : zs[i]? = some z) : (iv k zs)[i]? = some (.int k z) := by simp [iv, hz]
theorem iv_oneB (k : IntKind) (zs : List Int) : (iv k zs).all oneB = true := List.all_eq_true.2 (by intro v hv; obtain ⟨z, _, rfl⟩ := List.mem_map.1 hv; rfl)
def bitsI (key : List UInt8) (m : Nat) : List Int := (Go.Blm.bits key m).map fun (k : Nat) => (k : Int)
theorem bitsI_length (key : List UInt8) (m : Nat) : (bitsI key m).length = 5 := rfl
theorem bitsI_get (key : List UInt8) (m i : Nat) (hi : i < 5) : (bitsI key m)[i]? = some (bit5 key m i : Int) := by
  simp [bitsI, bits_get key m i hi]
abbrev zeros5 : List Int := [0, 0, 0, 0, 0]
abbrev rowB (xs : List Int) : Blk := ⟨iv .i64 xs, 26, true⟩
abbrev five (xs : List Int) : Value := .agg (iv .i64 xs).toArray
theorem splice_iv (xs ys : List Int) (h : ys.length = xs.length) : splice (iv .i64 xs) 0 (iv .i64 ys).toArray.toList = iv .i64 ys := by
  rw [List.toList_toArray]
  exact splice_all _ _ (by rw [iv_length, iv_length, h])
theorem zero5 : (Value.agg (Array.replicate 5 (.int .i64 0))).cells.toList = iv .i64 zeros5 := rfl
theorem op_alloc5 {ρ : Operand → Value} {h : Heap} {K : Value → Heap → Prop} {dst : Option Tmp} {ty : TypeId} {pos : String} {aft : Array Edge} {g : Option (Nat × Bool)} (kk : K (.pointer (some ⟨h.next, 0, none⟩)) (h.alloc (rowB zeros5))) :
    AOp Try.prog ⟨dst, .alloc 26, ty, pos, aft, g⟩ ρ h K := op_alloc (by rw [zero5]; exact kk)
/-- What lies in a row of five, as a value. -/
theorem op_load5 {ρ : Operand → Value} {h : Heap} {K : Value → Heap → Prop} {dst : Option Tmp} {ty : TypeId} {pos : String} {aft : Array Edge} {g : Option (Nat × Bool)} {x : Operand} {i : Nat} (xs : List Int) (h5 : xs.length = 5) (hx : ρ x = .pointer (some ⟨i, 0, none⟩))
    (hi : h.get i = some (rowB xs)) (kk : K (five xs) h) : AOp Try.prog ⟨dst, .load 26 x, ty, pos, aft, g⟩ ρ h K :=
  op_loadA hx rfl hi (by show 0 + 5 ≤ (iv .i64 xs).length; rw [iv_length]; omega) (by
    show K (.agg (((iv .i64 xs).drop 0).take 5).toArray) h
    rw [List.drop_zero, List.take_of_length_le (by rw [iv_length]; omega)]
    exact kk)
/-- Written whole. -/
theorem op_store5 {ρ : Operand → Value} {h : Heap} {K : Value → Heap → Prop} {dst : Option Tmp} {ty : TypeId} {pos : String} {aft : Array Edge} {g : Option (Nat × Bool)} {x y : Operand} {i : Nat} (xs ys : List Int) (h5 : xs.length = 5) (h6 : ys.length = 5) (hx : ρ x = .pointer (some ⟨i, 0, none⟩)) (hy : ρ y = five ys)
    (hi : h.get i = some (rowB xs)) (kk : K undef (h.set i (rowB ys))) : AOp Try.prog ⟨dst, .store 26 x y, ty, pos, aft, g⟩ ρ h K :=
  op_storeA (vs := (iv .i64 ys).toArray) hx hy (by rw [List.toList_toArray]; exact iv_oneB _ _) (by simp [iv, h6]) hi rfl (by show 0 + 5 ≤ (iv .i64 xs).length; rw [iv_length]; omega) (by
    have e : splice (rowB xs).cells 0 (iv .i64 ys).toArray.toList = iv .i64 ys := splice_iv xs ys (by omega)
    rw [e]
    exact kk)
theorem rbs_one {H : Heap} {v : Value} {l : List UInt8} (r : RB H v l) : RBs H [v] [l] := ⟨r, trivial⟩
theorem cx_zero (a b : Nat) : cxv a b = cxv (a + 0 * b) b := by rw [Nat.zero_mul, Nat.add_zero]
theorem cx_next (a b k : Nat) : cxv (a + k * b + b) (b + 0) = cxv (a + (k + 1) * b) b := by rw [Nat.succ_mul, Nat.add_assoc, Nat.add_zero]
theorem zero_cx : Value.float .f64 0 = flv 0 := by
  unfold flv
  rw [fl_zero]
theorem more_bound (s : W) (l : List UInt8) : (more s l ||| 1#32).toNat < 4294967296 := (more s l ||| 1#32).isLt


set_option maxHeartbeats 2000000 in
theorem bbits_c (v : Value) (key : List UInt8) (m : Int) (h : Heap) (hr : RB h v key) (hl : key.length ≤ 1000000) :
    ACalls Try.prog 13 [v, .int .i64 m] h fun u h' => u = .tuple #[five (if 1 ≤ m ∧ m ≤ 1048576 then bitsI key m.toNat else zeros5), .int .i64 (if 1 ≤ m ∧ m ≤ 1048576 then 0 else 2)] ∧ h' = h := by
  refine ACalls.wf fun wf => ACalls.resetB ?_
  refine ACalls.body Try.func13 rfl rfl ?_
  by_cases hm : 1 ≤ m ∧ m ≤ 1048576
  · obtain ⟨M, rfl⟩ : ∃ M : Nat, m = (M : Int) := ⟨m.toNat, by omega⟩
    rw [if_pos hm, if_pos hm, Int.toNat_natCast]
    repeat (first | refine AWp.seq ?_ | refine AWp.region ?_ | refine AL.set rfl rfl (op_moveI rfl ?_) | refine AL.set rfl rfl (op_moveS rfl ?_) | refine AL.set rfl rfl (op_moveB rfl ?_) | refine AL.set rfl rfl (op_moveP rfl ?_) | refine AL.set rfl rfl (op_moveStr rfl ?_) | refine AL.set rfl rfl (op_moveA rfl ?_) | refine AL.set rfl rfl (op_moveT rfl ?_) | refine AL.set rfl rfl (op_moveF rfl ?_) | refine AL.set rfl rfl (op_assignI rfl ?_) | refine AL.set rfl rfl (op_assignS rfl ?_) | refine AL.set rfl rfl (op_assignB rfl ?_) | refine AL.set rfl rfl (op_assignP rfl ?_) | refine AL.set rfl rfl (op_assignStr rfl ?_) | refine AL.set rfl rfl (op_assignA rfl ?_) | refine AL.set rfl rfl (op_assignF rfl ?_) | refine AL.set rfl rfl (op_alloc5 ?_) | refine AL.set rfl rfl (op_intT rfl rfl rfl (by omega) ?_) | refine AL.set rfl rfl (op_intF rfl rfl rfl (by omega) ?_) | refine AL.set rfl rfl (op_pick (v := .bool false) rfl rfl ?_) | refine AL.set rfl rfl (op_add64 rfl rfl (by omega) ?_) | refine AL.set rfl rfl (op_sub64 rfl rfl (by omega) ?_) | refine AL.set rfl rfl (op_quo64 rfl rfl (by omega) ?_) | refine AL.set rfl rfl (op_rem64 rfl rfl (by omega) ?_) | refine AL.set rfl rfl (op_mul64 rfl rfl (by omega) ?_) | refine AL.set rfl rfl (op_int rfl rfl rfl ?_) | refine AL.set rfl rfl (op_conv64 rfl (by omega) ?_) | refine AL.set rfl rfl (op_convI rfl ?_) | refine AL.set rfl rfl (op_not rfl ?_) | refine AL.set rfl rfl (op_lenS rfl ?_) | refine AL.set rfl rfl (op_lenStr rfl ?_) | refine AWp.condT rfl ?_ | refine AWp.condF rfl ?_ | refine AL.skip rfl rfl ?_ | refine AL.nil ?_ | refine AWp.ret ?_ | refine AWp.exit ?_ | refine AWp.block ?_ | refine AWp.skip ?_ | refine AWp.label ?_ | refine AWp.scope ?_)
    have wf1 := wf.alloc (rowB zeros5)
    have hx1 := wf.ext (rowB zeros5)
    have hx2 : Ext h ((h.alloc (rowB zeros5)).alloc (rowB zeros5)) := hx1.trans (wf1.ext (rowB zeros5))
    have wf2 := wf1.alloc (rowB zeros5)
    have g1 : ((h.alloc (rowB zeros5)).alloc (rowB zeros5)).get h.next = some (rowB zeros5) := Heap.new1 _ _ _
    have g2 : ((h.alloc (rowB zeros5)).alloc (rowB zeros5)).get (h.next + 1) = some (rowB zeros5) := Heap.alloc_new (h.alloc (rowB zeros5)) _
    clear hx1 wf1
    generalize (h.alloc (rowB zeros5)).alloc (rowB zeros5) = G at hx2 wf2 g1 g2 ⊢
    have hrG := hr.ext hx2
    repeat (first | refine AWp.seq ?_ | refine AWp.region ?_ | refine AL.set rfl rfl (op_moveI rfl ?_) | refine AL.set rfl rfl (op_moveS rfl ?_) | refine AL.set rfl rfl (op_moveB rfl ?_) | refine AL.set rfl rfl (op_moveP rfl ?_) | refine AL.set rfl rfl (op_moveStr rfl ?_) | refine AL.set rfl rfl (op_moveA rfl ?_) | refine AL.set rfl rfl (op_moveT rfl ?_) | refine AL.set rfl rfl (op_moveF rfl ?_) | refine AL.set rfl rfl (op_assignI rfl ?_) | refine AL.set rfl rfl (op_assignS rfl ?_) | refine AL.set rfl rfl (op_assignB rfl ?_) | refine AL.set rfl rfl (op_assignP rfl ?_) | refine AL.set rfl rfl (op_assignStr rfl ?_) | refine AL.set rfl rfl (op_assignA rfl ?_) | refine AL.set rfl rfl (op_assignF rfl ?_) | refine AL.set rfl rfl (op_move (v := v) rfl ?_) | refine AL.set rfl rfl (op_row [v] rfl rfl rfl rfl (by intro u hu; rw [List.mem_singleton.1 hu]; exact hr.one.1) ?_) | refine AL.set rfl rfl (op_call rfl rfl ((sum_c _ [key] _ (RBB.row (Heap.alloc_new _ _) rfl (rbs_one (hrG.ext (wf2.ext _)))) (by simp) (by simp; omega)).mono ?_)) | refine AL.set rfl rfl (op_add64 rfl rfl (by omega) ?_) | refine AL.set rfl rfl (op_sub64 rfl rfl (by omega) ?_) | refine AL.set rfl rfl (op_quo64 rfl rfl (by omega) ?_) | refine AL.set rfl rfl (op_rem64 rfl rfl (by omega) ?_) | refine AL.set rfl rfl (op_mul64 rfl rfl (by omega) ?_) | refine AL.set rfl rfl (op_int rfl rfl rfl ?_) | refine AL.set rfl rfl (op_conv64 rfl (by omega) ?_) | refine AL.set rfl rfl (op_convI rfl ?_) | refine AL.set rfl rfl (op_not rfl ?_) | refine AL.set rfl rfl (op_lenS rfl ?_) | refine AL.set rfl rfl (op_lenStr rfl ?_) | refine AWp.condT rfl ?_ | refine AWp.condF rfl ?_ | refine AL.skip rfl rfl ?_ | refine AL.nil ?_ | refine AWp.ret ?_ | refine AWp.exit ?_ | refine AWp.block ?_ | refine AWp.skip ?_ | refine AWp.label ?_ | refine AWp.scope ?_)
    rintro _ H' ⟨rfl, hH'⟩; cases hH'.symm
    rw [show [key].flatten = key from by simp]
    have hx3 : Ext h (G.alloc ⟨[v], 25, true⟩) := hx2.trans (wf2.ext _)
    have wf3 := wf2.alloc ⟨[v], 25, true⟩
    have g3 := wf2.ext ⟨[v], 25, true⟩ _ _ g1
    have g4 := wf2.ext ⟨[v], 25, true⟩ _ _ g2
    generalize G.alloc ⟨[v], 25, true⟩ = G2 at hx3 wf3 g3 g4 ⊢
    clear g1 g2 hx2 wf2 hrG
    have hra : (sum key).toNat < 4294967296 := (sum key).isLt
    have hrb := more_bound (sum key) [1]
    repeat (first | refine AWp.seq ?_ | refine AWp.region ?_ | refine AL.set rfl rfl (op_moveI rfl ?_) | refine AL.set rfl rfl (op_moveS rfl ?_) | refine AL.set rfl rfl (op_moveB rfl ?_) | refine AL.set rfl rfl (op_moveP rfl ?_) | refine AL.set rfl rfl (op_moveStr rfl ?_) | refine AL.set rfl rfl (op_moveA rfl ?_) | refine AL.set rfl rfl (op_moveT rfl ?_) | refine AL.set rfl rfl (op_moveF rfl ?_) | refine AL.set rfl rfl (op_assignI rfl ?_) | refine AL.set rfl rfl (op_assignS rfl ?_) | refine AL.set rfl rfl (op_assignB rfl ?_) | refine AL.set rfl rfl (op_assignP rfl ?_) | refine AL.set rfl rfl (op_assignStr rfl ?_) | refine AL.set rfl rfl (op_assignA rfl ?_) | refine AL.set rfl rfl (op_assignF rfl ?_) | refine AL.set rfl rfl (op_fOf (sum key).toNat rfl rfl ?_) | refine AL.set rfl rfl (op_row [.int .u8 1] rfl rfl rfl rfl (by intro u hu; rw [List.mem_singleton.1 hu]; rfl) ?_) | refine AL.set rfl rfl (op_call rfl rfl ((more_c (sum key) _ [1] _ (RS.own (Heap.alloc_new _ _) rfl) (by simp)).mono ?_)) | refine AL.set rfl rfl (op_add64 rfl rfl (by omega) ?_) | refine AL.set rfl rfl (op_sub64 rfl rfl (by omega) ?_) | refine AL.set rfl rfl (op_quo64 rfl rfl (by omega) ?_) | refine AL.set rfl rfl (op_rem64 rfl rfl (by omega) ?_) | refine AL.set rfl rfl (op_mul64 rfl rfl (by omega) ?_) | refine AL.set rfl rfl (op_int rfl rfl rfl ?_) | refine AL.set rfl rfl (op_conv64 rfl (by omega) ?_) | refine AL.set rfl rfl (op_convI rfl ?_) | refine AL.set rfl rfl (op_not rfl ?_) | refine AL.set rfl rfl (op_lenS rfl ?_) | refine AL.set rfl rfl (op_lenStr rfl ?_) | refine AWp.condT rfl ?_ | refine AWp.condF rfl ?_ | refine AL.skip rfl rfl ?_ | refine AL.nil ?_ | refine AWp.ret ?_ | refine AWp.exit ?_ | refine AWp.block ?_ | refine AWp.skip ?_ | refine AWp.label ?_ | refine AWp.scope ?_)
    rintro _ H' ⟨rfl, hH'⟩; cases hH'.symm
    have hx5 : Ext h (G2.alloc ⟨bv [1], 5, true⟩) := hx3.trans (wf3.ext _)
    have wf5 := wf3.alloc ⟨bv [1], 5, true⟩
    have g5 := wf3.ext ⟨bv [1], 5, true⟩ _ _ g3
    have g6 := wf3.ext ⟨bv [1], 5, true⟩ _ _ g4
    generalize G2.alloc ⟨bv [1], 5, true⟩ = G3 at hx5 wf5 g5 g6 ⊢
    clear g3 g4 hx3 wf3
    have hbit : ∀ k, bit5 key M k = ((sum key).toNat + k * (more (sum key) [1] ||| 1#32).toNat) % 4294967296 % M := fun _ => rfl
    repeat (first | refine AWp.seq ?_ | refine AWp.region ?_ | refine AL.set rfl rfl (op_moveI rfl ?_) | refine AL.set rfl rfl (op_moveS rfl ?_) | refine AL.set rfl rfl (op_moveB rfl ?_) | refine AL.set rfl rfl (op_moveP rfl ?_) | refine AL.set rfl rfl (op_moveStr rfl ?_) | refine AL.set rfl rfl (op_moveA rfl ?_) | refine AL.set rfl rfl (op_moveT rfl ?_) | refine AL.set rfl rfl (op_moveF rfl ?_) | refine AL.set rfl rfl (op_assignI rfl ?_) | refine AL.set rfl rfl (op_assignS rfl ?_) | refine AL.set rfl rfl (op_assignB rfl ?_) | refine AL.set rfl rfl (op_assignP rfl ?_) | refine AL.set rfl rfl (op_assignStr rfl ?_) | refine AL.set rfl rfl (op_assignA rfl ?_) | refine AL.set rfl rfl (op_assignF rfl ?_) | refine AL.set rfl rfl (op_o32c 1#32 rfl rfl rfl ?_) | refine AL.set rfl rfl (op_fOf (more (sum key) [1] ||| 1#32).toNat rfl rfl ?_) | refine AL.set rfl rfl (op_cx rfl rfl ?_) | refine AL.set rfl rfl (op_assign (v := cxv (sum key).toNat (more (sum key) [1] ||| 1#32).toNat) rfl ?_) | refine AL.set rfl rfl (op_add64 rfl rfl (by omega) ?_) | refine AL.set rfl rfl (op_sub64 rfl rfl (by omega) ?_) | refine AL.set rfl rfl (op_quo64 rfl rfl (by omega) ?_) | refine AL.set rfl rfl (op_rem64 rfl rfl (by omega) ?_) | refine AL.set rfl rfl (op_mul64 rfl rfl (by omega) ?_) | refine AL.set rfl rfl (op_int rfl rfl rfl ?_) | refine AL.set rfl rfl (op_conv64 rfl (by omega) ?_) | refine AL.set rfl rfl (op_convI rfl ?_) | refine AL.set rfl rfl (op_not rfl ?_) | refine AL.set rfl rfl (op_lenS rfl ?_) | refine AL.set rfl rfl (op_lenStr rfl ?_) | refine AWp.condT rfl ?_ | refine AWp.condF rfl ?_ | refine AL.skip rfl rfl ?_ | refine AL.nil ?_ | refine AWp.ret ?_ | refine AWp.exit ?_ | refine AWp.block ?_ | refine AWp.skip ?_ | refine AWp.label ?_ | refine AWp.scope ?_)
    generalize hA : (sum key).toNat = a at hra hbit ⊢
    generalize hB : (more (sum key) [1] ||| 1#32).toNat = b at hrb hbit ⊢
    repeat (first | refine AWp.seq ?_ | refine AWp.region ?_ | refine AL.set rfl rfl (op_moveI rfl ?_) | refine AL.set rfl rfl (op_moveS rfl ?_) | refine AL.set rfl rfl (op_moveB rfl ?_) | refine AL.set rfl rfl (op_moveP rfl ?_) | refine AL.set rfl rfl (op_moveStr rfl ?_) | refine AL.set rfl rfl (op_moveA rfl ?_) | refine AL.set rfl rfl (op_moveT rfl ?_) | refine AL.set rfl rfl (op_moveF rfl ?_) | refine AL.set rfl rfl (op_assignI rfl ?_) | refine AL.set rfl rfl (op_assignS rfl ?_) | refine AL.set rfl rfl (op_assignB rfl ?_) | refine AL.set rfl rfl (op_assignP rfl ?_) | refine AL.set rfl rfl (op_assignStr rfl ?_) | refine AL.set rfl rfl (op_assignA rfl ?_) | refine AL.set rfl rfl (op_assignF rfl ?_) | refine AL.set rfl rfl (op_add64 rfl rfl (by omega) ?_) | refine AL.set rfl rfl (op_sub64 rfl rfl (by omega) ?_) | refine AL.set rfl rfl (op_quo64 rfl rfl (by omega) ?_) | refine AL.set rfl rfl (op_rem64 rfl rfl (by omega) ?_) | refine AL.set rfl rfl (op_mul64 rfl rfl (by omega) ?_) | refine AL.set rfl rfl (op_int rfl rfl rfl ?_) | refine AL.set rfl rfl (op_conv64 rfl (by omega) ?_) | refine AL.set rfl rfl (op_convI rfl ?_) | refine AL.set rfl rfl (op_not rfl ?_) | refine AL.set rfl rfl (op_lenS rfl ?_) | refine AL.set rfl rfl (op_lenStr rfl ?_) | refine AWp.condT rfl ?_ | refine AWp.condF rfl ?_ | refine AL.skip rfl rfl ?_ | refine AL.nil ?_ | refine AWp.ret ?_ | refine AWp.exit ?_ | refine AWp.block ?_ | refine AWp.skip ?_ | refine AWp.label ?_ | refine AWp.scope ?_)
    refine AWp.loop (α := Nat × Heap) (fun s => [(1, .int .i64 (M : Nat)), (4, .pointer (some ⟨h.next, 0, none⟩)), (6, .pointer (some ⟨h.next + 1, 0, none⟩)), (8, cxv (a + s.1 * b) b), (28, .int .i64 (s.1 : Nat))]) (fun s => s.2)
      (fun s => s.1 ≤ 5 ∧ Ext h s.2 ∧ WF s.2 ∧ s.2.get h.next = some (rowB zeros5) ∧ s.2.get (h.next + 1) = some (rowB (fill5 (bitsI key M) s.1))) (fun s => 5 - s.1) (0, G3) ⟨by show 0 ≤ 5; omega, hx5, wf5, g5, g6⟩ ?_ ?_
    · refine Weak.same (EW.cons rfl (EW.cons rfl (EW.cons rfl (EW.cons ?_ (EW.cons rfl EW.nil)))))
      exact cx_zero a b
    rintro ⟨k, H⟩ ⟨i1, i2, i3, i4, i5⟩
    replace i1 : k ≤ 5 := i1
    replace i2 : Ext h H := i2
    replace i3 : WF H := i3
    replace i4 : H.get h.next = some (rowB zeros5) := i4
    replace i5 : H.get (h.next + 1) = some (rowB (fill5 (bitsI key M) k)) := i5
    show AWp _ _ _ _ [(1, .int .i64 (M : Nat)), (4, .pointer (some ⟨h.next, 0, none⟩)), (6, .pointer (some ⟨h.next + 1, 0, none⟩)), (8, cxv (a + k * b) b), (28, .int .i64 (k : Nat))] H
    repeat (first | refine AWp.seq ?_ | refine AWp.region ?_ | refine AL.set rfl rfl (op_moveI rfl ?_) | refine AL.set rfl rfl (op_moveS rfl ?_) | refine AL.set rfl rfl (op_moveB rfl ?_) | refine AL.set rfl rfl (op_moveP rfl ?_) | refine AL.set rfl rfl (op_moveStr rfl ?_) | refine AL.set rfl rfl (op_moveA rfl ?_) | refine AL.set rfl rfl (op_moveT rfl ?_) | refine AL.set rfl rfl (op_moveF rfl ?_) | refine AL.set rfl rfl (op_assignI rfl ?_) | refine AL.set rfl rfl (op_assignS rfl ?_) | refine AL.set rfl rfl (op_assignB rfl ?_) | refine AL.set rfl rfl (op_assignP rfl ?_) | refine AL.set rfl rfl (op_assignStr rfl ?_) | refine AL.set rfl rfl (op_assignA rfl ?_) | refine AL.set rfl rfl (op_assignF rfl ?_) | refine AL.set rfl rfl (op_add64 rfl rfl (by omega) ?_) | refine AL.set rfl rfl (op_sub64 rfl rfl (by omega) ?_) | refine AL.set rfl rfl (op_quo64 rfl rfl (by omega) ?_) | refine AL.set rfl rfl (op_rem64 rfl rfl (by omega) ?_) | refine AL.set rfl rfl (op_mul64 rfl rfl (by omega) ?_) | refine AL.set rfl rfl (op_int rfl rfl rfl ?_) | refine AL.set rfl rfl (op_conv64 rfl (by omega) ?_) | refine AL.set rfl rfl (op_convI rfl ?_) | refine AL.set rfl rfl (op_not rfl ?_) | refine AL.set rfl rfl (op_lenS rfl ?_) | refine AL.set rfl rfl (op_lenStr rfl ?_) | refine AWp.condT rfl ?_ | refine AWp.condF rfl ?_ | refine AL.skip rfl rfl ?_ | refine AL.nil ?_ | refine AWp.ret ?_ | refine AWp.exit ?_ | refine AWp.block ?_ | refine AWp.skip ?_ | refine AWp.label ?_ | refine AWp.scope ?_)
    refine AWp.condP rfl ?_ ?_
    · intro hlt
      have hk : k < 5 := by omega
      have hkb : k * b ≤ 4 * b := Nat.mul_le_mul_right b (by omega)
      have hb5 := bitsI_get key M k hk
      rw [hbit] at hb5
      have hml : (a + k * b) % 4294967296 % M < M := Nat.mod_lt _ (by omega)
      have hf5 : (fill5 (bitsI key M) k).length = 5 := by rw [fill5_length]; rfl
      repeat (first | refine AWp.seq ?_ | refine AWp.region ?_ | refine AL.set rfl rfl (op_moveI rfl ?_) | refine AL.set rfl rfl (op_moveS rfl ?_) | refine AL.set rfl rfl (op_moveB rfl ?_) | refine AL.set rfl rfl (op_moveP rfl ?_) | refine AL.set rfl rfl (op_moveStr rfl ?_) | refine AL.set rfl rfl (op_moveA rfl ?_) | refine AL.set rfl rfl (op_moveT rfl ?_) | refine AL.set rfl rfl (op_moveF rfl ?_) | refine AL.set rfl rfl (op_assignI rfl ?_) | refine AL.set rfl rfl (op_assignS rfl ?_) | refine AL.set rfl rfl (op_assignB rfl ?_) | refine AL.set rfl rfl (op_assignP rfl ?_) | refine AL.set rfl rfl (op_assignStr rfl ?_) | refine AL.set rfl rfl (op_assignA rfl ?_) | refine AL.set rfl rfl (op_assignF rfl ?_) | refine AL.set rfl rfl (op_move (v := cxv (a + k * b) b) rfl ?_) | refine AL.set rfl rfl (op_re rfl ?_) | refine AL.set rfl rfl (op_fTo rfl (by omega) ?_) | refine AL.set rfl rfl (op_convM (a := M) rfl (by omega) ?_) | refine AL.set rfl rfl (op_convN (a := a + k * b) rfl ?_) | refine AL.set rfl rfl (op_remN rfl rfl (by omega) ?_) | refine AL.set rfl rfl (op_indexA rfl rfl (by omega) (by omega) ?_) | refine AL.set rfl rfl (op_add64 rfl rfl (by omega) ?_) | refine AL.set rfl rfl (op_sub64 rfl rfl (by omega) ?_) | refine AL.set rfl rfl (op_quo64 rfl rfl (by omega) ?_) | refine AL.set rfl rfl (op_rem64 rfl rfl (by omega) ?_) | refine AL.set rfl rfl (op_mul64 rfl rfl (by omega) ?_) | refine AL.set rfl rfl (op_int rfl rfl rfl ?_) | refine AL.set rfl rfl (op_conv64 rfl (by omega) ?_) | refine AL.set rfl rfl (op_convI rfl ?_) | refine AL.set rfl rfl (op_not rfl ?_) | refine AL.set rfl rfl (op_lenS rfl ?_) | refine AL.set rfl rfl (op_lenStr rfl ?_) | refine AWp.condT rfl ?_ | refine AWp.condF rfl ?_ | refine AL.skip rfl rfl ?_ | refine AL.nil ?_ | refine AWp.ret ?_ | refine AWp.exit ?_ | refine AWp.block ?_ | refine AWp.skip ?_ | refine AWp.label ?_ | refine AWp.scope ?_)
      refine AL.eff rfl (op_store (v := .int .i64 (((a + k * b) % 4294967296 % M : Nat) : Int)) rfl rfl rfl i5 rfl (by show _ < (iv .i64 (fill5 (bitsI key M) k)).length; rw [iv_length, hf5]; omega) ?_)
      have hst : H.set (h.next + 1) ⟨(iv .i64 (fill5 (bitsI key M) k)).set (0 + (k : Int).toNat * 1) (.int .i64 (((a + k * b) % 4294967296 % M : Nat) : Int)), 26, true⟩ = H.set (h.next + 1) (rowB (fill5 (bitsI key M) (k + 1))) := by
        rw [show 0 + (k : Int).toNat * 1 = k from by omega, iv_set, fill5_set _ _ _ hb5]
      refine AL.heap hst ?_
      have j2 : Ext h (H.set (h.next + 1) (rowB (fill5 (bitsI key M) (k + 1)))) := wf.ext_set i2 (by omega) _
      have j3 : WF (H.set (h.next + 1) (rowB (fill5 (bitsI key M) (k + 1)))) := i3.set (i3.lt i5) _
      have j4 : (H.set (h.next + 1) (rowB (fill5 (bitsI key M) (k + 1)))).get h.next = some (rowB zeros5) := by rw [Heap.set_other (by omega)]; exact i4
      have j5 : (H.set (h.next + 1) (rowB (fill5 (bitsI key M) (k + 1)))).get (h.next + 1) = some (rowB (fill5 (bitsI key M) (k + 1))) := Heap.set_at _ _ _
      generalize H.set (h.next + 1) (rowB (fill5 (bitsI key M) (k + 1))) = H2 at j2 j3 j4 j5 ⊢
      repeat (first | refine AWp.seq ?_ | refine AWp.region ?_ | refine AL.set rfl rfl (op_moveI rfl ?_) | refine AL.set rfl rfl (op_moveS rfl ?_) | refine AL.set rfl rfl (op_moveB rfl ?_) | refine AL.set rfl rfl (op_moveP rfl ?_) | refine AL.set rfl rfl (op_moveStr rfl ?_) | refine AL.set rfl rfl (op_moveA rfl ?_) | refine AL.set rfl rfl (op_moveT rfl ?_) | refine AL.set rfl rfl (op_moveF rfl ?_) | refine AL.set rfl rfl (op_assignI rfl ?_) | refine AL.set rfl rfl (op_assignS rfl ?_) | refine AL.set rfl rfl (op_assignB rfl ?_) | refine AL.set rfl rfl (op_assignP rfl ?_) | refine AL.set rfl rfl (op_assignStr rfl ?_) | refine AL.set rfl rfl (op_assignA rfl ?_) | refine AL.set rfl rfl (op_assignF rfl ?_) | refine AL.set rfl rfl (op_move (v := cxv (a + k * b) b) rfl ?_) | refine AL.set rfl rfl (op_im rfl ?_) | refine AL.set rfl rfl (op_cx (b := 0) rfl zero_cx ?_) | refine AL.set rfl rfl (op_cAdd rfl rfl (by omega) (by omega) ?_) | refine AL.set rfl rfl (op_assign (v := cxv (a + k * b + b) (b + 0)) rfl ?_) | refine AL.set rfl rfl (op_add64 rfl rfl (by omega) ?_) | refine AL.set rfl rfl (op_sub64 rfl rfl (by omega) ?_) | refine AL.set rfl rfl (op_quo64 rfl rfl (by omega) ?_) | refine AL.set rfl rfl (op_rem64 rfl rfl (by omega) ?_) | refine AL.set rfl rfl (op_mul64 rfl rfl (by omega) ?_) | refine AL.set rfl rfl (op_int rfl rfl rfl ?_) | refine AL.set rfl rfl (op_conv64 rfl (by omega) ?_) | refine AL.set rfl rfl (op_convI rfl ?_) | refine AL.set rfl rfl (op_not rfl ?_) | refine AL.set rfl rfl (op_lenS rfl ?_) | refine AL.set rfl rfl (op_lenStr rfl ?_) | refine AWp.condT rfl ?_ | refine AWp.condF rfl ?_ | refine AL.skip rfl rfl ?_ | refine AL.nil ?_ | refine AWp.ret ?_ | refine AWp.exit ?_ | refine AWp.block ?_ | refine AWp.skip ?_ | refine AWp.label ?_ | refine AWp.scope ?_)
      refine ⟨(k + 1, H2), ⟨by show k + 1 ≤ 5; omega, j2, j3, j4, j5⟩, by show 5 - (k + 1) < 5 - k; omega, Weak.same (EW.cons rfl (EW.cons rfl (EW.cons rfl (EW.cons ?_ (EW.cons rfl EW.nil)))))⟩
      exact cx_next a b k
    · intro hge
      obtain rfl : k = 5 := by omega
      have e5 : fill5 (bitsI key M) 5 = bitsI key M := fill5_all (bitsI key M)
      rw [e5] at i5
      repeat (first | refine AWp.seq ?_ | refine AWp.region ?_ | refine AL.set rfl rfl (op_moveI rfl ?_) | refine AL.set rfl rfl (op_moveS rfl ?_) | refine AL.set rfl rfl (op_moveB rfl ?_) | refine AL.set rfl rfl (op_moveP rfl ?_) | refine AL.set rfl rfl (op_moveStr rfl ?_) | refine AL.set rfl rfl (op_moveA rfl ?_) | refine AL.set rfl rfl (op_moveT rfl ?_) | refine AL.set rfl rfl (op_moveF rfl ?_) | refine AL.set rfl rfl (op_assignI rfl ?_) | refine AL.set rfl rfl (op_assignS rfl ?_) | refine AL.set rfl rfl (op_assignB rfl ?_) | refine AL.set rfl rfl (op_assignP rfl ?_) | refine AL.set rfl rfl (op_assignStr rfl ?_) | refine AL.set rfl rfl (op_assignA rfl ?_) | refine AL.set rfl rfl (op_assignF rfl ?_) | refine AL.set rfl rfl (op_load5 (bitsI key M) rfl rfl i5 ?_) | refine AL.eff rfl (op_store5 zeros5 (bitsI key M) rfl rfl rfl rfl i4 ?_) | refine AL.set rfl rfl (op_add64 rfl rfl (by omega) ?_) | refine AL.set rfl rfl (op_sub64 rfl rfl (by omega) ?_) | refine AL.set rfl rfl (op_quo64 rfl rfl (by omega) ?_) | refine AL.set rfl rfl (op_rem64 rfl rfl (by omega) ?_) | refine AL.set rfl rfl (op_mul64 rfl rfl (by omega) ?_) | refine AL.set rfl rfl (op_int rfl rfl rfl ?_) | refine AL.set rfl rfl (op_conv64 rfl (by omega) ?_) | refine AL.set rfl rfl (op_convI rfl ?_) | refine AL.set rfl rfl (op_not rfl ?_) | refine AL.set rfl rfl (op_lenS rfl ?_) | refine AL.set rfl rfl (op_lenStr rfl ?_) | refine AWp.condT rfl ?_ | refine AWp.condF rfl ?_ | refine AL.skip rfl rfl ?_ | refine AL.nil ?_ | refine AWp.ret ?_ | refine AWp.exit ?_ | refine AWp.block ?_ | refine AWp.skip ?_ | refine AWp.label ?_ | refine AWp.scope ?_)
      have j4 : (H.set h.next (rowB (bitsI key M))).get h.next = some (rowB (bitsI key M)) := Heap.set_at _ _ _
      have j2 : Ext h (H.set h.next (rowB (bitsI key M))) := wf.ext_set i2 (Nat.le_refl _) _
      refine ⟨_, ResV.cell2 rfl rfl rfl j4 (Nat.le_refl 5), ?_, j2, ?_⟩
      · exact Bdd.pair (Bdd.plain (plain_iv .i64 (bitsI key M))) (Bdd.plain rfl) (plain_iv .i64 (bitsI key M)) rfl
      · exact ⟨rfl, rfl⟩
  · rw [if_neg hm, if_neg hm]
    by_cases h1 : m < 1
    · repeat (first | refine AWp.seq ?_ | refine AWp.region ?_ | refine AL.set rfl rfl (op_moveI rfl ?_) | refine AL.set rfl rfl (op_moveS rfl ?_) | refine AL.set rfl rfl (op_moveB rfl ?_) | refine AL.set rfl rfl (op_moveP rfl ?_) | refine AL.set rfl rfl (op_moveStr rfl ?_) | refine AL.set rfl rfl (op_moveA rfl ?_) | refine AL.set rfl rfl (op_moveT rfl ?_) | refine AL.set rfl rfl (op_moveF rfl ?_) | refine AL.set rfl rfl (op_assignI rfl ?_) | refine AL.set rfl rfl (op_assignS rfl ?_) | refine AL.set rfl rfl (op_assignB rfl ?_) | refine AL.set rfl rfl (op_assignP rfl ?_) | refine AL.set rfl rfl (op_assignStr rfl ?_) | refine AL.set rfl rfl (op_assignA rfl ?_) | refine AL.set rfl rfl (op_assignF rfl ?_) | refine AL.set rfl rfl (op_alloc5 ?_) | refine AL.set rfl rfl (op_intT rfl rfl rfl (by omega) ?_) | refine AL.set rfl rfl (op_intF rfl rfl rfl (by omega) ?_) | refine AL.set rfl rfl (op_pick (v := .bool true) rfl rfl ?_) | refine AL.set rfl rfl (op_add64 rfl rfl (by omega) ?_) | refine AL.set rfl rfl (op_sub64 rfl rfl (by omega) ?_) | refine AL.set rfl rfl (op_quo64 rfl rfl (by omega) ?_) | refine AL.set rfl rfl (op_rem64 rfl rfl (by omega) ?_) | refine AL.set rfl rfl (op_mul64 rfl rfl (by omega) ?_) | refine AL.set rfl rfl (op_int rfl rfl rfl ?_) | refine AL.set rfl rfl (op_conv64 rfl (by omega) ?_) | refine AL.set rfl rfl (op_convI rfl ?_) | refine AL.set rfl rfl (op_not rfl ?_) | refine AL.set rfl rfl (op_lenS rfl ?_) | refine AL.set rfl rfl (op_lenStr rfl ?_) | refine AWp.condT rfl ?_ | refine AWp.condF rfl ?_ | refine AL.skip rfl rfl ?_ | refine AL.nil ?_ | refine AWp.ret ?_ | refine AWp.exit ?_ | refine AWp.block ?_ | refine AWp.skip ?_ | refine AWp.label ?_ | refine AWp.scope ?_)
      have wf1 := wf.alloc (rowB zeros5)
      have hx1 := wf.ext (rowB zeros5)
      have hx2 : Ext h ((h.alloc (rowB zeros5)).alloc (rowB zeros5)) := hx1.trans (wf1.ext (rowB zeros5))
      have wf2 := wf1.alloc (rowB zeros5)
      have g1 : ((h.alloc (rowB zeros5)).alloc (rowB zeros5)).get h.next = some (rowB zeros5) := Heap.new1 _ _ _
      have g2 : ((h.alloc (rowB zeros5)).alloc (rowB zeros5)).get (h.next + 1) = some (rowB zeros5) := Heap.alloc_new (h.alloc (rowB zeros5)) _
      clear hx1 wf1
      generalize (h.alloc (rowB zeros5)).alloc (rowB zeros5) = G at hx2 wf2 g1 g2 ⊢
      repeat (first | refine AWp.seq ?_ | refine AWp.region ?_ | refine AL.set rfl rfl (op_moveI rfl ?_) | refine AL.set rfl rfl (op_moveS rfl ?_) | refine AL.set rfl rfl (op_moveB rfl ?_) | refine AL.set rfl rfl (op_moveP rfl ?_) | refine AL.set rfl rfl (op_moveStr rfl ?_) | refine AL.set rfl rfl (op_moveA rfl ?_) | refine AL.set rfl rfl (op_moveT rfl ?_) | refine AL.set rfl rfl (op_moveF rfl ?_) | refine AL.set rfl rfl (op_assignI rfl ?_) | refine AL.set rfl rfl (op_assignS rfl ?_) | refine AL.set rfl rfl (op_assignB rfl ?_) | refine AL.set rfl rfl (op_assignP rfl ?_) | refine AL.set rfl rfl (op_assignStr rfl ?_) | refine AL.set rfl rfl (op_assignA rfl ?_) | refine AL.set rfl rfl (op_assignF rfl ?_) | refine AL.set rfl rfl (op_load5 zeros5 rfl rfl g2 ?_) | refine AL.eff rfl (op_store5 zeros5 zeros5 rfl rfl rfl rfl g1 ?_) | refine AL.set rfl rfl (op_add64 rfl rfl (by omega) ?_) | refine AL.set rfl rfl (op_sub64 rfl rfl (by omega) ?_) | refine AL.set rfl rfl (op_quo64 rfl rfl (by omega) ?_) | refine AL.set rfl rfl (op_rem64 rfl rfl (by omega) ?_) | refine AL.set rfl rfl (op_mul64 rfl rfl (by omega) ?_) | refine AL.set rfl rfl (op_int rfl rfl rfl ?_) | refine AL.set rfl rfl (op_conv64 rfl (by omega) ?_) | refine AL.set rfl rfl (op_convI rfl ?_) | refine AL.set rfl rfl (op_not rfl ?_) | refine AL.set rfl rfl (op_lenS rfl ?_) | refine AL.set rfl rfl (op_lenStr rfl ?_) | refine AWp.condT rfl ?_ | refine AWp.condF rfl ?_ | refine AL.skip rfl rfl ?_ | refine AL.nil ?_ | refine AWp.ret ?_ | refine AWp.exit ?_ | refine AWp.block ?_ | refine AWp.skip ?_ | refine AWp.label ?_ | refine AWp.scope ?_)
      have j4 : (G.set h.next (rowB zeros5)).get h.next = some (rowB zeros5) := Heap.set_at _ _ _
      have j2 : Ext h (G.set h.next (rowB zeros5)) := wf.ext_set hx2 (Nat.le_refl _) _
      refine ⟨_, ResV.cell2 rfl rfl rfl j4 (Nat.le_refl 5), ?_, j2, ?_⟩
      · exact Bdd.pair (Bdd.plain (plain_iv .i64 zeros5)) (Bdd.plain rfl) (plain_iv .i64 zeros5) rfl
      · exact ⟨rfl, rfl⟩
    · repeat (first | refine AWp.seq ?_ | refine AWp.region ?_ | refine AL.set rfl rfl (op_moveI rfl ?_) | refine AL.set rfl rfl (op_moveS rfl ?_) | refine AL.set rfl rfl (op_moveB rfl ?_) | refine AL.set rfl rfl (op_moveP rfl ?_) | refine AL.set rfl rfl (op_moveStr rfl ?_) | refine AL.set rfl rfl (op_moveA rfl ?_) | refine AL.set rfl rfl (op_moveT rfl ?_) | refine AL.set rfl rfl (op_moveF rfl ?_) | refine AL.set rfl rfl (op_assignI rfl ?_) | refine AL.set rfl rfl (op_assignS rfl ?_) | refine AL.set rfl rfl (op_assignB rfl ?_) | refine AL.set rfl rfl (op_assignP rfl ?_) | refine AL.set rfl rfl (op_assignStr rfl ?_) | refine AL.set rfl rfl (op_assignA rfl ?_) | refine AL.set rfl rfl (op_assignF rfl ?_) | refine AL.set rfl rfl (op_alloc5 ?_) | refine AL.set rfl rfl (op_intT rfl rfl rfl (by omega) ?_) | refine AL.set rfl rfl (op_intF rfl rfl rfl (by omega) ?_) | refine AL.set rfl rfl (op_pick (v := .bool true) rfl rfl ?_) | refine AL.set rfl rfl (op_pick (v := .bool false) rfl rfl ?_) | refine AL.set rfl rfl (op_add64 rfl rfl (by omega) ?_) | refine AL.set rfl rfl (op_sub64 rfl rfl (by omega) ?_) | refine AL.set rfl rfl (op_quo64 rfl rfl (by omega) ?_) | refine AL.set rfl rfl (op_rem64 rfl rfl (by omega) ?_) | refine AL.set rfl rfl (op_mul64 rfl rfl (by omega) ?_) | refine AL.set rfl rfl (op_int rfl rfl rfl ?_) | refine AL.set rfl rfl (op_conv64 rfl (by omega) ?_) | refine AL.set rfl rfl (op_convI rfl ?_) | refine AL.set rfl rfl (op_not rfl ?_) | refine AL.set rfl rfl (op_lenS rfl ?_) | refine AL.set rfl rfl (op_lenStr rfl ?_) | refine AWp.condT rfl ?_ | refine AWp.condF rfl ?_ | refine AL.skip rfl rfl ?_ | refine AL.nil ?_ | refine AWp.ret ?_ | refine AWp.exit ?_ | refine AWp.block ?_ | refine AWp.skip ?_ | refine AWp.label ?_ | refine AWp.scope ?_)
      have wf1 := wf.alloc (rowB zeros5)
      have hx1 := wf.ext (rowB zeros5)
      have hx2 : Ext h ((h.alloc (rowB zeros5)).alloc (rowB zeros5)) := hx1.trans (wf1.ext (rowB zeros5))
      have wf2 := wf1.alloc (rowB zeros5)
      have g1 : ((h.alloc (rowB zeros5)).alloc (rowB zeros5)).get h.next = some (rowB zeros5) := Heap.new1 _ _ _
      have g2 : ((h.alloc (rowB zeros5)).alloc (rowB zeros5)).get (h.next + 1) = some (rowB zeros5) := Heap.alloc_new (h.alloc (rowB zeros5)) _
      clear hx1 wf1
      generalize (h.alloc (rowB zeros5)).alloc (rowB zeros5) = G at hx2 wf2 g1 g2 ⊢
      repeat (first | refine AWp.seq ?_ | refine AWp.region ?_ | refine AL.set rfl rfl (op_moveI rfl ?_) | refine AL.set rfl rfl (op_moveS rfl ?_) | refine AL.set rfl rfl (op_moveB rfl ?_) | refine AL.set rfl rfl (op_moveP rfl ?_) | refine AL.set rfl rfl (op_moveStr rfl ?_) | refine AL.set rfl rfl (op_moveA rfl ?_) | refine AL.set rfl rfl (op_moveT rfl ?_) | refine AL.set rfl rfl (op_moveF rfl ?_) | refine AL.set rfl rfl (op_assignI rfl ?_) | refine AL.set rfl rfl (op_assignS rfl ?_) | refine AL.set rfl rfl (op_assignB rfl ?_) | refine AL.set rfl rfl (op_assignP rfl ?_) | refine AL.set rfl rfl (op_assignStr rfl ?_) | refine AL.set rfl rfl (op_assignA rfl ?_) | refine AL.set rfl rfl (op_assignF rfl ?_) | refine AL.set rfl rfl (op_load5 zeros5 rfl rfl g2 ?_) | refine AL.eff rfl (op_store5 zeros5 zeros5 rfl rfl rfl rfl g1 ?_) | refine AL.set rfl rfl (op_add64 rfl rfl (by omega) ?_) | refine AL.set rfl rfl (op_sub64 rfl rfl (by omega) ?_) | refine AL.set rfl rfl (op_quo64 rfl rfl (by omega) ?_) | refine AL.set rfl rfl (op_rem64 rfl rfl (by omega) ?_) | refine AL.set rfl rfl (op_mul64 rfl rfl (by omega) ?_) | refine AL.set rfl rfl (op_int rfl rfl rfl ?_) | refine AL.set rfl rfl (op_conv64 rfl (by omega) ?_) | refine AL.set rfl rfl (op_convI rfl ?_) | refine AL.set rfl rfl (op_not rfl ?_) | refine AL.set rfl rfl (op_lenS rfl ?_) | refine AL.set rfl rfl (op_lenStr rfl ?_) | refine AWp.condT rfl ?_ | refine AWp.condF rfl ?_ | refine AL.skip rfl rfl ?_ | refine AL.nil ?_ | refine AWp.ret ?_ | refine AWp.exit ?_ | refine AWp.block ?_ | refine AWp.skip ?_ | refine AWp.label ?_ | refine AWp.scope ?_)
      have j4 : (G.set h.next (rowB zeros5)).get h.next = some (rowB zeros5) := Heap.set_at _ _ _
      have j2 : Ext h (G.set h.next (rowB zeros5)) := wf.ext_set hx2 (Nat.le_refl _) _
      refine ⟨_, ResV.cell2 rfl rfl rfl j4 (Nat.le_refl 5), ?_, j2, ?_⟩
      · exact Bdd.pair (Bdd.plain (plain_iv .i64 zeros5)) (Bdd.plain rfl) (plain_iv .i64 zeros5) rfl
      · exact ⟨rfl, rfl⟩
end Go.Proofs.Ytdfehmmhlplhlaa
