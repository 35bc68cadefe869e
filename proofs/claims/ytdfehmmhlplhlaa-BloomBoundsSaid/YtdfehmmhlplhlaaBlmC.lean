/-
  The reference's bits; copies; a key's bits set; whether a key may be there.
-/
import Derived.Test.YtdfehmmhlplhlaaBlmB
import Derived.Test.YtdfehmmhlplhlaaEngN
namespace Go.Proofs.Ytdfehmmhlplhlaa
open Go Go.Eng Go.Crc Go.Blm

instance : FnC Try.prog 33 := ⟨Try.f33, Try.func33, by kernel_rfl, by kernel_rfl⟩





theorem bv_all (l : List UInt8) : (bv l).all oneB = true := List.all_eq_true.2 (bv_ones l)
theorem bv_app (a b : List UInt8) : bv (a ++ b) = bv a ++ bv b := by simp [bv]

theorem op_addM {P : Program} {ρ : Operand → Value} {h : Heap} {K : Value → Heap → Prop} {dst : Option Tmp} {ty : TypeId} {pos : String} {aft : Array Edge} {g : Option (Nat × Bool)} {t t' : TypeId} {x y : Operand} {a c : Nat} (hx : ρ x = .int .u32 (a : Int)) (hy : ρ y = .int .u32 ((c % 4294967296 : Nat) : Int))
    (kk : K (.int .u32 (((a + c) % 4294967296 : Nat) : Int)) h) : AOp P ⟨dst, .binOp .add t x y t', ty, pos, aft, g⟩ ρ h K :=
  op_addN hx hy (by rw [show (a + c % 4294967296) % 4294967296 = (a + c) % 4294967296 from by omega]; exact kk)
set_option maxHeartbeats 2000000 in
theorem rbits_c (v : Value) (key : List UInt8) (M : Nat) (h : Heap) (hr : RB h v key) (hl : key.length ≤ 1000000) (hm : 1 ≤ M ∧ M ≤ 1048576) :
    ACalls Try.prog 15 [v, .int .i64 (M : Nat)] h fun u h' => u = five (bitsI key M) ∧ h' = h := by
  refine ACalls.wf fun wf => ACalls.resetB ?_
  refine ACalls.body Try.func15 rfl rfl ?_
  have hx1 := wf.ext (rowB zeros5)
  have hr1 := hr.ext hx1
  repeat (first | refine AWp.seq ?_ | refine AWp.region ?_ | refine AL.set rfl rfl (op_moveI rfl ?_) | refine AL.set rfl rfl (op_moveS rfl ?_) | refine AL.set rfl rfl (op_moveB rfl ?_) | refine AL.set rfl rfl (op_moveP rfl ?_) | refine AL.set rfl rfl (op_moveStr rfl ?_) | refine AL.set rfl rfl (op_moveA rfl ?_) | refine AL.set rfl rfl (op_moveT rfl ?_) | refine AL.set rfl rfl (op_moveF rfl ?_) | refine AL.set rfl rfl (op_assignI rfl ?_) | refine AL.set rfl rfl (op_assignS rfl ?_) | refine AL.set rfl rfl (op_assignB rfl ?_) | refine AL.set rfl rfl (op_assignP rfl ?_) | refine AL.set rfl rfl (op_assignStr rfl ?_) | refine AL.set rfl rfl (op_assignA rfl ?_) | refine AL.set rfl rfl (op_assignF rfl ?_) | refine AL.set rfl rfl (op_alloc5 ?_) | refine AL.set rfl rfl (op_move (v := v) rfl ?_) | refine AL.set rfl rfl (op_call rfl rfl ((rsum_c v key _ hr1 (by omega)).mono ?_)) | refine AL.set rfl rfl (op_add64 rfl rfl (by omega) ?_) | refine AL.set rfl rfl (op_sub64 rfl rfl (by omega) ?_) | refine AL.set rfl rfl (op_quo64 rfl rfl (by omega) ?_) | refine AL.set rfl rfl (op_rem64 rfl rfl (by omega) ?_) | refine AL.set rfl rfl (op_mul64 rfl rfl (by omega) ?_) | refine AL.set rfl rfl (op_int rfl rfl rfl ?_) | refine AL.set rfl rfl (op_conv64 rfl (by omega) ?_) | refine AL.set rfl rfl (op_convI rfl ?_) | refine AL.set rfl rfl (op_not rfl ?_) | refine AL.set rfl rfl (op_lenS rfl ?_) | refine AL.set rfl rfl (op_lenStr rfl ?_) | refine AWp.condT rfl ?_ | refine AWp.condF rfl ?_ | refine AL.skip rfl rfl ?_ | refine AL.nil ?_ | refine AWp.ret ?_ | refine AWp.exit ?_ | refine AWp.block ?_ | refine AWp.skip ?_ | refine AWp.label ?_ | refine AWp.scope ?_)
  rintro _ H' ⟨rfl, hH'⟩; cases hH'.symm
  have wf1 := wf.alloc (rowB zeros5)
  have g1 : (h.alloc (rowB zeros5)).get h.next = some (rowB zeros5) := Heap.alloc_new _ _
  have hn1 : h.next < (h.alloc (rowB zeros5)).next := by show h.next < h.next + 1; omega
  generalize h.alloc (rowB zeros5) = G at hx1 hr1 wf1 g1 hn1 ⊢
  repeat (first | refine AWp.seq ?_ | refine AWp.region ?_ | refine AL.set rfl rfl (op_moveI rfl ?_) | refine AL.set rfl rfl (op_moveS rfl ?_) | refine AL.set rfl rfl (op_moveB rfl ?_) | refine AL.set rfl rfl (op_moveP rfl ?_) | refine AL.set rfl rfl (op_moveStr rfl ?_) | refine AL.set rfl rfl (op_moveA rfl ?_) | refine AL.set rfl rfl (op_moveT rfl ?_) | refine AL.set rfl rfl (op_moveF rfl ?_) | refine AL.set rfl rfl (op_assignI rfl ?_) | refine AL.set rfl rfl (op_assignS rfl ?_) | refine AL.set rfl rfl (op_assignB rfl ?_) | refine AL.set rfl rfl (op_assignP rfl ?_) | refine AL.set rfl rfl (op_assignStr rfl ?_) | refine AL.set rfl rfl (op_assignA rfl ?_) | refine AL.set rfl rfl (op_assignF rfl ?_) | refine AL.set rfl rfl (op_move (v := v) rfl ?_) | refine AL.set rfl rfl (op_add64 rfl rfl (by omega) ?_) | refine AL.set rfl rfl (op_sub64 rfl rfl (by omega) ?_) | refine AL.set rfl rfl (op_quo64 rfl rfl (by omega) ?_) | refine AL.set rfl rfl (op_rem64 rfl rfl (by omega) ?_) | refine AL.set rfl rfl (op_mul64 rfl rfl (by omega) ?_) | refine AL.set rfl rfl (op_int rfl rfl rfl ?_) | refine AL.set rfl rfl (op_conv64 rfl (by omega) ?_) | refine AL.set rfl rfl (op_convI rfl ?_) | refine AL.set rfl rfl (op_not rfl ?_) | refine AL.set rfl rfl (op_lenS rfl ?_) | refine AL.set rfl rfl (op_lenStr rfl ?_) | refine AWp.condT rfl ?_ | refine AWp.condF rfl ?_ | refine AL.skip rfl rfl ?_ | refine AL.nil ?_ | refine AWp.ret ?_ | refine AWp.exit ?_ | refine AWp.block ?_ | refine AWp.skip ?_ | refine AWp.label ?_ | refine AWp.scope ?_)
  refine AL.set rfl rfl (op_appendO (e := 5) (B := G.next) rfl wf1 (Nat.le_refl _) (OS.nil _ _ _) rfl rfl hr1.src (bv_length _) (bv_all _) (by simp only [List.length_nil, maxLen]; omega) (by simp only [List.length_nil]; omega) ?_)
  intro u1 G1 ho1 hk1 wf2 hn2
  have hx2 : Ext G G1 := hk1.ext (OS.nil G.next G 5) wf1 (Nat.le_refl _) (Ext.refl _)
  simp only [List.nil_append] at ho1
  repeat (first | refine AWp.seq ?_ | refine AWp.region ?_ | refine AL.set rfl rfl (op_moveI rfl ?_) | refine AL.set rfl rfl (op_moveS rfl ?_) | refine AL.set rfl rfl (op_moveB rfl ?_) | refine AL.set rfl rfl (op_moveP rfl ?_) | refine AL.set rfl rfl (op_moveStr rfl ?_) | refine AL.set rfl rfl (op_moveA rfl ?_) | refine AL.set rfl rfl (op_moveT rfl ?_) | refine AL.set rfl rfl (op_moveF rfl ?_) | refine AL.set rfl rfl (op_assignI rfl ?_) | refine AL.set rfl rfl (op_assignS rfl ?_) | refine AL.set rfl rfl (op_assignB rfl ?_) | refine AL.set rfl rfl (op_assignP rfl ?_) | refine AL.set rfl rfl (op_assignStr rfl ?_) | refine AL.set rfl rfl (op_assignA rfl ?_) | refine AL.set rfl rfl (op_assignF rfl ?_) | refine AL.set rfl rfl (op_row [.int .u8 1] rfl rfl rfl rfl (by intro u hu; rw [List.mem_singleton.1 hu]; rfl) ?_) | refine AL.set rfl rfl (op_add64 rfl rfl (by omega) ?_) | refine AL.set rfl rfl (op_sub64 rfl rfl (by omega) ?_) | refine AL.set rfl rfl (op_quo64 rfl rfl (by omega) ?_) | refine AL.set rfl rfl (op_rem64 rfl rfl (by omega) ?_) | refine AL.set rfl rfl (op_mul64 rfl rfl (by omega) ?_) | refine AL.set rfl rfl (op_int rfl rfl rfl ?_) | refine AL.set rfl rfl (op_conv64 rfl (by omega) ?_) | refine AL.set rfl rfl (op_convI rfl ?_) | refine AL.set rfl rfl (op_not rfl ?_) | refine AL.set rfl rfl (op_lenS rfl ?_) | refine AL.set rfl rfl (op_lenStr rfl ?_) | refine AWp.condT rfl ?_ | refine AWp.condF rfl ?_ | refine AL.skip rfl rfl ?_ | refine AL.nil ?_ | refine AWp.ret ?_ | refine AWp.exit ?_ | refine AWp.block ?_ | refine AWp.skip ?_ | refine AWp.label ?_ | refine AWp.scope ?_)
  have hrow : RB (G1.alloc ⟨[.int .u8 1], 5, true⟩) (.slice (some ⟨G1.next, 0, some 1⟩) 1 1) [1] := RS.own (Heap.alloc_new _ _) rfl
  have hx3 : Ext G (G1.alloc ⟨[.int .u8 1], 5, true⟩) := hx2.trans (wf2.ext _)
  have ho2 := ho1.alloc wf2 ⟨[.int .u8 1], 5, true⟩
  have wf3 := wf2.alloc ⟨[.int .u8 1], 5, true⟩
  have hn3 : G.next ≤ (G1.alloc ⟨[.int .u8 1], 5, true⟩).next := by show G.next ≤ G1.next + 1; omega
  generalize G1.alloc ⟨[.int .u8 1], 5, true⟩ = G2 at hrow hx3 ho2 wf3 hn3 ⊢
  refine AL.set rfl rfl (op_appendO (e := 5) (B := G.next) rfl wf3 hn3 ho2 rfl rfl hrow.src (bv_length _) (bv_all _) (by simp only [bv_length, maxLen, List.length_cons, List.length_nil]; omega) (by simp only [bv_length, List.length_cons, List.length_nil]; omega) ?_)
  intro u2 G3 ho3 hk3 wf4 hn4
  have hx4 : Ext G G3 := hk3.ext ho2 wf1 (Nat.le_refl _) hx3
  rw [← bv_app] at ho3
  have hcat : RB G3 u2 (key ++ [1]) := ho3.rs
  refine AL.set rfl rfl (op_call rfl rfl ((rsum_c u2 _ _ hcat (by simp; omega)).mono ?_))
  rintro _ H' ⟨rfl, hH'⟩; cases hH'.symm
  rw [← more_sum]
  have hxh : Ext h G3 := hx1.trans hx4
  have g3 := hx4 _ _ g1
  repeat (first | refine AWp.seq ?_ | refine AWp.region ?_ | refine AL.set rfl rfl (op_moveI rfl ?_) | refine AL.set rfl rfl (op_moveS rfl ?_) | refine AL.set rfl rfl (op_moveB rfl ?_) | refine AL.set rfl rfl (op_moveP rfl ?_) | refine AL.set rfl rfl (op_moveStr rfl ?_) | refine AL.set rfl rfl (op_moveA rfl ?_) | refine AL.set rfl rfl (op_moveT rfl ?_) | refine AL.set rfl rfl (op_moveF rfl ?_) | refine AL.set rfl rfl (op_assignI rfl ?_) | refine AL.set rfl rfl (op_assignS rfl ?_) | refine AL.set rfl rfl (op_assignB rfl ?_) | refine AL.set rfl rfl (op_assignP rfl ?_) | refine AL.set rfl rfl (op_assignStr rfl ?_) | refine AL.set rfl rfl (op_assignA rfl ?_) | refine AL.set rfl rfl (op_assignF rfl ?_) | refine AL.set rfl rfl (op_o32c 1#32 rfl rfl rfl ?_) | refine AL.set rfl rfl (op_alloc5 ?_) | refine AL.set rfl rfl (op_add64 rfl rfl (by omega) ?_) | refine AL.set rfl rfl (op_sub64 rfl rfl (by omega) ?_) | refine AL.set rfl rfl (op_quo64 rfl rfl (by omega) ?_) | refine AL.set rfl rfl (op_rem64 rfl rfl (by omega) ?_) | refine AL.set rfl rfl (op_mul64 rfl rfl (by omega) ?_) | refine AL.set rfl rfl (op_int rfl rfl rfl ?_) | refine AL.set rfl rfl (op_conv64 rfl (by omega) ?_) | refine AL.set rfl rfl (op_convI rfl ?_) | refine AL.set rfl rfl (op_not rfl ?_) | refine AL.set rfl rfl (op_lenS rfl ?_) | refine AL.set rfl rfl (op_lenStr rfl ?_) | refine AWp.condT rfl ?_ | refine AWp.condF rfl ?_ | refine AL.skip rfl rfl ?_ | refine AL.nil ?_ | refine AWp.ret ?_ | refine AWp.exit ?_ | refine AWp.block ?_ | refine AWp.skip ?_ | refine AWp.label ?_ | refine AWp.scope ?_)
  have hx5 : Ext h (G3.alloc (rowB zeros5)) := hxh.trans (wf4.ext _)
  have wf5 := wf4.alloc (rowB zeros5)
  have g5 := wf4.ext (rowB zeros5) _ _ g3
  have g6 : (G3.alloc (rowB zeros5)).get G3.next = some (rowB zeros5) := Heap.alloc_new _ _
  have hne : h.next < G3.next := by omega
  have hnn := G3.next
  generalize G3.alloc (rowB zeros5) = G4 at hx5 wf5 g5 g6 ⊢
  obtain ⟨j, hj⟩ : ∃ j, j = G3.next := ⟨_, rfl⟩
  rw [← hj] at g6 hne ⊢
  have hra : (sum key).toNat < 4294967296 := (sum key).isLt
  have hrb := more_bound (sum key) [1]
  have hbit : ∀ k, bit5 key M k = ((sum key).toNat + k * (more (sum key) [1] ||| 1#32).toNat) % 4294967296 % M := fun _ => rfl
  generalize more (sum key) [1] ||| 1#32 = b at hrb hbit ⊢
  refine AWp.loop (α := Nat × Heap) (fun s => [(1, .int .i64 (M : Nat)), (4, .pointer (some ⟨h.next, 0, none⟩)), (5, u32 (sum key)), (6, u32 b), (7, .pointer (some ⟨j, 0, none⟩)), (8, .int .i64 (s.1 : Nat))]) (fun s => s.2)
    (fun s => s.1 ≤ 5 ∧ Ext h s.2 ∧ WF s.2 ∧ s.2.get h.next = some (rowB zeros5) ∧ s.2.get j = some (rowB (fill5 (bitsI key M) s.1))) (fun s => 5 - s.1) (0, G4) ⟨by show 0 ≤ 5; omega, hx5, wf5, g5, g6⟩
    (Weak.same (EW.cons rfl (EW.cons rfl (EW.cons rfl (EW.cons rfl (EW.cons rfl (EW.cons rfl EW.nil))))))) ?_
  rintro ⟨k, H⟩ ⟨i1, i2, i3, i4, i5⟩
  replace i1 : k ≤ 5 := i1
  replace i2 : Ext h H := i2
  replace i3 : WF H := i3
  replace i4 : H.get h.next = some (rowB zeros5) := i4
  replace i5 : H.get j = some (rowB (fill5 (bitsI key M) k)) := i5
  show AWp _ _ _ _ [(1, .int .i64 (M : Nat)), (4, .pointer (some ⟨h.next, 0, none⟩)), (5, u32 (sum key)), (6, u32 b), (7, .pointer (some ⟨j, 0, none⟩)), (8, .int .i64 (k : Nat))] H
  repeat (first | refine AWp.seq ?_ | refine AWp.region ?_ | refine AL.set rfl rfl (op_moveI rfl ?_) | refine AL.set rfl rfl (op_moveS rfl ?_) | refine AL.set rfl rfl (op_moveB rfl ?_) | refine AL.set rfl rfl (op_moveP rfl ?_) | refine AL.set rfl rfl (op_moveStr rfl ?_) | refine AL.set rfl rfl (op_moveA rfl ?_) | refine AL.set rfl rfl (op_moveT rfl ?_) | refine AL.set rfl rfl (op_moveF rfl ?_) | refine AL.set rfl rfl (op_assignI rfl ?_) | refine AL.set rfl rfl (op_assignS rfl ?_) | refine AL.set rfl rfl (op_assignB rfl ?_) | refine AL.set rfl rfl (op_assignP rfl ?_) | refine AL.set rfl rfl (op_assignStr rfl ?_) | refine AL.set rfl rfl (op_assignA rfl ?_) | refine AL.set rfl rfl (op_assignF rfl ?_) | refine AL.set rfl rfl (op_add64 rfl rfl (by omega) ?_) | refine AL.set rfl rfl (op_sub64 rfl rfl (by omega) ?_) | refine AL.set rfl rfl (op_quo64 rfl rfl (by omega) ?_) | refine AL.set rfl rfl (op_rem64 rfl rfl (by omega) ?_) | refine AL.set rfl rfl (op_mul64 rfl rfl (by omega) ?_) | refine AL.set rfl rfl (op_int rfl rfl rfl ?_) | refine AL.set rfl rfl (op_conv64 rfl (by omega) ?_) | refine AL.set rfl rfl (op_convI rfl ?_) | refine AL.set rfl rfl (op_not rfl ?_) | refine AL.set rfl rfl (op_lenS rfl ?_) | refine AL.set rfl rfl (op_lenStr rfl ?_) | refine AWp.condT rfl ?_ | refine AWp.condF rfl ?_ | refine AL.skip rfl rfl ?_ | refine AL.nil ?_ | refine AWp.ret ?_ | refine AWp.exit ?_ | refine AWp.block ?_ | refine AWp.skip ?_ | refine AWp.label ?_ | refine AWp.scope ?_)
  refine AWp.condP rfl ?_ ?_
  · intro hlt
    have hk : k < 5 := by omega
    have hb5 := bitsI_get key M k hk
    rw [hbit] at hb5
    have hf5 : (fill5 (bitsI key M) k).length = 5 := by rw [fill5_length]; rfl
    have hml : ((sum key).toNat + k * b.toNat) % 4294967296 % M < M := Nat.mod_lt _ (by omega)
    repeat (first | refine AWp.seq ?_ | refine AWp.region ?_ | refine AL.set rfl rfl (op_moveI rfl ?_) | refine AL.set rfl rfl (op_moveS rfl ?_) | refine AL.set rfl rfl (op_moveB rfl ?_) | refine AL.set rfl rfl (op_moveP rfl ?_) | refine AL.set rfl rfl (op_moveStr rfl ?_) | refine AL.set rfl rfl (op_moveA rfl ?_) | refine AL.set rfl rfl (op_moveT rfl ?_) | refine AL.set rfl rfl (op_moveF rfl ?_) | refine AL.set rfl rfl (op_assignI rfl ?_) | refine AL.set rfl rfl (op_assignS rfl ?_) | refine AL.set rfl rfl (op_assignB rfl ?_) | refine AL.set rfl rfl (op_assignP rfl ?_) | refine AL.set rfl rfl (op_assignStr rfl ?_) | refine AL.set rfl rfl (op_assignA rfl ?_) | refine AL.set rfl rfl (op_assignF rfl ?_) | refine AL.set rfl rfl (op_convM (a := k) rfl (by omega) ?_) | refine AL.set rfl rfl (op_mulN (a := k) (b := b.toNat) rfl rfl ?_) | refine AL.set rfl rfl (op_addM (a := (sum key).toNat) (c := k * b.toNat) rfl rfl ?_) | refine AL.set rfl rfl (op_convM (a := M) rfl (by omega) ?_) | refine AL.set rfl rfl (op_remN rfl rfl (by omega) ?_) | refine AL.set rfl rfl (op_indexA rfl rfl (by omega) (by omega) ?_) | refine AL.set rfl rfl (op_add64 rfl rfl (by omega) ?_) | refine AL.set rfl rfl (op_sub64 rfl rfl (by omega) ?_) | refine AL.set rfl rfl (op_quo64 rfl rfl (by omega) ?_) | refine AL.set rfl rfl (op_rem64 rfl rfl (by omega) ?_) | refine AL.set rfl rfl (op_mul64 rfl rfl (by omega) ?_) | refine AL.set rfl rfl (op_int rfl rfl rfl ?_) | refine AL.set rfl rfl (op_conv64 rfl (by omega) ?_) | refine AL.set rfl rfl (op_convI rfl ?_) | refine AL.set rfl rfl (op_not rfl ?_) | refine AL.set rfl rfl (op_lenS rfl ?_) | refine AL.set rfl rfl (op_lenStr rfl ?_) | refine AWp.condT rfl ?_ | refine AWp.condF rfl ?_ | refine AL.skip rfl rfl ?_ | refine AL.nil ?_ | refine AWp.ret ?_ | refine AWp.exit ?_ | refine AWp.block ?_ | refine AWp.skip ?_ | refine AWp.label ?_ | refine AWp.scope ?_)
    refine AL.eff rfl (op_store (v := .int .i64 ((((sum key).toNat + k * b.toNat) % 4294967296 % M : Nat) : Int)) rfl rfl rfl i5 rfl (by show _ < (iv .i64 (fill5 (bitsI key M) k)).length; rw [iv_length, hf5]; omega) ?_)
    have hst : H.set j ⟨(iv .i64 (fill5 (bitsI key M) k)).set (0 + (k : Int).toNat * 1) (.int .i64 ((((sum key).toNat + k * b.toNat) % 4294967296 % M : Nat) : Int)), 26, true⟩ = H.set j (rowB (fill5 (bitsI key M) (k + 1))) := by
      rw [show 0 + (k : Int).toNat * 1 = k from by omega, iv_set, fill5_set _ _ _ hb5]
    refine AL.heap hst ?_
    have j2 : Ext h (H.set j (rowB (fill5 (bitsI key M) (k + 1)))) := wf.ext_set i2 (by omega) _
    have j3 : WF (H.set j (rowB (fill5 (bitsI key M) (k + 1)))) := i3.set (i3.lt i5) _
    have j4 : (H.set j (rowB (fill5 (bitsI key M) (k + 1)))).get h.next = some (rowB zeros5) := by rw [Heap.set_other (by omega)]; exact i4
    have j5 : (H.set j (rowB (fill5 (bitsI key M) (k + 1)))).get j = some (rowB (fill5 (bitsI key M) (k + 1))) := Heap.set_at _ _ _
    generalize H.set j (rowB (fill5 (bitsI key M) (k + 1))) = H2 at j2 j3 j4 j5 ⊢
    repeat (first | refine AWp.seq ?_ | refine AWp.region ?_ | refine AL.set rfl rfl (op_moveI rfl ?_) | refine AL.set rfl rfl (op_moveS rfl ?_) | refine AL.set rfl rfl (op_moveB rfl ?_) | refine AL.set rfl rfl (op_moveP rfl ?_) | refine AL.set rfl rfl (op_moveStr rfl ?_) | refine AL.set rfl rfl (op_moveA rfl ?_) | refine AL.set rfl rfl (op_moveT rfl ?_) | refine AL.set rfl rfl (op_moveF rfl ?_) | refine AL.set rfl rfl (op_assignI rfl ?_) | refine AL.set rfl rfl (op_assignS rfl ?_) | refine AL.set rfl rfl (op_assignB rfl ?_) | refine AL.set rfl rfl (op_assignP rfl ?_) | refine AL.set rfl rfl (op_assignStr rfl ?_) | refine AL.set rfl rfl (op_assignA rfl ?_) | refine AL.set rfl rfl (op_assignF rfl ?_) | refine AL.set rfl rfl (op_add64 rfl rfl (by omega) ?_) | refine AL.set rfl rfl (op_sub64 rfl rfl (by omega) ?_) | refine AL.set rfl rfl (op_quo64 rfl rfl (by omega) ?_) | refine AL.set rfl rfl (op_rem64 rfl rfl (by omega) ?_) | refine AL.set rfl rfl (op_mul64 rfl rfl (by omega) ?_) | refine AL.set rfl rfl (op_int rfl rfl rfl ?_) | refine AL.set rfl rfl (op_conv64 rfl (by omega) ?_) | refine AL.set rfl rfl (op_convI rfl ?_) | refine AL.set rfl rfl (op_not rfl ?_) | refine AL.set rfl rfl (op_lenS rfl ?_) | refine AL.set rfl rfl (op_lenStr rfl ?_) | refine AWp.condT rfl ?_ | refine AWp.condF rfl ?_ | refine AL.skip rfl rfl ?_ | refine AL.nil ?_ | refine AWp.ret ?_ | refine AWp.exit ?_ | refine AWp.block ?_ | refine AWp.skip ?_ | refine AWp.label ?_ | refine AWp.scope ?_)
    exact ⟨(k + 1, H2), ⟨by show k + 1 ≤ 5; omega, j2, j3, j4, j5⟩, by show 5 - (k + 1) < 5 - k; omega, Weak.same (EW.cons rfl (EW.cons rfl (EW.cons rfl (EW.cons rfl (EW.cons rfl (EW.cons rfl EW.nil))))))⟩
  · intro hge
    obtain rfl : k = 5 := by omega
    have e5 : fill5 (bitsI key M) 5 = bitsI key M := fill5_all (bitsI key M)
    rw [e5] at i5
    repeat (first | refine AWp.seq ?_ | refine AWp.region ?_ | refine AL.set rfl rfl (op_moveI rfl ?_) | refine AL.set rfl rfl (op_moveS rfl ?_) | refine AL.set rfl rfl (op_moveB rfl ?_) | refine AL.set rfl rfl (op_moveP rfl ?_) | refine AL.set rfl rfl (op_moveStr rfl ?_) | refine AL.set rfl rfl (op_moveA rfl ?_) | refine AL.set rfl rfl (op_moveT rfl ?_) | refine AL.set rfl rfl (op_moveF rfl ?_) | refine AL.set rfl rfl (op_assignI rfl ?_) | refine AL.set rfl rfl (op_assignS rfl ?_) | refine AL.set rfl rfl (op_assignB rfl ?_) | refine AL.set rfl rfl (op_assignP rfl ?_) | refine AL.set rfl rfl (op_assignStr rfl ?_) | refine AL.set rfl rfl (op_assignA rfl ?_) | refine AL.set rfl rfl (op_assignF rfl ?_) | refine AL.set rfl rfl (op_load5 (bitsI key M) rfl rfl i5 ?_) | refine AL.eff rfl (op_store5 zeros5 (bitsI key M) rfl rfl rfl rfl i4 ?_) | refine AL.set rfl rfl (op_add64 rfl rfl (by omega) ?_) | refine AL.set rfl rfl (op_sub64 rfl rfl (by omega) ?_) | refine AL.set rfl rfl (op_quo64 rfl rfl (by omega) ?_) | refine AL.set rfl rfl (op_rem64 rfl rfl (by omega) ?_) | refine AL.set rfl rfl (op_mul64 rfl rfl (by omega) ?_) | refine AL.set rfl rfl (op_int rfl rfl rfl ?_) | refine AL.set rfl rfl (op_conv64 rfl (by omega) ?_) | refine AL.set rfl rfl (op_convI rfl ?_) | refine AL.set rfl rfl (op_not rfl ?_) | refine AL.set rfl rfl (op_lenS rfl ?_) | refine AL.set rfl rfl (op_lenStr rfl ?_) | refine AWp.condT rfl ?_ | refine AWp.condF rfl ?_ | refine AL.skip rfl rfl ?_ | refine AL.nil ?_ | refine AWp.ret ?_ | refine AWp.exit ?_ | refine AWp.block ?_ | refine AWp.skip ?_ | refine AWp.label ?_ | refine AWp.scope ?_)
    have j4 : (H.set h.next (rowB (bitsI key M))).get h.next = some (rowB (bitsI key M)) := Heap.set_at _ _ _
    have j2 : Ext h (H.set h.next (rowB (bitsI key M))) := wf.ext_set i2 (Nat.le_refl _) _
    refine ⟨_, ResV.cellA rfl rfl rfl j4 (Nat.le_refl 5), ?_, j2, ?_⟩
    · exact Bdd.plain (plain_iv .i64 (bitsI key M))
    · exact ⟨rfl, rfl⟩

set_option maxHeartbeats 400000 in
theorem clone_c (v : Value) (l : List UInt8) (h : Heap) (hr : RB h v l) (hl : l.length ≤ 1000000) :
    ACalls Try.prog 33 [v] h fun u h' => OS h.next h' 5 u (bv l) ∧ Ext h h' := by
  refine ACalls.wf fun wf => ?_
  refine ACalls.body Try.func33 rfl rfl ?_
  obtain ⟨a, c, hv⟩ := hr.slice
  cases a with
  | none =>
    rcases hr with ⟨rfl, hn⟩ | ⟨i, o, s, c', hv2, _⟩
    · repeat (first | refine AWp.seq ?_ | refine AWp.region ?_ | refine AL.set rfl rfl (op_moveI rfl ?_) | refine AL.set rfl rfl (op_moveS rfl ?_) | refine AL.set rfl rfl (op_moveB rfl ?_) | refine AL.set rfl rfl (op_moveP rfl ?_) | refine AL.set rfl rfl (op_moveStr rfl ?_) | refine AL.set rfl rfl (op_moveA rfl ?_) | refine AL.set rfl rfl (op_moveT rfl ?_) | refine AL.set rfl rfl (op_moveF rfl ?_) | refine AL.set rfl rfl (op_assignI rfl ?_) | refine AL.set rfl rfl (op_assignS rfl ?_) | refine AL.set rfl rfl (op_assignB rfl ?_) | refine AL.set rfl rfl (op_assignP rfl ?_) | refine AL.set rfl rfl (op_assignStr rfl ?_) | refine AL.set rfl rfl (op_assignA rfl ?_) | refine AL.set rfl rfl (op_assignF rfl ?_) | refine AL.set rfl rfl (op_eqNil rfl rfl ?_) | refine AL.set rfl rfl (op_add64 rfl rfl (by omega) ?_) | refine AL.set rfl rfl (op_sub64 rfl rfl (by omega) ?_) | refine AL.set rfl rfl (op_quo64 rfl rfl (by omega) ?_) | refine AL.set rfl rfl (op_rem64 rfl rfl (by omega) ?_) | refine AL.set rfl rfl (op_mul64 rfl rfl (by omega) ?_) | refine AL.set rfl rfl (op_int rfl rfl rfl ?_) | refine AL.set rfl rfl (op_conv64 rfl (by omega) ?_) | refine AL.set rfl rfl (op_convI rfl ?_) | refine AL.set rfl rfl (op_not rfl ?_) | refine AL.set rfl rfl (op_lenS rfl ?_) | refine AL.set rfl rfl (op_lenStr rfl ?_) | refine AWp.condT rfl ?_ | refine AWp.condF rfl ?_ | refine AL.skip rfl rfl ?_ | refine AL.nil ?_ | refine AWp.ret ?_ | refine AWp.exit ?_ | refine AWp.block ?_ | refine AWp.skip ?_ | refine AWp.label ?_ | refine AWp.scope ?_)
      exact ⟨_, ResV.tmp rfl, by rw [hn]; exact OS.nil _ _ _, Ext.refl _⟩
    · rw [hv] at hv2; cases hv2
  | some a =>
    subst hv
    repeat (first | refine AWp.seq ?_ | refine AWp.region ?_ | refine AL.set rfl rfl (op_moveI rfl ?_) | refine AL.set rfl rfl (op_moveS rfl ?_) | refine AL.set rfl rfl (op_moveB rfl ?_) | refine AL.set rfl rfl (op_moveP rfl ?_) | refine AL.set rfl rfl (op_moveStr rfl ?_) | refine AL.set rfl rfl (op_moveA rfl ?_) | refine AL.set rfl rfl (op_moveT rfl ?_) | refine AL.set rfl rfl (op_moveF rfl ?_) | refine AL.set rfl rfl (op_assignI rfl ?_) | refine AL.set rfl rfl (op_assignS rfl ?_) | refine AL.set rfl rfl (op_assignB rfl ?_) | refine AL.set rfl rfl (op_assignP rfl ?_) | refine AL.set rfl rfl (op_assignStr rfl ?_) | refine AL.set rfl rfl (op_assignA rfl ?_) | refine AL.set rfl rfl (op_assignF rfl ?_) | refine AL.set rfl rfl (op_eqNil rfl rfl ?_) | refine AL.set rfl rfl (op_row [] rfl rfl rfl rfl (by intro u hu; cases hu) ?_) | refine AL.set rfl rfl (op_add64 rfl rfl (by omega) ?_) | refine AL.set rfl rfl (op_sub64 rfl rfl (by omega) ?_) | refine AL.set rfl rfl (op_quo64 rfl rfl (by omega) ?_) | refine AL.set rfl rfl (op_rem64 rfl rfl (by omega) ?_) | refine AL.set rfl rfl (op_mul64 rfl rfl (by omega) ?_) | refine AL.set rfl rfl (op_int rfl rfl rfl ?_) | refine AL.set rfl rfl (op_conv64 rfl (by omega) ?_) | refine AL.set rfl rfl (op_convI rfl ?_) | refine AL.set rfl rfl (op_not rfl ?_) | refine AL.set rfl rfl (op_lenS rfl ?_) | refine AL.set rfl rfl (op_lenStr rfl ?_) | refine AWp.condT rfl ?_ | refine AWp.condF rfl ?_ | refine AL.skip rfl rfl ?_ | refine AL.nil ?_ | refine AWp.ret ?_ | refine AWp.exit ?_ | refine AWp.block ?_ | refine AWp.skip ?_ | refine AWp.label ?_ | refine AWp.scope ?_)
    have hrG := hr.ext (wf.ext ⟨[], 5, true⟩)
    have hoG : OS h.next (h.alloc ⟨[], 5, true⟩) 5 (.slice (some ⟨h.next, 0, some 1⟩) 0 0) [] := OS.new (Nat.le_refl _) rfl
    have wfG := wf.alloc ⟨[], 5, true⟩
    have hxG := wf.ext ⟨[], 5, true⟩
    have hnG : h.next ≤ (h.alloc ⟨[], 5, true⟩).next := by show h.next ≤ h.next + 1; omega
    generalize h.alloc ⟨[], 5, true⟩ = G at hrG hoG wfG hxG hnG ⊢
    repeat (first | refine AWp.seq ?_ | refine AWp.region ?_ | refine AL.set rfl rfl (op_moveI rfl ?_) | refine AL.set rfl rfl (op_moveS rfl ?_) | refine AL.set rfl rfl (op_moveB rfl ?_) | refine AL.set rfl rfl (op_moveP rfl ?_) | refine AL.set rfl rfl (op_moveStr rfl ?_) | refine AL.set rfl rfl (op_moveA rfl ?_) | refine AL.set rfl rfl (op_moveT rfl ?_) | refine AL.set rfl rfl (op_moveF rfl ?_) | refine AL.set rfl rfl (op_assignI rfl ?_) | refine AL.set rfl rfl (op_assignS rfl ?_) | refine AL.set rfl rfl (op_assignB rfl ?_) | refine AL.set rfl rfl (op_assignP rfl ?_) | refine AL.set rfl rfl (op_assignStr rfl ?_) | refine AL.set rfl rfl (op_assignA rfl ?_) | refine AL.set rfl rfl (op_assignF rfl ?_) | refine AL.set rfl rfl (op_add64 rfl rfl (by omega) ?_) | refine AL.set rfl rfl (op_sub64 rfl rfl (by omega) ?_) | refine AL.set rfl rfl (op_quo64 rfl rfl (by omega) ?_) | refine AL.set rfl rfl (op_rem64 rfl rfl (by omega) ?_) | refine AL.set rfl rfl (op_mul64 rfl rfl (by omega) ?_) | refine AL.set rfl rfl (op_int rfl rfl rfl ?_) | refine AL.set rfl rfl (op_conv64 rfl (by omega) ?_) | refine AL.set rfl rfl (op_convI rfl ?_) | refine AL.set rfl rfl (op_not rfl ?_) | refine AL.set rfl rfl (op_lenS rfl ?_) | refine AL.set rfl rfl (op_lenStr rfl ?_) | refine AWp.condT rfl ?_ | refine AWp.condF rfl ?_ | refine AL.skip rfl rfl ?_ | refine AL.nil ?_ | refine AWp.ret ?_ | refine AWp.exit ?_ | refine AWp.block ?_ | refine AWp.skip ?_ | refine AWp.label ?_ | refine AWp.scope ?_)
    refine AL.set rfl rfl (op_appendO (e := 5) (B := h.next) rfl wfG hnG hoG rfl rfl hrG.src (bv_length _) (bv_all _) (by simp only [List.length_nil, maxLen]; omega) (by simp only [List.length_nil]; omega) ?_)
    intro u2 G2 ho hk wf2 hn2
    simp only [List.nil_append] at ho
    repeat (first | refine AWp.seq ?_ | refine AWp.region ?_ | refine AL.set rfl rfl (op_moveI rfl ?_) | refine AL.set rfl rfl (op_moveS rfl ?_) | refine AL.set rfl rfl (op_moveB rfl ?_) | refine AL.set rfl rfl (op_moveP rfl ?_) | refine AL.set rfl rfl (op_moveStr rfl ?_) | refine AL.set rfl rfl (op_moveA rfl ?_) | refine AL.set rfl rfl (op_moveT rfl ?_) | refine AL.set rfl rfl (op_moveF rfl ?_) | refine AL.set rfl rfl (op_assignI rfl ?_) | refine AL.set rfl rfl (op_assignS rfl ?_) | refine AL.set rfl rfl (op_assignB rfl ?_) | refine AL.set rfl rfl (op_assignP rfl ?_) | refine AL.set rfl rfl (op_assignStr rfl ?_) | refine AL.set rfl rfl (op_assignA rfl ?_) | refine AL.set rfl rfl (op_assignF rfl ?_) | refine AL.set rfl rfl (op_assign (v := u2) rfl ?_) | refine AL.set rfl rfl (op_add64 rfl rfl (by omega) ?_) | refine AL.set rfl rfl (op_sub64 rfl rfl (by omega) ?_) | refine AL.set rfl rfl (op_quo64 rfl rfl (by omega) ?_) | refine AL.set rfl rfl (op_rem64 rfl rfl (by omega) ?_) | refine AL.set rfl rfl (op_mul64 rfl rfl (by omega) ?_) | refine AL.set rfl rfl (op_int rfl rfl rfl ?_) | refine AL.set rfl rfl (op_conv64 rfl (by omega) ?_) | refine AL.set rfl rfl (op_convI rfl ?_) | refine AL.set rfl rfl (op_not rfl ?_) | refine AL.set rfl rfl (op_lenS rfl ?_) | refine AL.set rfl rfl (op_lenStr rfl ?_) | refine AWp.condT rfl ?_ | refine AWp.condF rfl ?_ | refine AL.skip rfl rfl ?_ | refine AL.nil ?_ | refine AWp.ret ?_ | refine AWp.exit ?_ | refine AWp.block ?_ | refine AWp.skip ?_ | refine AWp.label ?_ | refine AWp.scope ?_)
    exact ⟨_, ResV.tmp rfl, ho, hk.ext hoG wf (Nat.le_refl _) hxG⟩
end Go.Proofs.Ytdfehmmhlplhlaa
