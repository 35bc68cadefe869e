/-
  Operations, as frames use them.
-/
import Derived.Test.YtjbnfcoiknoblaaFrmMath
import Derived.Test.YtjbnfcoiknoblaaCrcOps
import Derived.Test.YtjbnfcoiknoblaaEngU
namespace Go.Frm
open Go Go.Eng Go.Crc

section
variable {P : Program} {ρ : Operand → Value} {h : Heap} {K : Value → Heap → Prop} {dst : Option Tmp} {ty : TypeId} {pos : String} {aft : Array Edge} {g : Option (Nat × Bool)} {t t' : TypeId} {x y : Operand}
/-- An array's literal, of elements of one cell. -/
theorem op_buildArr {t e n sz by_ eb : Nat} {z ez : Value} {parts : Array (Nat × Operand)} {out : List Value} [td : TyD P t (.array n e)] [ti : TyI P t sz by_ z] [te : TyI P e 1 eb ez] (hu : ∀ p ∈ parts.toList, ρ p.2 ≠ undef)
    (hf : fillA (fun i => some (i * 1, 1)) z.cells.toList (parts.toList.map fun p => (p.1, ρ p.2)) = some out) (kk : K (.agg out.toArray) h) : AOp P ⟨dst, .build t parts, ty, pos, aft, g⟩ ρ h K :=
  .of_pure kk fun φ ac w r => by
    obtain ⟨arr', h1, h2⟩ := fill_run (φ := φ) (n := h.next) (fun i => some (i * 1, 1)) ac parts.toList z.cells.toList out z.cells (VRels.scalars ti.plain) (fun p hp => r.ev p.2 (by simp [Op.operands]; exact ⟨p.1, by simpa using hp⟩)) hu hf
    refine ⟨.agg arr', ?_, .agg _ _ (by have := h2.length; simpa using this) (fun k x y hx hy => ?_)⟩
    · have he : (parts.map fun (p : Nat × Operand) => (p.1, ac.eval p.2)).toList = parts.toList.map fun p => (p.1, ac.eval p.2) := by simp
      have hrun : (Instr.build t (parts.map fun (p : Nat × Operand) => (p.1, ac.eval p.2))).run P w = .ok (.agg arr') w := by
        simp only [Instr.build, Sem.run_bind, ti.zero, Result.andThen_ok, td.run, te.size, he]
        rw [h1]
        rfl
      simp [execOp, hrun]
    · obtain ⟨c, hc, hv⟩ := h2.get (j := k) (x := x) (by simpa using hx)
      simp only [Array.getElem?_toList] at hc
      rw [hy] at hc; cases hc; exact hv
theorem op_o32 {a b : W} (hx : ρ x = u32 a) (hy : ρ y = u32 b) (kk : K (u32 (a ||| b)) h) : AOp P ⟨dst, .binOp .or t x y t', ty, pos, aft, g⟩ ρ h K :=
  op_o32c b rfl hx hy kk
theorem op_shl64 {k : IntKind} {a c : Int} (n : Nat) (m : Int) (hm : (2 : Int) ^ n = m) (hc : c = (n : Int)) (hn : n ≤ 32) (hx : ρ x = .int .i64 a) (hy : ρ y = .int k c) (hr : 0 ≤ a ∧ a ≤ 255) (kk : K (.int .i64 (a * m)) h) : AOp P ⟨dst, .binOp .shl t x y t', ty, pos, aft, g⟩ ρ h K := by
  subst hc hm
  refine op_int hx hy (v := .int .i64 (a * 2 ^ n)) ?_ kk
  simp only [binI]
  rw [if_neg (by omega), show min (n : Int).toNat IntKind.i64.bits = n from by show min (n : Int).toNat 64 = n; omega]
  congr 2
  have h1 : (2 : Int) ^ n ≤ 2 ^ 32 := by exact_mod_cast Nat.pow_le_pow_right (n := 2) (by omega) hn
  have h2 : (0 : Int) < 2 ^ n := Int.pow_pos (by omega)
  have h3 : a * 2 ^ n ≤ 255 * 2 ^ 32 := Int.mul_le_mul hr.2 h1 (Int.le_of_lt h2) (by omega)
  have h4 : 0 ≤ a * 2 ^ n := Int.mul_nonneg hr.1 (Int.le_of_lt h2)
  rw [IntKind.wrap_i64]
  omega
end

theorem byte_shift (n : W) (k : Nat) : ((Crc.byteOf (n >>> (8 * k)) 0 : Nat) : Int) = ((UInt8.ofNat (Crc.byteOf n k)).toNat : Int) := by
  have h : Crc.byteOf n k < 256 := Nat.mod_lt _ (by omega)
  have e : (UInt8.ofNat (Crc.byteOf n k)).toNat = Crc.byteOf n k := by
    simp [UInt8.toNat_ofNat']
    omega
  rw [e]
  unfold Crc.byteOf
  rw [BitVec.toNat_ushiftRight, Nat.shiftRight_eq_div_pow]
  simp
theorem or_sum {a k b : Nat} (hb : b < 2 ^ k) : (a * 2 ^ k) ||| b = a * 2 ^ k + b := by
  rw [Nat.mul_comm a, ← Nat.two_pow_add_eq_or_of_lt hb a]
theorem be_bits (b0 b1 b2 b3 : UInt8) : (ofB b0 <<< 24 ||| ofB b1 <<< 16 ||| ofB b2 <<< 8 ||| ofB b3).toNat = b0.toNat * 16777216 + b1.toNat * 65536 + b2.toNat * 256 + b3.toNat := by
  have h0 := b0.toNat_lt
  have h1 := b1.toNat_lt
  have h2 := b2.toNat_lt
  have h3 := b3.toNat_lt
  have e : ∀ b : UInt8, (ofB b).toNat = b.toNat := fun b => by
    have := b.toNat_lt
    show (BitVec.ofNat 32 b.toNat).toNat = _
    rw [BitVec.toNat_ofNat]
    omega
  rw [BitVec.toNat_or, BitVec.toNat_or, BitVec.toNat_or, BitVec.toNat_shiftLeft, BitVec.toNat_shiftLeft, BitVec.toNat_shiftLeft, e, e, e, e, Nat.shiftLeft_eq, Nat.shiftLeft_eq, Nat.shiftLeft_eq]
  have m0 : b0.toNat * 2 ^ 24 % 2 ^ 32 = b0.toNat * 2 ^ 24 := Nat.mod_eq_of_lt (by omega)
  have m1 : b1.toNat * 2 ^ 16 % 2 ^ 32 = b1.toNat * 2 ^ 16 := Nat.mod_eq_of_lt (by omega)
  have m2 : b2.toNat * 2 ^ 8 % 2 ^ 32 = b2.toNat * 2 ^ 8 := Nat.mod_eq_of_lt (by omega)
  rw [m0, m1, m2]
  rw [or_sum (k := 24) (by omega)]
  rw [show b0.toNat * 2 ^ 24 + b1.toNat * 2 ^ 16 = (b0.toNat * 256 + b1.toNat) * 2 ^ 16 from by omega, or_sum (k := 16) (by omega)]
  rw [show (b0.toNat * 256 + b1.toNat) * 2 ^ 16 + b2.toNat * 2 ^ 8 = (b0.toNat * 65536 + b1.toNat * 256 + b2.toNat) * 2 ^ 8 from by omega, or_sum (k := 8) (by omega)]
theorem be_getD {b : List UInt8} {b0 b1 b2 b3 : UInt8} (h0 : b[0]? = some b0) (h1 : b[1]? = some b1) (h2 : b[2]? = some b2) (h3 : b[3]? = some b3) : be b = b0.toNat * 16777216 + b1.toNat * 65536 + b2.toNat * 256 + b3.toNat := by
  unfold be
  simp [List.getD_eq_getElem?_getD, h0, h1, h2, h3]
end Go.Frm
