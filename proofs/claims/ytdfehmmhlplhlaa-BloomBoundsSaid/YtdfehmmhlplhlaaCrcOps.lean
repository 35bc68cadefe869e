/-
  The engine's operations on registers of 32 bits.
-/
import Derived.Test.YtdfehmmhlplhlaaCrcMath
namespace Go.Crc
open Go Go.Eng

def u32 (x : W) : Value := .int .u32 (x.toNat : Int)

variable {P : Program} {ρ : Operand → Value} {h : Heap} {K : Value → Heap → Prop} {dst : Option Tmp} {ty : TypeId} {pos : String} {aft : Array Edge} {g : Option (Nat × Bool)} {t t' : TypeId} {x y : Operand}

theorem ofInt_toNat (a : W) : BitVec.ofInt 32 (a.toNat : Int) = a := by
  apply BitVec.eq_of_toNat_eq
  simp
theorem wrap_toNat (a : W) : IntKind.u32.wrap (a.toNat : Int) = (a.toNat : Int) := by
  rw [IntKind.wrap_u32]
  have := a.isLt
  omega
theorem op_x32 {a b : W} (hx : ρ x = u32 a) (hy : ρ y = u32 b) (kk : K (u32 (a ^^^ b)) h) : AOp P ⟨dst, .binOp .xor t x y t', ty, pos, aft, g⟩ ρ h K :=
  op_int hx hy (v := u32 (a ^^^ b)) (by
    simp only [binI, if_true]
    show some (Value.int .u32 (IntKind.u32.wrap ((BitVec.ofInt 32 (a.toNat : Int) ^^^ BitVec.ofInt 32 (b.toNat : Int)).toNat : Int))) = _
    rw [ofInt_toNat, ofInt_toNat, wrap_toNat]; rfl) kk
theorem op_x32c {a : W} (b : W) {c : Int} (hc : c = (b.toNat : Int)) (hx : ρ x = u32 a) (hy : ρ y = .int .u32 c) (kk : K (u32 (a ^^^ b)) h) : AOp P ⟨dst, .binOp .xor t x y t', ty, pos, aft, g⟩ ρ h K := by
  subst hc
  exact op_x32 hx hy kk
theorem op_o32c {a : W} (b : W) {c : Int} (hc : c = (b.toNat : Int)) (hx : ρ x = u32 a) (hy : ρ y = .int .u32 c) (kk : K (u32 (a ||| b)) h) : AOp P ⟨dst, .binOp .or t x y t', ty, pos, aft, g⟩ ρ h K := by
  subst hc
  exact op_int hx hy (v := u32 (a ||| b)) (by
    simp only [binI, if_true]
    show some (Value.int .u32 (IntKind.u32.wrap ((BitVec.ofInt 32 (a.toNat : Int) ||| BitVec.ofInt 32 (b.toNat : Int)).toNat : Int))) = _
    rw [ofInt_toNat, ofInt_toNat, wrap_toNat]; rfl) kk
theorem op_q32 {a : W} (hx : ρ x = u32 a) (hy : ρ y = .int .u32 2) (kk : K (u32 (a >>> 1)) h) : AOp P ⟨dst, .binOp .quo t x y t', ty, pos, aft, g⟩ ρ h K :=
  op_int hx hy (v := u32 (a >>> 1)) (by
    simp only [binI, if_true]
    rw [if_neg (by omega), Int.tdiv_eq_ediv_of_nonneg (by omega), IntKind.wrap_u32]
    simp only [u32, BitVec.toNat_ushiftRight, Nat.shiftRight_eq_div_pow]
    have := a.isLt
    congr 2
    omega) kk
theorem op_s32 {a : W} {k : IntKind} (n : Nat) {c : Int} (hc : c = (n : Int)) (hn : n ≤ 32) (hx : ρ x = u32 a) (hy : ρ y = .int k c) (kk : K (u32 (a >>> n)) h) : AOp P ⟨dst, .binOp .shr t x y t', ty, pos, aft, g⟩ ρ h K := by
  subst hc
  exact op_int hx hy (v := u32 (a >>> n)) (by
    simp only [binI]
    rw [if_neg (by omega)]
    simp only [u32, BitVec.toNat_ushiftRight, Nat.shiftRight_eq_div_pow]
    have hm : min (n : Int).toNat IntKind.u32.bits = n := by
      have : IntKind.u32.bits = 32 := rfl
      omega
    rw [hm, Int.fdiv_eq_ediv_of_nonneg _ (by exact Int.le_of_lt (Int.pow_pos (by omega)))]
    congr 2) kk
theorem op_c32 {a : W} (hx : ρ x = u32 a) (kk : K (u32 (~~~ a)) h) : AOp P ⟨dst, .unOp .xor t x, ty, pos, aft, g⟩ ρ h K :=
  op_com hx (by
    have hm : BitVec.ofInt IntKind.u32.bits (if IntKind.u32.signed then -1 else IntKind.u32.max) = BitVec.allOnes 32 := rfl
    have : (BitVec.ofInt IntKind.u32.bits (if IntKind.u32.signed then -1 else IntKind.u32.max) ^^^ BitVec.ofInt IntKind.u32.bits (a.toNat : Int)).toNat = (~~~ a).toNat := by
      rw [hm]
      show (BitVec.allOnes 32 ^^^ BitVec.ofInt 32 (a.toNat : Int)).toNat = _
      rw [ofInt_toNat, BitVec.allOnes_xor]
    rw [this, wrap_toNat]
    exact kk)
theorem op_cb32 [TyD P t (.int .u32)] [TyD P t' (.int .u8)] {a : W} (hx : ρ x = u32 a) (kk : K (.int .u8 (byteOf a 0 : Nat)) h) : AOp P ⟨dst, .convert t t' x, ty, pos, aft, g⟩ ρ h K :=
  op_convI (ks := .u32) hx (by
    have : IntKind.u8.wrap (a.toNat : Int) = (byteOf a 0 : Nat) := by
      rw [IntKind.wrap_u8]
      simp [byteOf]
    rw [this]; exact kk)
theorem op_bc32 [TyD P t (.int .u8)] [TyD P t' (.int .u32)] {b : UInt8} (hx : ρ x = .int .u8 (b.toNat : Int)) (kk : K (u32 (ofB b)) h) : AOp P ⟨dst, .convert t t' x, ty, pos, aft, g⟩ ρ h K :=
  op_convI (ks := .u8) hx (by
    have : IntKind.u32.wrap (b.toNat : Int) = ((ofB b).toNat : Int) := by
      rw [IntKind.wrap_u32]
      have := b.toNat_lt
      simp only [ofB, BitVec.toNat_ofNat]
      omega
    rw [this]; exact kk)
theorem op_ic32 [TyD P t (.int .i64)] [TyD P t' (.int .u32)] {a : Int} (hx : ρ x = .int .i64 a) (kk : K (u32 (BitVec.ofInt 32 a)) h) : AOp P ⟨dst, .convert t t' x, ty, pos, aft, g⟩ ρ h K :=
  op_convI (ks := .i64) hx (by
    have : IntKind.u32.wrap a = ((BitVec.ofInt 32 a).toNat : Int) := by
      rw [IntKind.wrap_u32, BitVec.toNat_ofInt]
      omega
    rw [this]; exact kk)
theorem op_shl32 {a : W} {k : IntKind} {c : Int} (n : Nat) (hc : c = (n : Int)) (hn : n ≤ 32) (hx : ρ x = u32 a) (hy : ρ y = .int k c) (kk : K (u32 (a <<< n)) h) : AOp P ⟨dst, .binOp .shl t x y t', ty, pos, aft, g⟩ ρ h K := by
  subst hc
  exact op_int hx hy (v := u32 (a <<< n)) (by
    simp only [binI]
    rw [if_neg (by omega)]
    have hm : min (n : Int).toNat IntKind.u32.bits = n := by
      have : IntKind.u32.bits = 32 := rfl
      omega
    rw [hm, IntKind.wrap_u32]
    simp only [u32, BitVec.toNat_shiftLeft, Nat.shiftLeft_eq]
    congr 2) kk
theorem u32_inj {a b : W} : u32 a = u32 b ↔ a = b := by
  simp only [u32, Value.int.injEq, true_and, Int.natCast_inj]
  exact BitVec.toNat_inj
theorem op_e32 {a b : W} (hx : ρ x = u32 a) (hy : ρ y = u32 b) (kk : K (.bool (decide (a = b))) h) : AOp P ⟨dst, .binOp .eql t x y t', ty, pos, aft, g⟩ ρ h K :=
  op_int hx hy (v := .bool (decide (a = b))) (by
    simp only [binI, if_true]
    congr 2
    simp only [Int.natCast_inj, BitVec.toNat_inj]) kk
theorem op_n32 {a b : W} (hx : ρ x = u32 a) (hy : ρ y = u32 b) (kk : K (.bool (decide (a ≠ b))) h) : AOp P ⟨dst, .binOp .neq t x y t', ty, pos, aft, g⟩ ρ h K :=
  op_int hx hy (v := .bool (decide (a ≠ b))) (by
    simp only [binI, if_true]
    congr 2
    simp only [ne_eq, Int.natCast_inj, BitVec.toNat_inj]) kk
theorem op_e32t {a : W} {c : Int} (hx : ρ x = u32 a) (hy : ρ y = .int .u32 c) (he : (a.toNat : Int) = c) (kk : K (.bool true) h) : AOp P ⟨dst, .binOp .eql t x y t', ty, pos, aft, g⟩ ρ h K :=
  op_int hx hy (v := .bool true) (by
    simp only [binI, if_true, he]
    simp) kk
theorem op_e32T {a b : W} (hx : ρ x = u32 a) (hy : ρ y = u32 b) (he : a = b) (kk : K (.bool true) h) : AOp P ⟨dst, .binOp .eql t x y t', ty, pos, aft, g⟩ ρ h K := op_e32 hx hy (by rw [decide_eq_true he]; exact kk)
theorem op_n32F {a b : W} (hx : ρ x = u32 a) (hy : ρ y = u32 b) (he : a = b) (kk : K (.bool false) h) : AOp P ⟨dst, .binOp .neq t x y t', ty, pos, aft, g⟩ ρ h K := op_n32 hx hy (by rw [decide_eq_false (fun hn => hn he)]; exact kk)
theorem fall_odd (a : W) (hb : a.getLsbD 0 = true) : fall a = (a >>> 1) ^^^ poly := by unfold fall; rw [hb]; rfl
theorem low_bit (a : W) : a.getLsbD 0 = decide (a.toNat % 2 = 1) := by
  simp only [BitVec.getLsbD, Nat.testBit_zero]

/-- The cells of a table. -/
def tabF (f : Nat → W) : List Value := (List.range 1024).map fun k => u32 (f k)
theorem tabF_length (f : Nat → W) : (tabF f).length = 1024 := by simp [tabF]
theorem tabF_get (f : Nat → W) (k : Nat) (hk : k < 1024) : (tabF f)[k]? = some (u32 (f k)) := by simp [tabF, hk]
theorem tabF_set (f : Nat → W) (i : Nat) (v : W) : (tabF f).set i (u32 v) = tabF fun k => if k = i then v else f k := by
  apply List.ext_getElem?
  intro k
  by_cases hk : k < 1024
  · rw [tabF_get _ k hk, List.getElem?_set, tabF_length]
    by_cases hi : i = k
    · subst hi; simp [hk]
    · rw [if_neg hi, tabF_get _ k hk, if_neg (fun e => hi e.symm)]
  · rw [List.getElem?_eq_none (by simp [tabF_length]; omega), List.getElem?_eq_none (by simp [tabF_length]; omega)]
theorem tabF_congr {f f' : Nat → W} (hf : ∀ k, k < 1024 → f k = f' k) : tabF f = tabF f' := by
  apply List.ext_getElem?
  intro k
  by_cases hk : k < 1024
  · rw [tabF_get _ k hk, tabF_get _ k hk, hf k hk]
  · rw [List.getElem?_eq_none (by simp [tabF_length]; omega), List.getElem?_eq_none (by simp [tabF_length]; omega)]
theorem tabF_one (f : Nat → W) : (tabF f).all oneB = true := List.all_eq_true.2 (by intro v hv; obtain ⟨k, _, rfl⟩ := List.mem_map.1 hv; rfl)
theorem tabF_scalar (f : Nat → W) : (tabF f).all scalar = true := List.all_eq_true.2 (by intro v hv; obtain ⟨k, _, rfl⟩ := List.mem_map.1 hv; rfl)
attribute [irreducible] tabF
/-- The table of a run. -/
def tab (L : W → W) : List Value := tabF fun k => L (ent k)
theorem tab_get (L : W → W) (a b : Nat) (ha : a < 4) (hb : b < 256) : (tab L)[a * 256 + b]? = some (u32 (L (ent (a * 256 + b)))) := tabF_get _ _ (by omega)
end Go.Crc
