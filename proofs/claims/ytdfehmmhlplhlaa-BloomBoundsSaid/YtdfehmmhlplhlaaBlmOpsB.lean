/-
  Operations on whole numbers of 32 bits, by natural numbers.
-/
import Derived.Test.YtdfehmmhlplhlaaBlmOps
namespace Go.Blm
open Go Go.Eng Go.Crc

section
variable {P : Program} {ρ : Operand → Value} {h : Heap} {K : Value → Heap → Prop} {dst : Option Tmp} {ty : TypeId} {pos : String} {aft : Array Edge} {g : Option (Nat × Bool)} {t t' : TypeId} {x y : Operand}
/-- Whole numbers that are not below zero. -/
theorem op_remN {k : IntKind} {a b : Nat} (hx : ρ x = .int k (a : Int)) (hy : ρ y = .int k (b : Int)) (hb : 0 < b) (kk : K (.int k ((a % b : Nat) : Int)) h) : AOp P ⟨dst, .binOp .rem t x y t', ty, pos, aft, g⟩ ρ h K :=
  op_rem64 hx hy (by omega) (by rw [← Int.natCast_emod]; exact kk)
theorem op_convN {s d : TypeId} {k ks : IntKind} {a : Nat} [ts : TyD P s (.int ks)] [td : TyD P d (.int .u32)] (hx : ρ x = .int k (a : Int)) (kk : K (.int .u32 ((a % 4294967296 : Nat) : Int)) h) : AOp P ⟨dst, .convert s d x, ty, pos, aft, g⟩ ρ h K :=
  op_convI hx (by
    have : IntKind.u32.wrap (a : Int) = ((a % 4294967296 : Nat) : Int) := by rw [IntKind.wrap_u32]; omega
    rw [this]; exact kk)
theorem op_convM {s d : TypeId} {k ks : IntKind} {a : Nat} [ts : TyD P s (.int ks)] [td : TyD P d (.int .u32)] (hx : ρ x = .int k (a : Int)) (ha : a < 4294967296) (kk : K (.int .u32 (a : Int)) h) : AOp P ⟨dst, .convert s d x, ty, pos, aft, g⟩ ρ h K :=
  op_convN hx (by rw [Nat.mod_eq_of_lt ha]; exact kk)
theorem op_mulN {a b : Nat} (hx : ρ x = .int .u32 (a : Int)) (hy : ρ y = .int .u32 (b : Int)) (kk : K (.int .u32 ((a * b % 4294967296 : Nat) : Int)) h) : AOp P ⟨dst, .binOp .mul t x y t', ty, pos, aft, g⟩ ρ h K :=
  op_int hx hy (v := .int .u32 ((a * b % 4294967296 : Nat) : Int)) (by
    simp only [binI, if_true]
    congr 2) kk
theorem op_addN {a b : Nat} (hx : ρ x = .int .u32 (a : Int)) (hy : ρ y = .int .u32 (b : Int)) (kk : K (.int .u32 (((a + b) % 4294967296 : Nat) : Int)) h) : AOp P ⟨dst, .binOp .add t x y t', ty, pos, aft, g⟩ ρ h K :=
  op_int hx hy (v := .int .u32 (((a + b) % 4294967296 : Nat) : Int)) (by
    simp only [binI, if_true]
    congr 2) kk
end
end Go.Blm
