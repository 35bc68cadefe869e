/-
  Operations on floats, complex numbers and bytes, as filters use them.
-/
import Derived.Test.YtdfehmmhlplhlaaBlmFloat
import Derived.Test.YtdfehmmhlplhlaaBlmMath
import Derived.Test.YtdfehmmhlplhlaaCrcOps
import Derived.Test.YtdfehmmhlplhlaaEngQ
namespace Go.Blm
open Go Go.Eng Go.Crc

section
variable {P : Program} {ρ : Operand → Value} {h : Heap} {K : Value → Heap → Prop} {dst : Option Tmp} {ty : TypeId} {pos : String} {aft : Array Edge} {g : Option (Nat × Bool)} {t t' : TypeId} {x y : Operand}

/-- A whole number as a float. -/
def flv (n : Nat) : Value := .float .f64 (fl n)
def cxv (a b : Nat) : Value := .complex .f64 (fl a) (fl b)
theorem op_fOf {s d : TypeId} {k ks : IntKind} {a : Int} (n : Nat) (hn : a = (n : Int)) [ts : TyD P s (.int ks)] [td : TyD P d (.float .f64)] (hx : ρ x = .int k a) (kk : K (flv n) h) : AOp P ⟨dst, .convert s d x, ty, pos, aft, g⟩ ρ h K :=
  .of_pure kk fun φ ac w r => by
    have e1 := (hx ▸ r.ev x (by simp [Op.operands])).int_inv
    refine ⟨flv n, ?_, .float _ _⟩
    subst hn
    have hneg : ¬ ((n : Int) < 0) := by omega
    have hf : FloatKind.f64.nearest (n : Int) = fl n := by
      show Ieee.double.write (.number (decide ((n : Int) < 0)) (n : Int).natAbs 0) = _
      rw [decide_eq_false hneg, Int.natAbs_natCast]
      rfl
    simp [execOp, e1, convert, ts.run, td.run, Conv.intToFloat, hf, flv]
theorem op_fTo {s d : TypeId} {n : Nat} [ts : TyD P s (.float .f64)] [td : TyD P d (.int .u64)] (hx : ρ x = flv n) (hn : n < 9007199254740992) (kk : K (.int .u64 (n : Int)) h) : AOp P ⟨dst, .convert s d x, ty, pos, aft, g⟩ ρ h K :=
  .of_pure kk fun φ ac w r => by
    have hv := hx ▸ r.ev x (by simp [Op.operands])
    have e1 : ac.eval x = flv n := by
      unfold flv at hv ⊢
      cases hq : ac.eval x <;> rw [hq] at hv <;> cases hv
      rfl
    refine ⟨_, ?_, .int _ _⟩
    have hval : floatToIntVal .f64 (fl n) .u64 = some (n : Int) := by
      unfold floatToIntVal
      show (match (Ieee.double.read (fl n)).toInt .zero with | some m => if IntKind.u64.min ≤ m ∧ m ≤ IntKind.u64.max then some m else none | none => none) = _
      rw [fl_int n (by omega)]
      have h1 : IntKind.u64.min = 0 := rfl
      have h2 : IntKind.u64.max = 18446744073709551615 := rfl
      simp only []
      rw [if_pos (by omega)]
    have hrun := run_convert_float_int (P := P) w s d .f64 .u64 (fl n) n (by rw [ts.eq]; rfl) td.eq hval
    simp [execOp, e1, flv, hrun]
theorem op_cx {a b : Nat} {aT : Array TypeId} (hx : ρ x = flv a) (hy : ρ y = flv b) (kk : K (cxv a b) h) : AOp P ⟨dst, .call ⟨.builtin .complex, #[x, y], aT⟩, ty, pos, aft, g⟩ ρ h K :=
  .of_pure kk fun φ ac w r => by
    have hv := hx ▸ r.ev x (by simp [Op.operands, Call.operands])
    have hw := hy ▸ r.ev y (by simp [Op.operands, Call.operands])
    have e1 : ac.eval x = .float .f64 (fl a) := by
      unfold flv at hv
      cases hq : ac.eval x <;> rw [hq] at hv <;> cases hv
      rfl
    have e2 : ac.eval y = .float .f64 (fl b) := by
      unfold flv at hw
      cases hq : ac.eval y <;> rw [hq] at hw <;> cases hw
      rfl
    refine ⟨cxv a b, ?_, .complex _ _ _⟩
    have hb : ∀ (aT : Array TypeId) (ty : TypeId), (Builtin.complex_ aT ty #[.float .f64 (fl a), .float .f64 (fl b)]).run P w = .ok (cxv a b) w := fun _ _ => rfl
    simp [execOp, resolve, invoke, builtin, e1, e2, hb]
theorem cxv_inv {φ : Ren} {n : Nat} {a b : Nat} {c : Value} (hv : VRel φ n (cxv a b) c) : c = .complex .f64 (fl a) (fl b) := by
  unfold cxv at hv
  cases hv
  rfl
theorem op_re {a b : Nat} {aT : Array TypeId} (hx : ρ x = cxv a b) (kk : K (flv a) h) : AOp P ⟨dst, .call ⟨.builtin .real, #[x], aT⟩, ty, pos, aft, g⟩ ρ h K :=
  .of_pure kk fun φ ac w r => by
    have e1 := cxv_inv (hx ▸ r.ev x (by simp [Op.operands, Call.operands]))
    refine ⟨flv a, ?_, .float _ _⟩
    have hb : ∀ (aT : Array TypeId) (ty : TypeId), (Builtin.real_ aT ty #[.complex .f64 (fl a) (fl b)]).run P w = .ok (flv a) w := fun _ _ => rfl
    simp [execOp, resolve, invoke, builtin, e1, hb]
theorem op_im {a b : Nat} {aT : Array TypeId} (hx : ρ x = cxv a b) (kk : K (flv b) h) : AOp P ⟨dst, .call ⟨.builtin .imag, #[x], aT⟩, ty, pos, aft, g⟩ ρ h K :=
  .of_pure kk fun φ ac w r => by
    have e1 := cxv_inv (hx ▸ r.ev x (by simp [Op.operands, Call.operands]))
    refine ⟨flv b, ?_, .float _ _⟩
    have hb : ∀ (aT : Array TypeId) (ty : TypeId), (Builtin.imag_ aT ty #[.complex .f64 (fl a) (fl b)]).run P w = .ok (flv b) w := fun _ _ => rfl
    simp [execOp, resolve, invoke, builtin, e1, hb]
theorem op_cAdd {a b c d : Nat} (hx : ρ x = cxv a b) (hy : ρ y = cxv c d) (h1 : a + c < 9007199254740992) (h2 : b + d < 9007199254740992) (kk : K (cxv (a + c) (b + d)) h) : AOp P ⟨dst, .binOp .add t x y t', ty, pos, aft, g⟩ ρ h K :=
  .of_pure kk fun φ ac w r => by
    have e1 := cxv_inv (hx ▸ r.ev x (by simp [Op.operands]))
    have e2 := cxv_inv (hy ▸ r.ev y (by simp [Op.operands]))
    refine ⟨cxv (a + c) (b + d), ?_, .complex _ _ _⟩
    have f1 : Ieee.double.add (fl a) (fl c) = some (fl (a + c)) := fl_add _ _ (by omega)
    have f2 : Ieee.double.add (fl b) (fl d) = some (fl (b + d)) := fl_add _ _ (by omega)
    have hc : cSumBits .add .f64 (fl a) (fl b) (fl c) (fl d) = some (fl (a + c), fl (b + d)) := by
      have g1 : floatBits .add .f64 (fl a) (fl c) = some (fl (a + c)) := f1
      have g2 : floatBits .add .f64 (fl b) (fl d) = some (fl (b + d)) := f2
      unfold cSumBits
      rw [g1, g2]
      rfl
    have hrun := run_complex_sum (P := P) w .add (.inl rfl) t .f64 _ _ _ _ _ _ hc
    simp [execOp, e1, e2, eqGuard, hrun, cxv]

/-- Bytes. -/
theorem one8_nat (k : Nat) (hk : k < 8) : (one8 k).toNat = 2 ^ k := by
  match k, hk with
  | 0, _ | 1, _ | 2, _ | 3, _ | 4, _ | 5, _ | 6, _ | 7, _ => rfl
theorem op_shlB {k : IntKind} {c : Int} (n : Nat) (hc : c = (n : Int)) (hn : n < 8) (hx : ρ x = .int .u8 1) (hy : ρ y = .int k c) (kk : K (.int .u8 ((one8 n).toNat : Int)) h) : AOp P ⟨dst, .binOp .shl t x y t', ty, pos, aft, g⟩ ρ h K := by
  subst hc
  refine op_int hx hy (v := .int .u8 ((one8 n).toNat : Int)) ?_ kk
  match n, hn with
  | 0, _ | 1, _ | 2, _ | 3, _ | 4, _ | 5, _ | 6, _ | 7, _ => rfl
theorem wrap8 (n : Nat) : IntKind.u8.wrap (n : Int) = ((n % 256 : Nat) : Int) := by
  rw [IntKind.wrap_u8]
  omega
theorem bv8_of (b : UInt8) : BitVec.ofInt IntKind.u8.bits (b.toNat : Int) = b.toBitVec := by
  show BitVec.ofInt 8 ((b.toNat : Nat) : Int) = _
  apply BitVec.eq_of_toNat_eq
  rw [BitVec.toNat_ofInt]
  have := b.toNat_lt
  show ((b.toNat : Int) % (2 ^ 8 : Nat)).toNat = b.toNat
  omega
theorem op_orB {a b : UInt8} (hx : ρ x = .int .u8 (a.toNat : Int)) (hy : ρ y = .int .u8 (b.toNat : Int)) (kk : K (.int .u8 ((a ||| b).toNat : Int)) h) : AOp P ⟨dst, .binOp .or t x y t', ty, pos, aft, g⟩ ρ h K :=
  op_int hx hy (v := .int .u8 ((a ||| b).toNat : Int)) (by
    simp only [binI, if_true, bv8_of]
    congr 2
    show IntKind.u8.wrap (((a ||| b).toNat : Nat) : Int) = _
    rw [wrap8, Nat.mod_eq_of_lt (a ||| b).toNat_lt]) kk
theorem op_andB {a b : UInt8} (hx : ρ x = .int .u8 (a.toNat : Int)) (hy : ρ y = .int .u8 (b.toNat : Int)) (kk : K (.int .u8 ((a &&& b).toNat : Int)) h) : AOp P ⟨dst, .binOp .and t x y t', ty, pos, aft, g⟩ ρ h K :=
  op_int hx hy (v := .int .u8 ((a &&& b).toNat : Int)) (by
    simp only [binI, if_true, bv8_of]
    congr 2
    show IntKind.u8.wrap (((a &&& b).toNat : Nat) : Int) = _
    rw [wrap8, Nat.mod_eq_of_lt (a &&& b).toNat_lt]) kk
theorem op_addB {a b : UInt8} (hx : ρ x = .int .u8 (a.toNat : Int)) (hy : ρ y = .int .u8 (b.toNat : Int)) (kk : K (.int .u8 ((a + b).toNat : Int)) h) : AOp P ⟨dst, .binOp .add t x y t', ty, pos, aft, g⟩ ρ h K :=
  op_int hx hy (v := .int .u8 ((a + b).toNat : Int)) (by
    simp only [binI, if_true]
    congr 2) kk
theorem op_decB {a : UInt8} (h0 : a ≠ 0) (hx : ρ x = .int .u8 (a.toNat : Int)) (hy : ρ y = .int .u8 1) (kk : K (.int .u8 ((a - 1).toNat : Int)) h) : AOp P ⟨dst, .binOp .sub t x y t', ty, pos, aft, g⟩ ρ h K :=
  op_int hx hy (v := .int .u8 ((a - 1).toNat : Int)) (by
    have h1 : a.toNat ≠ 0 := fun e => h0 (UInt8.toNat_inj.1 e)
    have h2 := a.toNat_lt
    have h3 : (a - 1).toNat = a.toNat - 1 := by
      rw [UInt8.toNat_sub]
      show (2 ^ 8 - 1 + a.toNat) % 2 ^ 8 = _
      omega
    simp only [binI, if_true]
    congr 2
    rw [h3, show (a.toNat : Int) - 1 = ((a.toNat - 1 : Nat) : Int) from by omega, wrap8, Nat.mod_eq_of_lt (by omega)]) kk
/-- b >> k & 1 == 1. -/
theorem op_shrB {b : UInt8} {k : IntKind} {c : Int} (n : Nat) (hc : c = (n : Int)) (hn : n < 8) (hx : ρ x = .int .u8 (b.toNat : Int)) (hy : ρ y = .int k c) (kk : K (.int .u8 ((b.toNat / 2 ^ n : Nat) : Int)) h) : AOp P ⟨dst, .binOp .shr t x y t', ty, pos, aft, g⟩ ρ h K := by
  subst hc
  refine op_int hx hy (v := .int .u8 ((b.toNat / 2 ^ n : Nat) : Int)) ?_ kk
  simp only [binI]
  rw [if_neg (by omega)]
  congr 2
  have h8 : min (n : Int).toNat IntKind.u8.bits = n := by
    show min (n : Int).toNat 8 = n
    omega
  rw [h8, Int.fdiv_eq_ediv_of_nonneg _ (by exact Int.le_of_lt (Int.pow_pos (by omega)))]
  rw [Int.natCast_ediv, Int.natCast_pow]
  rfl
theorem op_lowB {n : Nat} (_ : n < 256) (hx : ρ x = .int .u8 (n : Int)) (hy : ρ y = .int .u8 1) (kk : K (.int .u8 ((n % 2 : Nat) : Int)) h) : AOp P ⟨dst, .binOp .and t x y t', ty, pos, aft, g⟩ ρ h K :=
  op_int hx hy (v := .int .u8 ((n % 2 : Nat) : Int)) (by
    simp only [binI, if_true]
    congr 2
    have e1 : BitVec.ofInt IntKind.u8.bits (n : Int) = BitVec.ofNat 8 n := rfl
    have e2 : BitVec.ofInt IntKind.u8.bits 1 = BitVec.ofNat 8 1 := rfl
    rw [e1, e2]
    show IntKind.u8.wrap (((BitVec.ofNat 8 n &&& BitVec.ofNat 8 1).toNat : Nat) : Int) = _
    rw [wrap8, BitVec.toNat_and, BitVec.toNat_ofNat, BitVec.toNat_ofNat]
    congr 1
    show (n % 2 ^ 8 &&& 1 % 2 ^ 8) % 256 = n % 2
    rw [show 1 % 2 ^ 8 = 1 from rfl, Nat.and_one_is_mod]
    omega) kk
theorem op_hasB {b : UInt8} {n : Nat} (hx : ρ x = .int .u8 ((b.toNat / 2 ^ n % 2 : Nat) : Int)) (hy : ρ y = .int .u8 1) (kk : K (.bool (hasB b n)) h) : AOp P ⟨dst, .binOp .eql t x y t', ty, pos, aft, g⟩ ρ h K :=
  op_int hx hy (v := .bool (hasB b n)) (by
    simp only [binI, if_true]
    congr 2
    unfold hasB
    rw [Nat.testBit_eq_decide_div_mod_eq]
    congr 1
    exact propext ⟨fun e => by omega, fun e => by omega⟩) kk
end
end Go.Blm
