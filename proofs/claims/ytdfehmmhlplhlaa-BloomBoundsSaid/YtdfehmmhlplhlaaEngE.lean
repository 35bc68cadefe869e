/-
  The engine, part E: operations on plain values.
-/
import Derived.Test.YtdfehmmhlplhlaaEngD
namespace Go.Eng
open Go

variable {P : Program} {ρ : Operand → Value} {h : Heap} {K : Value → Heap → Prop} {dst : Option Tmp} {ty : TypeId} {pos : String} {aft : Array Edge} {g : Option (Nat × Bool)}

/-- Two integers. -/
def binI (op : BinOp) (k : IntKind) (a : Int) (k' : IntKind) (b : Int) : Option Value :=
  match op with
  | .shl => if b < 0 then none else some (.int k (k.wrap (a * 2 ^ min b.toNat k.bits)))
  | .shr => if b < 0 then none else some (.int k (a.fdiv (2 ^ min b.toNat k.bits)))
  | .add => if k = k' then some (.int k (k.wrap (a + b))) else none
  | .sub => if k = k' then some (.int k (k.wrap (a - b))) else none
  | .mul => if k = k' then some (.int k (k.wrap (a * b))) else none
  | .quo => if k = k' then (if b = 0 then none else some (.int k (k.wrap (a.tdiv b)))) else none
  | .rem => if k = k' then (if b = 0 then none else some (.int k (a.tmod b))) else none
  | .and => if k = k' then some (.int k (k.wrap (BitVec.ofInt k.bits a &&& BitVec.ofInt k.bits b).toNat)) else none
  | .or => if k = k' then some (.int k (k.wrap (BitVec.ofInt k.bits a ||| BitVec.ofInt k.bits b).toNat)) else none
  | .xor => if k = k' then some (.int k (k.wrap (BitVec.ofInt k.bits a ^^^ BitVec.ofInt k.bits b).toNat)) else none
  | .andNot => if k = k' then some (.int k (k.wrap (BitVec.ofInt k.bits a &&& ~~~BitVec.ofInt k.bits b).toNat)) else none
  | .eql => if k = k' then some (.bool (decide (a = b))) else none
  | .neq => if k = k' then some (.bool (decide (a ≠ b))) else none
  | .lss => if k = k' then some (.bool (decide (a < b))) else none
  | .leq => if k = k' then some (.bool (decide (a ≤ b))) else none
  | .gtr => if k = k' then some (.bool (decide (b < a))) else none
  | .geq => if k = k' then some (.bool (decide (b ≤ a))) else none

theorem run_binI {op : BinOp} {t : TypeId} {k k' : IntKind} {a b : Int} {v : Value} (w : World) (hv : binI op k a k' b = some v) : (binOp op t (.int k a) (.int k' b)).run P w = .ok v w := by
  cases op <;> simp only [binI] at hv <;>
    first
    | (split at hv
       · rename_i hk; subst hk
         first
         | (split at hv
            · cases hv
            · rename_i hb; cases hv; simp [binOp, Op.intDiv, hb])
         | (cases hv; simp [binOp, Op.intArith, Op.intBits, Op.intCmp]; done)
         | (cases hv; simp [binOp, Op.intCmp]; rfl)
         | (cases hv; simp [binOp, Op.intArith, Op.intBits, Op.intCmp, bne]; by_cases hq : a = b <;> simp [hq])
       · cases hv)
    | (split at hv
       · cases hv
       · rename_i hb; cases hv; simp [binOp, Op.shift, hb])

theorem run_eqGuard_int {op : BinOp} {t : TypeId} {x y : Operand} {k k' : IntKind} {a b : Int} (w : World) : (eqGuard op t x y (.int k a) (.int k' b)).run P w = .ok () w := by
  cases op <;> simp [eqGuard]

theorem op_int {op : BinOp} {t t' : TypeId} {x y : Operand} {k k' : IntKind} {a b : Int} {v : Value} (hx : ρ x = .int k a) (hy : ρ y = .int k' b) (hv : binI op k a k' b = some v) (kk : K v h) :
    AOp P ⟨dst, .binOp op t x y t', ty, pos, aft, g⟩ ρ h K :=
  .of_run fun φ ac w r => by
    have h1 := hx ▸ r.ev x (by simp [Op.operands])
    have h2 := hy ▸ r.ev y (by simp [Op.operands])
    have e1 := h1.int_inv
    have e2 := h2.int_inv
    refine ⟨v, w, φ, h, v, ?_, kk, ?_, r.sim, Step.refl _ _ _⟩
    · simp [execOp, e1, e2, run_eqGuard_int, run_binI w hv]
    · refine .of_scalar ?_
      cases op <;> simp only [binI] at hv <;> (repeat' split at hv) <;> cases hv <;> rfl

/-- Two bools. -/
theorem run_equalIn_bool {t : TypeId} [ti : TyD P t .bool] (a b : Bool) (w : World) (d : Nat) : (Op.equalIn (d + 1) t (.bool a) (.bool b)).run P w = .ok (a == b) w := by
  simp [Op.equalIn, ti.run]
theorem run_equal_bool {t : TypeId} [ti : TyD P t .bool] (a b : Bool) (w : World) : (Op.equal t (.bool a) (.bool b)).run P w = .ok (a == b) w := run_equalIn_bool a b w 9999
theorem op_boolEq {t t' : TypeId} {x y : Operand} {a b : Bool} [ti : TyD P t .bool] (hx : ρ x = .bool a) (hy : ρ y = .bool b) (kk : K (.bool (a == b)) h) :
    AOp P ⟨dst, .binOp .eql t x y t', ty, pos, aft, g⟩ ρ h K :=
  .of_pure kk fun φ ac w r => by
    have h1 := hx ▸ r.ev x (by simp [Op.operands])
    have h2 := hy ▸ r.ev y (by simp [Op.operands])
    have e1 := h1.bool_inv
    have e2 := h2.bool_inv
    refine ⟨_, ?_, .bool _⟩
    simp [execOp, e1, e2, eqGuard, binOp, run_equal_bool]
theorem op_boolNe {t t' : TypeId} {x y : Operand} {a b : Bool} [ti : TyD P t .bool] (hx : ρ x = .bool a) (hy : ρ y = .bool b) (kk : K (.bool (a != b)) h) :
    AOp P ⟨dst, .binOp .neq t x y t', ty, pos, aft, g⟩ ρ h K :=
  .of_pure kk fun φ ac w r => by
    have h1 := hx ▸ r.ev x (by simp [Op.operands])
    have h2 := hy ▸ r.ev y (by simp [Op.operands])
    have e1 := h1.bool_inv
    have e2 := h2.bool_inv
    refine ⟨_, ?_, .bool _⟩
    simp [execOp, e1, e2, eqGuard, binOp, run_equal_bool, bne]

/-- Two strings, compared. -/
def strB (op : BinOp) (x y : ByteArray) : Option Bool :=
  match op with
  | .eql => some (x.toList == y.toList)
  | .neq => some (!(x.toList == y.toList))
  | .lss => some (Op.bytesLess x.toList y.toList)
  | .leq => some (Op.bytesLess x.toList y.toList || x.toList == y.toList)
  | .gtr => some (!(Op.bytesLess x.toList y.toList || x.toList == y.toList))
  | .geq => some (!(Op.bytesLess x.toList y.toList))
  | _ => none
theorem op_strB {op : BinOp} {t t' : TypeId} {x y : Operand} {a b : ByteArray} {c : Bool} (hx : ρ x = .string a) (hy : ρ y = .string b) (hc : strB op a b = some c) (kk : K (.bool c) h) :
    AOp P ⟨dst, .binOp op t x y t', ty, pos, aft, g⟩ ρ h K :=
  .of_pure kk fun φ ac w r => by
    have h1 := hx ▸ r.ev x (by simp [Op.operands])
    have h2 := hy ▸ r.ev y (by simp [Op.operands])
    have e1 := h1.string_inv
    have e2 := h2.string_inv
    refine ⟨_, ?_, .bool _⟩
    cases op <;> simp only [strB, Option.some.injEq, reduceCtorEq] at hc <;> subst hc <;> simp [execOp, e1, e2, eqGuard, binOp, Op.stringOp]
theorem op_strAdd {t t' : TypeId} {x y : Operand} {a b : ByteArray} (hx : ρ x = .string a) (hy : ρ y = .string b) (hs : a.size + b.size ≤ maxLen) (kk : K (.string (a ++ b)) h) :
    AOp P ⟨dst, .binOp .add t x y t', ty, pos, aft, g⟩ ρ h K :=
  .of_pure kk fun φ ac w r => by
    have h1 := hx ▸ r.ev x (by simp [Op.operands])
    have h2 := hy ▸ r.ev y (by simp [Op.operands])
    have e1 := h1.string_inv
    have e2 := h2.string_inv
    refine ⟨_, ?_, .string _⟩
    have hm : ¬ (IntKind.i64.max < (a.size : Int) + (b.size : Int)) := by
      have : IntKind.i64.max = 9223372036854775807 := rfl
      simp only [maxLen] at hs
      omega
    have hr : (Op.stringOp .add a b).run P w = .ok (.string (a ++ b)) w := by
      simp only [Op.stringOp]
      rw [if_neg (by push_cast; exact hm)]
      rfl
    simp [execOp, e1, e2, eqGuard, binOp, hr]

/-- One integer, one bool. -/
theorem op_not {t : TypeId} {x : Operand} {b : Bool} (hx : ρ x = .bool b) (kk : K (.bool (!b)) h) : AOp P ⟨dst, .unOp .not t x, ty, pos, aft, g⟩ ρ h K :=
  .of_pure kk fun φ ac w r => by
    have h1 := hx ▸ r.ev x (by simp [Op.operands])
    have e1 := h1.bool_inv
    exact ⟨_, by simp [execOp, e1, Op.unary], .bool _⟩
theorem op_neg {t : TypeId} {x : Operand} {k : IntKind} {a : Int} (hx : ρ x = .int k a) (kk : K (.int k (k.wrap (0 - a))) h) : AOp P ⟨dst, .unOp .neg t x, ty, pos, aft, g⟩ ρ h K :=
  .of_pure kk fun φ ac w r => by
    have h1 := hx ▸ r.ev x (by simp [Op.operands])
    have e1 := h1.int_inv
    exact ⟨_, by simp [execOp, e1, Op.unary, Op.intArith], .int _ _⟩
theorem op_com {t : TypeId} {x : Operand} {k : IntKind} {a : Int} (hx : ρ x = .int k a)
    (kk : K (.int k (k.wrap (BitVec.ofInt k.bits (if k.signed then -1 else k.max) ^^^ BitVec.ofInt k.bits a).toNat)) h) : AOp P ⟨dst, .unOp .xor t x, ty, pos, aft, g⟩ ρ h K :=
  .of_pure kk fun φ ac w r => by
    have h1 := hx ▸ r.ev x (by simp [Op.operands])
    have e1 := h1.int_inv
    exact ⟨_, by simp [execOp, e1, Op.unary, Op.intBits], .int _ _⟩
theorem op_convI {s d : TypeId} {x : Operand} {k k' ks : IntKind} {a : Int} [ts : TyD P s (.int ks)] [td : TyD P d (.int k')] (hx : ρ x = .int k a) (kk : K (.int k' (k'.wrap a)) h) :
    AOp P ⟨dst, .convert s d x, ty, pos, aft, g⟩ ρ h K :=
  .of_pure kk fun φ ac w r => by
    have h1 := hx ▸ r.ev x (by simp [Op.operands])
    have e1 := h1.int_inv
    exact ⟨_, by simp [execOp, e1, convert, ts.run, td.run, Conv.intToInt], .int _ _⟩
theorem op_extract {x : Operand} {i : Nat} {vs : Array Value} {v : Value} (hx : ρ x = .tuple vs) (hv : vs[i]? = some v) (kk : K v h) : AOp P ⟨dst, .extract x i, ty, pos, aft, g⟩ ρ h K :=
  .of_pure kk fun φ ac w r => by
    have h1 := hx ▸ r.ev x (by simp [Op.operands])
    have hi : i < vs.size := (Array.getElem?_eq_some_iff.1 hv).1
    obtain ⟨vs', e1, hs, hr⟩ := h1.tuple_inv (by omega)
    have hi' : i < vs'.size := by omega
    exact ⟨vs'[i], by simp [execOp, e1, Instr.extract, Array.getElem?_eq_getElem hi'], hr i v _ hv (Array.getElem?_eq_getElem hi')⟩
theorem op_nilCheck {x : Operand} {i o : Nat} {s : Option Nat} (hx : ρ x = .pointer (some ⟨i, o, s⟩)) (kk : K (.pointer (some ⟨i, o, s⟩)) h) : AOp P ⟨dst, .nilCheck x, ty, pos, aft, g⟩ ρ h K :=
  .of_pure kk fun φ ac w r => by
    have h1 := hx ▸ r.ev x (by simp [Op.operands])
    obtain ⟨e0, _, e1⟩ := h1.ptr_inv
    exact ⟨_, by simp [execOp, e1], e1 ▸ h1⟩

/-- A test that is known. -/
theorem op_intT {op : BinOp} {t t' : TypeId} {x y : Operand} {k k' : IntKind} {a b : Int} {p : Prop} {ip : Decidable p} (hx : ρ x = .int k a) (hy : ρ y = .int k' b) (hv : binI op k a k' b = some (.bool (@decide p ip))) (hp : p) (kk : K (.bool true) h) :
    AOp P ⟨dst, .binOp op t x y t', ty, pos, aft, g⟩ ρ h K := op_int hx hy hv (by rw [decide_eq_true hp]; exact kk)
theorem op_intF {op : BinOp} {t t' : TypeId} {x y : Operand} {k k' : IntKind} {a b : Int} {p : Prop} {ip : Decidable p} (hx : ρ x = .int k a) (hy : ρ y = .int k' b) (hv : binI op k a k' b = some (.bool (@decide p ip))) (hp : ¬ p) (kk : K (.bool false) h) :
    AOp P ⟨dst, .binOp op t x y t', ty, pos, aft, g⟩ ρ h K := op_int hx hy hv (by rw [decide_eq_false hp]; exact kk)
/-- Sums that fit. -/
theorem op_add64 {t t' : TypeId} {x y : Operand} {a b : Int} (hx : ρ x = .int .i64 a) (hy : ρ y = .int .i64 b) (hr : -9223372036854775808 ≤ a + b ∧ a + b ≤ 9223372036854775807) (kk : K (.int .i64 (a + b)) h) :
    AOp P ⟨dst, .binOp .add t x y t', ty, pos, aft, g⟩ ρ h K :=
  op_int hx hy (v := .int .i64 (a + b)) (by simp only [binI, if_true]; congr 2; rw [IntKind.wrap_i64]; omega) kk
theorem op_sub64 {t t' : TypeId} {x y : Operand} {a b : Int} (hx : ρ x = .int .i64 a) (hy : ρ y = .int .i64 b) (hr : -9223372036854775808 ≤ a - b ∧ a - b ≤ 9223372036854775807) (kk : K (.int .i64 (a - b)) h) :
    AOp P ⟨dst, .binOp .sub t x y t', ty, pos, aft, g⟩ ρ h K :=
  op_int hx hy (v := .int .i64 (a - b)) (by simp only [binI, if_true]; congr 2; rw [IntKind.wrap_i64]; omega) kk
theorem op_mul64 {t t' : TypeId} {x y : Operand} {a b : Int} (hx : ρ x = .int .i64 a) (hy : ρ y = .int .i64 b) (hr : -9223372036854775808 ≤ a * b ∧ a * b ≤ 9223372036854775807) (kk : K (.int .i64 (a * b)) h) :
    AOp P ⟨dst, .binOp .mul t x y t', ty, pos, aft, g⟩ ρ h K :=
  op_int hx hy (v := .int .i64 (a * b)) (by simp only [binI, if_true]; congr 2; rw [IntKind.wrap_i64]; omega) kk
/-- Division of numbers that are not below zero. -/
theorem op_quo64 {t t' : TypeId} {x y : Operand} {a b : Int} (hx : ρ x = .int .i64 a) (hy : ρ y = .int .i64 b) (hr : 0 ≤ a ∧ a ≤ 9223372036854775807 ∧ 0 < b) (kk : K (.int .i64 (a / b)) h) :
    AOp P ⟨dst, .binOp .quo t x y t', ty, pos, aft, g⟩ ρ h K := by
  have h1 : a.tdiv b = a / b := Int.tdiv_eq_ediv_of_nonneg hr.1
  have h2 : 0 ≤ a / b := Int.ediv_nonneg hr.1 (by omega)
  have h3 : a / b ≤ a := Int.ediv_le_self b hr.1
  exact op_int hx hy (v := .int .i64 (a / b)) (by simp only [binI, if_true]; rw [if_neg (by omega), h1]; congr 2; rw [IntKind.wrap_i64]; omega) kk
theorem op_rem64 {t t' : TypeId} {x y : Operand} {k : IntKind} {a b : Int} (hx : ρ x = .int k a) (hy : ρ y = .int k b) (hr : 0 ≤ a ∧ 0 < b) (kk : K (.int k (a % b)) h) :
    AOp P ⟨dst, .binOp .rem t x y t', ty, pos, aft, g⟩ ρ h K :=
  op_int hx hy (v := .int k (a % b)) (by simp only [binI, if_true]; rw [if_neg (by omega), Int.tmod_eq_emod_of_nonneg hr.1]) kk
theorem op_conv64 {s d : TypeId} {x : Operand} {k ks : IntKind} {a : Int} [ts : TyD P s (.int ks)] [td : TyD P d (.int .i64)] (hx : ρ x = .int k a) (hr : -9223372036854775808 ≤ a ∧ a ≤ 9223372036854775807) (kk : K (.int .i64 a) h) :
    AOp P ⟨dst, .convert s d x, ty, pos, aft, g⟩ ρ h K :=
  op_convI hx (by rw [show IntKind.i64.wrap a = a from by rw [IntKind.wrap_i64]; omega]; exact kk)
end Go.Eng
