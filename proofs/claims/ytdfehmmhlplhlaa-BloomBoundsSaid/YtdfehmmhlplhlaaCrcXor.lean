/-
  Sums of texts that are xored, or of which bits are turned.
-/
import Derived.Test.YtdfehmmhlplhlaaCrcRow
namespace Go.Crc
open Go Go.Eng

theorem ofB_xor (a b : UInt8) : ofB (a ^^^ b) = ofB a ^^^ ofB b := by
  apply BitVec.eq_of_getLsbD_eq
  intro i hi
  simp only [ofB, BitVec.getLsbD_xor, BitVec.getLsbD_ofNat, UInt8.toNat_xor, Nat.testBit_xor]
  cases decide (i < 32) <;> simp
theorem feed_xor (r s : W) (a b : UInt8) : feed (r ^^^ s) (a ^^^ b) = feed r a ^^^ feed s b := by
  unfold feed
  rw [ofB_xor, ← lin_step8]
  congr 1
  rw [BitVec.xor_assoc, BitVec.xor_assoc]
  congr 1
  rw [← BitVec.xor_assoc, BitVec.xor_comm s, BitVec.xor_assoc]
theorem feeds_xor : ∀ (l m : List UInt8) (r s : W), l.length = m.length → feeds (r ^^^ s) (List.zipWith (· ^^^ ·) l m) = feeds r l ^^^ feeds s m
  | [], [], _, _, _ => rfl
  | a :: l, b :: m, r, s, h => by
    simp only [List.zipWith_cons_cons, feeds, List.foldl_cons]
    rw [feed_xor]
    exact feeds_xor l m _ _ (by simpa using h)
/-- Three texts, xored byte by byte. -/
def xor3 (a b c : List UInt8) : List UInt8 := List.zipWith (· ^^^ ·) (List.zipWith (· ^^^ ·) a b) c
theorem xor3_length (a b c : List UInt8) : (xor3 a b c).length = min (min a.length b.length) c.length := by simp [xor3]
theorem sum_xor3 (a b c : List UInt8) (h1 : a.length = b.length) (h2 : a.length = c.length) : sum (xor3 a b c) = sum a ^^^ sum b ^^^ sum c := by
  have e : ∀ x : W, x ^^^ x ^^^ x = x := fun x => by simp
  have h := feeds_xor (List.zipWith (· ^^^ ·) a b) c (~~~0#32 ^^^ ~~~0#32) (~~~0#32) (by simp; omega)
  rw [e, feeds_xor a b _ _ h1] at h
  show ~~~ feeds (~~~0#32) (xor3 a b c) = ~~~ feeds (~~~0#32) a ^^^ ~~~ feeds (~~~0#32) b ^^^ ~~~ feeds (~~~0#32) c
  unfold xor3
  rw [h]
  generalize feeds (~~~0#32) a = p
  generalize feeds (~~~0#32) b = q
  generalize feeds (~~~0#32) c = s
  apply BitVec.eq_of_getLsbD_eq
  intro i hi
  simp only [BitVec.getLsbD_not, BitVec.getLsbD_xor, hi, decide_true, Bool.true_and]
  cases p.getLsbD i <;> cases q.getLsbD i <;> cases s.getLsbD i <;> rfl
theorem xor3_get (a b c : List UInt8) (k : Nat) (x y z : UInt8) (ha : a[k]? = some x) (hb : b[k]? = some y) (hc : c[k]? = some z) : (xor3 a b c)[k]? = some (x ^^^ y ^^^ z) := by
  simp [xor3, List.getElem?_zipWith, ha, hb, hc]
theorem xor3_take (a b c : List UInt8) (n : Nat) (hn : n = min (min a.length b.length) c.length) : xor3 (a.take n) (b.take n) (c.take n) = xor3 a b c := by
  apply List.ext_getElem?
  intro k
  simp only [xor3, List.getElem?_zipWith, List.getElem?_take]
  by_cases hk : k < n
  · simp [hk]
  · have : (a[k]? = none) ∨ b[k]? = none ∨ c[k]? = none := by
      simp only [List.getElem?_eq_none_iff]; omega
    simp only [hk, if_false]
    rcases this with h | h | h <;> simp [h]
/-- A text that is filled from the left. -/
def fillTo (xs : List UInt8) (k : Nat) : List UInt8 := xs.take k ++ List.replicate (xs.length - k) 0
theorem fillTo_length (xs : List UInt8) (k : Nat) : (fillTo xs k).length = xs.length := by simp [fillTo]; omega
theorem fillTo_zero (xs : List UInt8) : fillTo xs 0 = List.replicate xs.length 0 := by simp [fillTo]
theorem fillTo_all (xs : List UInt8) : fillTo xs xs.length = xs := by simp [fillTo]
theorem fillTo_set (xs : List UInt8) (k : Nat) (x : UInt8) (hx : xs[k]? = some x) : (fillTo xs k).set k x = fillTo xs (k + 1) := by
  have hk : k < xs.length := (List.getElem?_eq_some_iff.1 hx).1
  have ht : (xs.take k).length = k := by simp; omega
  unfold fillTo
  rw [List.take_add_one, hx, show xs.length - k = (xs.length - (k + 1)) + 1 from by omega, List.replicate_succ, List.set_append]
  simp [ht]
theorem bv_set (l : List UInt8) (k : Nat) (x : UInt8) : (bv l).set k (.int .u8 (x.toNat : Int)) = bv (l.set k x) := by simp [bv, List.map_set]
section
variable {P : Program} {ρ : Operand → Value} {h : Heap} {K : Value → Heap → Prop} {dst : Option Tmp} {ty : TypeId} {pos : String} {aft : Array Edge} {g : Option (Nat × Bool)} {t t' : TypeId} {x y : Operand}
theorem op_x8 {a b : UInt8} (hx : ρ x = .int .u8 (a.toNat : Int)) (hy : ρ y = .int .u8 (b.toNat : Int)) (kk : K (.int .u8 ((a ^^^ b).toNat : Int)) h) : AOp P ⟨dst, .binOp .xor t x y t', ty, pos, aft, g⟩ ρ h K :=
  op_int hx hy (v := .int .u8 ((a ^^^ b).toNat : Int)) (by
    simp only [binI, if_true]
    show some (Value.int .u8 (IntKind.u8.wrap ((BitVec.ofInt 8 (a.toNat : Int) ^^^ BitVec.ofInt 8 (b.toNat : Int)).toNat : Int))) = _
    have e : ∀ c : UInt8, BitVec.ofInt 8 (c.toNat : Int) = c.toBitVec := fun c => by
      apply BitVec.eq_of_toNat_eq
      have := c.toNat_lt
      simp
    rw [e, e, IntKind.wrap_u8]
    have h1 : (a.toBitVec ^^^ b.toBitVec).toNat = (a ^^^ b).toNat := rfl
    have := (a ^^^ b).toNat_lt
    rw [h1]
    congr 2
    omega) kk
end
end Go.Crc
