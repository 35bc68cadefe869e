/-
  CRC-32C, in plain Lean: registers, runs, linearity. No program is in sight.
-/
import Derived.Test.YtdfehmmhlplhlaaEngL
namespace Go.Crc
open Go Go.Eng

abbrev W := BitVec 32
def poly : W := 0x82f63b78#32
/-- One bit. -/
def fall (r : W) : W := (r >>> 1) ^^^ (if r.getLsbD 0 then poly else 0#32)
def it {α : Type} (f : α → α) : Nat → α → α
  | 0, x => x
  | n + 1, x => it f n (f x)
def step8 (r : W) : W := it fall 8 r
def ofB (b : UInt8) : W := BitVec.ofNat 32 b.toNat
def feed (r : W) (b : UInt8) : W := step8 (r ^^^ ofB b)
def feeds (r : W) (l : List UInt8) : W := l.foldl feed r
def more (s : W) (l : List UInt8) : W := ~~~ feeds (~~~ s) l
def sum (l : List UInt8) : W := more 0#32 l

def Lin (L : W → W) : Prop := ∀ a b, L (a ^^^ b) = L a ^^^ L b
theorem Lin.zero {L : W → W} (h : Lin L) : L 0#32 = 0#32 := by
  have h1 := h 0#32 0#32
  have h2 : (0#32 : W) ^^^ 0#32 = 0#32 := by simp
  rw [h2] at h1
  have h3 : L 0#32 ^^^ L 0#32 = 0#32 := by simp
  rw [h3] at h1
  exact h1
theorem lin_fall : Lin fall := by
  intro a b
  apply BitVec.eq_of_getLsbD_eq
  intro i hi
  simp only [fall, BitVec.getLsbD_xor, BitVec.getLsbD_ushiftRight]
  cases ha : a.getLsbD 0 <;> cases hb : b.getLsbD 0 <;> simp <;> cases a.getLsbD (1 + i) <;> cases b.getLsbD (1 + i) <;> cases poly.getLsbD i <;> rfl
theorem Lin.it {L : W → W} (h : Lin L) : ∀ n, Lin (it L n)
  | 0 => fun _ _ => rfl
  | n + 1 => fun a b => by
    simp only [Crc.it]
    rw [h a b]
    exact Lin.it h n _ _
theorem lin_step8 : Lin step8 := lin_fall.it 8
theorem Lin.comp {L M : W → W} (h : Lin L) (k : Lin M) : Lin (fun x => L (M x)) := fun a b => by simp only [k a b, h (M a) (M b)]

theorem it_add {α : Type} (f : α → α) : ∀ m n x, it f (m + n) x = it f n (it f m x)
  | 0, n, x => by simp [it]
  | m + 1, n, x => by
    rw [show m + 1 + n = (m + n) + 1 from by omega]
    simp only [it]
    exact it_add f m n (f x)
theorem it_succ {α : Type} (f : α → α) (n : Nat) (x : α) : it f (n + 1) x = f (it f n x) := it_add f n 1 x
theorem it_dbl {α : Type} (f : α → α) : ∀ n x, it (fun y => f (f y)) n x = it f (2 * n) x
  | 0, x => rfl
  | n + 1, x => by
    rw [show 2 * (n + 1) = 2 * n + 1 + 1 from by omega]
    simp only [it]
    exact it_dbl f n _
theorem it_odd {α : Type} (f : α → α) (n : Nat) (x : α) (h : n % 2 = 1) : it f n x = it (fun y => f (f y)) (n / 2) (f x) := by
  rw [it_dbl]
  have : n = 2 * (n / 2) + 1 := by omega
  rw [show it f n x = it f (2 * (n / 2) + 1) x from by rw [← this]]
  rfl
theorem it_even {α : Type} (f : α → α) (n : Nat) (x : α) (h : n % 2 = 0) : it f n x = it (fun y => f (f y)) (n / 2) x := by
  rw [it_dbl]
  congr 1
  omega

/-! The bytes of a register. -/
def byteOf (r : W) (k : Nat) : Nat := (r.toNat / 2 ^ (8 * k)) % 256
/-- The register of which byte k / 256 alone is k % 256. -/
def ent (k : Nat) : W := BitVec.ofNat 32 (k % 256) <<< (8 * (k / 256))
theorem ent_get (b a i : Nat) (hb : b < 256) (ha : a < 4) (hi : i < 32) : (ent (a * 256 + b)).getLsbD i = (decide (8 * a ≤ i) && b.testBit (i - 8 * a)) := by
  have h1 : (a * 256 + b) % 256 = b := by omega
  have h2 : (a * 256 + b) / 256 = a := by omega
  simp only [ent, h1, h2, BitVec.getLsbD_shiftLeft, BitVec.getLsbD_ofNat]
  by_cases h3 : 8 * a ≤ i
  · have h4 : ¬ i < 8 * a := by omega
    have h5 : i - 8 * a < 32 := by omega
    simp [hi, h3, h4, h5]
  · have h4 : i < 8 * a := by omega
    simp [h3, h4]
theorem testBit_byteOf (r : W) (k i : Nat) : (byteOf r k).testBit i = (decide (i < 8) && r.getLsbD (8 * k + i)) := by
  unfold byteOf
  rw [show (256 : Nat) = 2 ^ 8 from rfl, Nat.testBit_mod_two_pow, ← Nat.shiftRight_eq_div_pow, Nat.testBit_shiftRight]
  rfl
theorem byteOf_lt (r : W) (k : Nat) : byteOf r k < 256 := Nat.mod_lt _ (by omega)
theorem bytes_xor (r : W) : r = ent (0 * 256 + byteOf r 0) ^^^ ent (1 * 256 + byteOf r 1) ^^^ ent (2 * 256 + byteOf r 2) ^^^ ent (3 * 256 + byteOf r 3) := by
  apply BitVec.eq_of_getLsbD_eq
  intro i hi
  simp only [BitVec.getLsbD_xor]
  rw [ent_get _ 0 i (byteOf_lt r 0) (by omega) hi, ent_get _ 1 i (byteOf_lt r 1) (by omega) hi, ent_get _ 2 i (byteOf_lt r 2) (by omega) hi, ent_get _ 3 i (byteOf_lt r 3) (by omega) hi]
  simp only [testBit_byteOf]
  by_cases h1 : i < 8
  · have e1 : ¬ 8 ≤ i := by omega
    have e2 : ¬ 16 ≤ i := by omega
    have e3 : ¬ 24 ≤ i := by omega
    simp [h1, e1, e2, e3]
  · by_cases h2 : i < 16
    · have e1 : 8 ≤ i := by omega
      have e2 : ¬ 16 ≤ i := by omega
      have e3 : ¬ 24 ≤ i := by omega
      have e4 : i - 8 < 8 := by omega
      have e5 : 8 + (i - 8) = i := by omega
      simp [h1, e1, e2, e3, e4, e5]
    · by_cases h3 : i < 24
      · have e1 : 8 ≤ i := by omega
        have e2 : 16 ≤ i := by omega
        have e3 : ¬ 24 ≤ i := by omega
        have e4 : ¬ i - 8 < 8 := by omega
        have e5 : i - 16 < 8 := by omega
        have e6 : 16 + (i - 16) = i := by omega
        simp [h1, e1, e2, e3, e4, e5, e6]
      · have e1 : 8 ≤ i := by omega
        have e2 : 16 ≤ i := by omega
        have e3 : 24 ≤ i := by omega
        have e4 : ¬ i - 8 < 8 := by omega
        have e5 : ¬ i - 16 < 8 := by omega
        have e6 : i - 24 < 8 := by omega
        have e7 : 24 + (i - 24) = i := by omega
        simp [h1, e1, e2, e3, e4, e5, e6, e7]
theorem Lin.bytes {L : W → W} (h : Lin L) (r : W) : L r = L (ent (0 * 256 + byteOf r 0)) ^^^ L (ent (1 * 256 + byteOf r 1)) ^^^ L (ent (2 * 256 + byteOf r 2)) ^^^ L (ent (3 * 256 + byteOf r 3)) := by
  rw [← h, ← h, ← h, ← bytes_xor]

/-- A register whose low bits are noughts falls without a feedback. -/
theorem fall_even (r : W) (h : r.getLsbD 0 = false) : fall r = r >>> 1 := by
  unfold fall
  rw [h]
  simp
theorem it_fall_shift (r : W) : ∀ n, (∀ i, i < n → r.getLsbD i = false) → it fall n r = r >>> n
  | 0, _ => by simp [it]
  | n + 1, h => by
    have h1 := it_add fall n 1 r
    rw [h1, it_fall_shift r n (fun i hi => h i (by omega))]
    simp only [it]
    rw [fall_even]
    · rw [BitVec.shiftRight_add]
    · rw [BitVec.getLsbD_ushiftRight]
      simpa using h n (by omega)
theorem step8_shift (r : W) (h : ∀ i, i < 8 → r.getLsbD i = false) : step8 r = r >>> 8 := it_fall_shift r 8 h

/-- A table's row: one byte at once. -/
theorem step8_byte (s : W) : step8 s = step8 (ent (byteOf s 0)) ^^^ (s >>> 8) := by
  have hx : s = ent (byteOf s 0) ^^^ ((s >>> 8) <<< 8) := by
    apply BitVec.eq_of_getLsbD_eq
    intro i hi
    have := ent_get (byteOf s 0) 0 i (byteOf_lt s 0) (by omega) hi
    simp only [Nat.zero_mul, Nat.zero_add, Nat.mul_zero, Nat.zero_le, decide_true, Bool.true_and, Nat.sub_zero] at this
    simp only [BitVec.getLsbD_xor, this, testBit_byteOf, BitVec.getLsbD_shiftLeft, BitVec.getLsbD_ushiftRight]
    by_cases h1 : i < 8
    · simp [h1]
    · have e : 8 + (i - 8) = i := by omega
      simp [h1, hi, e]
  have h2 : step8 ((s >>> 8) <<< 8) = s >>> 8 := by
    rw [step8_shift]
    · apply BitVec.eq_of_getLsbD_eq
      intro i hi
      simp only [BitVec.getLsbD_ushiftRight, BitVec.getLsbD_shiftLeft]
      by_cases h1 : 8 + i < 32
      · have e : 8 + i - 8 = i := by omega
        simp [h1]
      · have : s.getLsbD (8 + i) = false := BitVec.getLsbD_of_ge s _ (by omega)
        simp [h1, this]
    · intro i hi
      simp only [BitVec.getLsbD_shiftLeft]
      simp [hi]
  calc step8 s = step8 (ent (byteOf s 0) ^^^ ((s >>> 8) <<< 8)) := by rw [← hx]
    _ = step8 (ent (byteOf s 0)) ^^^ step8 ((s >>> 8) <<< 8) := lin_step8 _ _
    _ = step8 (ent (byteOf s 0)) ^^^ (s >>> 8) := by rw [h2]
/-- The run of one nought, at a byte that is not the lowest. -/
theorem step8_ent (b a : Nat) (hb : b < 256) (ha : a < 3) : step8 (ent ((a + 1) * 256 + b)) = ent (a * 256 + b) := by
  rw [step8_shift]
  · apply BitVec.eq_of_getLsbD_eq
    intro i hi
    rw [BitVec.getLsbD_ushiftRight, ent_get b a i hb (by omega) hi]
    by_cases h1 : 8 + i < 32
    · rw [ent_get b (a + 1) _ hb (by omega) h1]
      have e1 : (8 * (a + 1) ≤ 8 + i) ↔ (8 * a ≤ i) := by omega
      have e2 : 8 + i - 8 * (a + 1) = i - 8 * a := by omega
      simp [e1, e2]
    · rw [BitVec.getLsbD_of_ge _ _ (by omega)]
      have h2 : b.testBit (i - 8 * a) = false := Nat.testBit_lt_two_pow (Nat.lt_of_lt_of_le hb (by
        have : (256 : Nat) = 2 ^ 8 := rfl
        rw [this]
        exact Nat.pow_le_pow_right (by omega) (by omega)))
      simp [h2]
  · intro i hi
    rw [ent_get b (a + 1) i hb (by omega) (by omega)]
    have : ¬ 8 * (a + 1) ≤ i := by omega
    simp [this]

theorem feeds_append (r : W) (a b : List UInt8) : feeds r (a ++ b) = feeds (feeds r a) b := by simp [feeds]
theorem more_append (s : W) (a b : List UInt8) : more s (a ++ b) = more (more s a) b := by simp [more, feeds_append]
theorem more_sum (a b : List UInt8) : more (sum a) b = sum (a ++ b) := (more_append _ _ _).symm
theorem feeds_zeros : ∀ (n : Nat) (r : W), feeds r (List.replicate n 0) = it step8 n r
  | 0, r => rfl
  | n + 1, r => by
    have : feed r 0 = step8 r := by simp [feed, ofB]
    simp only [List.replicate_succ, feeds, List.foldl_cons, this, it]
    exact feeds_zeros n _
/-- What a register makes of bytes: its own run, and theirs. -/
theorem feeds_split : ∀ (l : List UInt8) (r s : W), feeds (r ^^^ s) l = it step8 l.length r ^^^ feeds s l
  | [], r, s => rfl
  | b :: l, r, s => by
    simp only [feeds, List.foldl_cons, List.length_cons, it]
    have h : feed (r ^^^ s) b = step8 r ^^^ feed s b := by
      unfold feed
      rw [BitVec.xor_assoc, lin_step8]
    rw [h]
    exact feeds_split l _ _
theorem not_xor (z : W) : ~~~ z = z ^^^ ~~~ (0#32 : W) := by
  have : ∀ o : W, o = 0#32 → ~~~ z = z ^^^ ~~~ o := by
    intro o ho
    apply BitVec.eq_of_getLsbD_eq
    intro i hi
    rw [BitVec.getLsbD_not, BitVec.getLsbD_xor, BitVec.getLsbD_not, ho, BitVec.getLsbD_zero]
    simp [hi]
  exact this _ rfl
theorem sum_append (a b : List UInt8) : sum (a ++ b) = it step8 b.length (sum a) ^^^ sum b := by
  rw [← more_sum]
  have h1 : more (sum a) b = ~~~ feeds (sum a ^^^ ~~~ (0#32 : W)) b := by rw [← not_xor]; rfl
  rw [h1, feeds_split]
  have h2 : sum b = ~~~ feeds (~~~ (0#32 : W)) b := rfl
  rw [h2, not_xor (_ ^^^ _), not_xor (feeds _ b), BitVec.xor_assoc]
end Go.Crc
