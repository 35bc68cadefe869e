/-
  Bits that are turned over: what becomes of the sum.
-/
import Derived.Test.YtdfehmmhlplhlaaCrcXor
namespace Go.Crc
open Go Go.Eng

theorem it_it {α : Type} (f : α → α) (k : Nat) : ∀ n x, it (it f k) n x = it f (k * n) x
  | 0, x => by simp [it]
  | n + 1, x => by
    show it (it f k) n (it f k x) = _
    rw [it_it f k n, ← it_add, Nat.mul_succ, Nat.add_comm]
theorem it_step8 (n : Nat) (x : W) : it step8 n x = it fall (8 * n) x := it_it fall 8 n x
/-- A bit of a register, behind as many bits. -/
theorem bit_zero : bit 0 = 1#32 := by decide
theorem it_bit (k : Nat) (hk : k < 32) : it fall k (bit k) = 1#32 := by
  rw [it_fall_shift, ← bit_zero]
  · apply BitVec.eq_of_getLsbD_eq
    intro i hi
    rw [BitVec.getLsbD_ushiftRight, bit_get 0 i hi]
    by_cases h : k + i < 32
    · rw [bit_get k _ h]
      congr 1
      exact propext ⟨fun e => by omega, fun e => by omega⟩
    · rw [BitVec.getLsbD_of_ge _ _ (by omega), decide_eq_false (by omega)]
  · intro i hi
    rw [bit_get k i (by omega)]
    exact decide_eq_false (by omega)
/-- One bit turned over. -/
def flip (l : List UInt8) (k : Nat) : List UInt8 :=
  match l[k / 8]? with
  | some b => l.set (k / 8) (b ^^^ UInt8.ofNat (1 <<< (k % 8)))
  | none => l
def flips (l : List UInt8) (ks : List Nat) : List UInt8 := ks.foldl flip l
theorem flip_length (l : List UInt8) (k : Nat) : (flip l k).length = l.length := by
  unfold flip
  split <;> simp
theorem flips_length (l : List UInt8) (ks : List Nat) : (flips l ks).length = l.length := by
  induction ks generalizing l with
  | nil => rfl
  | cons k ks ih =>
    show (flips (flip l k) ks).length = _
    rw [ih, flip_length]
/-- The image of the bit that is so many places ahead of the end. -/
def img (n : Nat) : W := it fall n 1#32
theorem ofB_bit (k : Nat) (hk : k < 8) : ofB (UInt8.ofNat (1 <<< k)) = bit k := by
  match k, hk with
  | 0, _ | 1, _ | 2, _ | 3, _ | 4, _ | 5, _ | 6, _ | 7, _ => decide
theorem feed_flip (r : W) (b : UInt8) (k : Nat) (hk : k < 8) : feed r (b ^^^ UInt8.ofNat (1 <<< k)) = img (8 - k) ^^^ feed r b := by
  unfold feed
  rw [ofB_xor, ofB_bit k hk, ← BitVec.xor_assoc, lin_step8, BitVec.xor_comm]
  congr 1
  show it fall 8 (bit k) = it fall (8 - k) 1#32
  rw [← it_bit k (by omega), ← it_add]
  congr 1
  omega
theorem feeds_flip : ∀ (l : List UInt8) (k : Nat) (r : W), k < 8 * l.length → feeds r (flip l k) = img (8 * l.length - k) ^^^ feeds r l
  | [], k, r, h => by simp at h
  | b :: l, k, r, h => by
    by_cases hk : k < 8
    · have h0 : k / 8 = 0 := by omega
      have h1 : k % 8 = k := by omega
      simp only [flip, h0, h1, List.getElem?_cons_zero, List.set_cons_zero, feeds, List.foldl_cons]
      rw [feed_flip r b k hk]
      show feeds (img (8 - k) ^^^ feed r b) l = _
      rw [feeds_split, it_step8]
      show it fall (8 * l.length) (it fall (8 - k) 1#32) ^^^ _ = _
      rw [← it_add]
      congr 2
      simp only [List.length_cons]
      omega
    · have hd : flip (b :: l) k = b :: flip l (k - 8) := by
        have h0 : k / 8 = (k - 8) / 8 + 1 := by omega
        have h1 : k % 8 = (k - 8) % 8 := by omega
        unfold flip
        rw [h0, h1, List.getElem?_cons_succ]
        split <;> simp [List.set_cons_succ]
      rw [hd]
      simp only [feeds, List.foldl_cons]
      have := feeds_flip l (k - 8) (feed r b) (by simp at h; omega)
      unfold feeds at this
      rw [this]
      congr 2
      simp only [List.length_cons]
      omega
/-- The images of bits. -/
def imgs (n : Nat) (ks : List Nat) : W := ks.foldr (fun k x => img (8 * n - k) ^^^ x) 0#32
theorem feeds_flips : ∀ (ks : List Nat) (l : List UInt8) (r : W), (∀ k ∈ ks, k < 8 * l.length) → feeds r (flips l ks) = imgs l.length ks ^^^ feeds r l
  | [], l, r, _ => by simp [flips, imgs]
  | k :: ks, l, r, h => by
    show feeds r (flips (flip l k) ks) = _
    rw [feeds_flips ks (flip l k) r (by intro x hx; rw [flip_length]; exact h x (by simp [hx])), flip_length, feeds_flip l k r (h k (by simp)), ← BitVec.xor_assoc, BitVec.xor_comm (imgs _ _)]
    rfl
theorem sum_flips (ks : List Nat) (l : List UInt8) (h : ∀ k ∈ ks, k < 8 * l.length) : sum (flips l ks) = sum l ↔ imgs l.length ks = 0#32 := by
  show ~~~ feeds (~~~0#32) (flips l ks) = ~~~ feeds (~~~0#32) l ↔ _
  rw [feeds_flips ks l _ h]
  generalize feeds (~~~0#32) l = y
  generalize imgs l.length ks = x
  constructor
  · intro e
    have h1 : x ^^^ y = y := by
      have := congrArg (fun z : W => ~~~ z) e
      simpa using this
    have h2 : x ^^^ y ^^^ y = y ^^^ y := by rw [h1]
    rw [BitVec.xor_assoc, BitVec.xor_self] at h2
    simpa using h2
  · rintro rfl
    simp
end Go.Crc
