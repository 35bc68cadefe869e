/-
  A linear map by its 32 columns.
-/
import Derived.Test.YtdfehmmhlplhlaaCrcOps
namespace Go.Crc
open Go Go.Eng

def bit (k : Nat) : W := 1#32 <<< k
theorem bit_get (k i : Nat) (hi : i < 32) : (bit k).getLsbD i = decide (i = k) := by
  simp only [bit, BitVec.getLsbD_shiftLeft, BitVec.getLsbD_ofNat]
  by_cases h : i < k
  · have : ¬ i = k := by omega
    simp [h, this]
  · by_cases h2 : i = k
    · subst h2
      simp [hi]
    · have h3 : ¬ i - k = 0 := by omega
      have h4 : Nat.testBit 1 (i - k) = false := Nat.testBit_lt_two_pow (Nat.one_lt_two_pow h3)
      simp [h2, h4]
/-- The bits below k. -/
def low (x : W) (k : Nat) : W := BitVec.ofNat 32 (x.toNat % 2 ^ k)
theorem low_get (x : W) (k i : Nat) (hi : i < 32) : (low x k).getLsbD i = (decide (i < k) && x.getLsbD i) := by
  simp only [low, BitVec.getLsbD_ofNat, Nat.testBit_mod_two_pow]
  simp [hi, BitVec.getLsbD]
theorem low_all (x : W) : low x 32 = x := by
  apply BitVec.eq_of_getLsbD_eq
  intro i hi
  rw [low_get _ _ _ hi]
  simp [hi]
theorem low_zero (x : W) : low x 0 = 0#32 := by
  apply BitVec.eq_of_getLsbD_eq
  intro i hi
  rw [low_get _ _ _ hi]
  simp
theorem low_next (x : W) (k : Nat) : low x (k + 1) = if x.getLsbD k then low x k ^^^ bit k else low x k := by
  apply BitVec.eq_of_getLsbD_eq
  intro i hi
  by_cases hk : x.getLsbD k = true
  · rw [if_pos hk, BitVec.getLsbD_xor, low_get _ _ _ hi, low_get _ _ _ hi, bit_get _ _ hi]
    by_cases h : i = k
    · subst h; simp [hk]
    · have : i < k + 1 ↔ i < k := by omega
      simp [h, this]
  · rw [if_neg hk, low_get _ _ _ hi, low_get _ _ _ hi]
    by_cases h : i = k
    · subst h; simp at hk; simp [hk]
    · have : i < k + 1 ↔ i < k := by omega
      simp [this]
def thr (L : W → W) (x : W) : Nat → W
  | 0 => 0#32
  | k + 1 => if x.getLsbD k then thr L x k ^^^ L (bit k) else thr L x k
theorem thr_low {L : W → W} (hL : Lin L) (x : W) : ∀ k, thr L x k = L (low x k)
  | 0 => by rw [low_zero, hL.zero]; rfl
  | k + 1 => by
    rw [low_next, thr, thr_low hL x k]
    split
    · rw [hL]
    · rfl
theorem thr_all {L : W → W} (hL : Lin L) (x : W) : thr L x 32 = L x := by rw [thr_low hL, low_all]

/-- The cells of a row. -/
def rowF (f : Nat → W) : List Value := (List.range 32).map fun k => u32 (f k)
theorem rowF_length (f : Nat → W) : (rowF f).length = 32 := by simp [rowF]
theorem rowF_get (f : Nat → W) (k : Nat) (hk : k < 32) : (rowF f)[k]? = some (u32 (f k)) := by simp [rowF, hk]
theorem rowF_congr {f f' : Nat → W} (hf : ∀ k, k < 32 → f k = f' k) : rowF f = rowF f' := by
  apply List.ext_getElem?
  intro k
  by_cases hk : k < 32
  · rw [rowF_get _ k hk, rowF_get _ k hk, hf k hk]
  · rw [List.getElem?_eq_none (by simp [rowF_length]; omega), List.getElem?_eq_none (by simp [rowF_length]; omega)]
theorem rowF_set (f : Nat → W) (i : Nat) (v : W) : (rowF f).set i (u32 v) = rowF fun k => if k = i then v else f k := by
  apply List.ext_getElem?
  intro k
  by_cases hk : k < 32
  · rw [rowF_get _ k hk, List.getElem?_set, rowF_length]
    by_cases hi : i = k
    · subst hi; simp [hk]
    · rw [if_neg hi, rowF_get _ k hk, if_neg (fun e => hi e.symm)]
  · rw [List.getElem?_eq_none (by simp [rowF_length]; omega), List.getElem?_eq_none (by simp [rowF_length]; omega)]
theorem rowF_one (f : Nat → W) : (rowF f).all oneB = true := List.all_eq_true.2 (by intro v hv; obtain ⟨k, _, rfl⟩ := List.mem_map.1 hv; rfl)
theorem rowF_scalar (f : Nat → W) : (rowF f).all scalar = true := List.all_eq_true.2 (by intro v hv; obtain ⟨k, _, rfl⟩ := List.mem_map.1 hv; rfl)
theorem rowF_zero : List.replicate 32 (Value.int .u32 0) = rowF fun _ => 0#32 := by
  apply List.ext_getElem?
  intro k
  by_cases hk : k < 32
  · rw [rowF_get _ k hk, List.getElem?_replicate, if_pos hk]; rfl
  · rw [List.getElem?_eq_none (by rw [List.length_replicate]; omega), List.getElem?_eq_none (by rw [rowF_length]; omega)]
attribute [irreducible] rowF
/-- The columns of a map. -/
def row (L : W → W) : List Value := rowF fun k => L (bit k)
theorem row_get (L : W → W) (k : Nat) (hk : k < 32) : (row L)[k]? = some (u32 (L (bit k))) := rowF_get _ _ hk
theorem row_length (L : W → W) : (row L).length = 32 := rowF_length _
/-- So many of them are made. -/
def made (M : W → W) (n k : Nat) : W := if k < n then M (bit k) else 0#32
theorem made_set (M : W → W) (n : Nat) : (rowF (made M n)).set n (u32 (M (bit n))) = rowF (made M (n + 1)) := by
  rw [rowF_set]
  refine rowF_congr fun k hk => ?_
  unfold made
  by_cases h1 : k = n
  · subst h1; simp
  · rw [if_neg h1]
    have : k < n ↔ k < n + 1 := by omega
    simp only [this]
theorem made_zero (M : W → W) : rowF (made M 0) = rowF fun _ => 0#32 := rowF_congr fun k _ => by simp [made]
theorem made_all (M : W → W) : rowF (made M 32) = row M := rowF_congr fun k hk => by simp [made, hk]
theorem row_store (L : W → W) (f : Nat → W) : splice (rowF f) 0 (row L).toArray.toList = row L := by
  simp [splice, row, rowF_length]
theorem row_all (L : W → W) : (List.drop 0 (row L)).take 32 = row L := by rw [List.drop_zero, List.take_of_length_le (by rw [row_length]; omega)]
end Go.Crc
