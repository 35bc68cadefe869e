/-
  Two, three, or a row of bits that are turned over.
-/
import Derived.Test.YtbcimgjmidmklaaCrcGuard
namespace Go.Crc
open Go Go.Eng

theorem flip_flip (l : List UInt8) (k : Nat) : flip (flip l k) k = l := by
  unfold flip
  cases h : l[k / 8]? with
  | none => simp [h]
  | some b =>
    have hl : k / 8 < l.length := (List.getElem?_eq_some_iff.1 h).1
    simp only [List.getElem?_set, hl, if_true, List.set_set]
    rw [UInt8.xor_assoc, UInt8.xor_self, UInt8.xor_zero]
    exact List.ext_getElem? fun j => by
      rw [List.getElem?_set]
      split
      · rename_i e
        subst e
        have := List.getElem?_eq_some_iff.1 h
        simp [hl, this.2]
      · rfl
theorem guard3 (ks : List Nat) (l : List UInt8) (h3 : ks.length ≤ 3) (hl : l.length ≤ 9000) (hk : ∀ k ∈ ks, k < 8 * l.length) (h : sum (flips l ks) = sum l) : flips l ks = l := by
  rw [sum_flips ks l hk] at h
  match ks, h3, hk, h with
  | [], _, _, _ => rfl
  | [x], _, _, h => exact absurd h (imgs_odd _ _ (by simp))
  | [x, y, z], _, _, h => exact absurd h (imgs_odd _ _ (by simp))
  | [x, y], _, hk, h =>
    have hx := hk x (by simp)
    have hy := hk y (by simp)
    have e : img (8 * l.length - x) = img (8 * l.length - y) := by
      simp only [imgs, List.foldr_cons, List.foldr_nil, BitVec.xor_zero] at h
      have h2 := congrArg (fun z => z ^^^ img (8 * l.length - y)) h
      simpa [BitVec.xor_assoc] using h2
    have := img_inj _ _ (by omega) (by omega) e
    obtain rfl : x = y := by omega
    exact flip_flip l x
/-- The places of a burst's bits. -/
def brow (first : Nat) (x : W) : Nat → List Nat
  | 0 => []
  | i + 1 => brow first x i ++ (if x.getLsbD i then [first + i] else [])
theorem row_mem (first : Nat) (x : W) : ∀ K k, k ∈ brow first x K → k < first + K
  | 0, _, h => by simp [brow] at h
  | K + 1, k, h => by
    simp only [brow, List.mem_append] at h
    rcases h with h | h
    · have := row_mem first x K k h
      omega
    · split at h
      · simp at h; omega
      · simp at h
theorem imgs_append (n : Nat) (a b : List Nat) : imgs n (a ++ b) = imgs n a ^^^ imgs n b := by
  induction a with
  | nil => simp [imgs]
  | cons k a ih =>
    show img (8 * n - k) ^^^ imgs n (a ++ b) = (img (8 * n - k) ^^^ imgs n a) ^^^ imgs n b
    rw [ih, BitVec.xor_assoc]
theorem low_succ' (x : W) (k : Nat) (hk : k < 32) : low x (k + 1) = low x k ^^^ (if x.getLsbD k then bit k else 0#32) := by
  apply BitVec.eq_of_getLsbD_eq
  intro i hi
  rw [BitVec.getLsbD_xor, low_get _ _ _ hi, low_get _ _ _ hi]
  by_cases hx : x.getLsbD k
  · rw [if_pos hx, bit_get k i hi]
    rcases Nat.lt_trichotomy i k with h | h | h
    · simp [h, show i < k + 1 from by omega, show i ≠ k from by omega]
    · subst h; simp [hx]
    · simp [show ¬ i < k from by omega, show ¬ i < k + 1 from by omega, show i ≠ k from by omega]
  · rw [if_neg hx]
    rcases Nat.lt_trichotomy i k with h | h | h
    · simp [h, show i < k + 1 from by omega]
    · subst h; simp [hx]
    · simp [show ¬ i < k from by omega, show ¬ i < k + 1 from by omega]
theorem imgs_row (n first : Nat) (x : W) : ∀ K, K ≤ 32 → first + K ≤ 8 * n → imgs n (brow first x K) = it fall (8 * n - first) (low x K)
  | 0, _, _ => by rw [low_zero, (lin_fall.it _).zero]; rfl
  | K + 1, h1, h2 => by
    rw [brow, imgs_append, imgs_row n first x K (by omega) (by omega), low_succ' x K (by omega), lin_fall.it]
    congr 1
    by_cases hx : x.getLsbD K
    · rw [if_pos hx, if_pos hx]
      show img (8 * n - (first + K)) ^^^ 0#32 = _
      rw [BitVec.xor_zero]
      show it fall _ 1#32 = _
      rw [← it_bit K (by omega), ← it_add]
      congr 1
      omega
    · rw [if_neg hx, if_neg hx, (lin_fall.it _).zero]
      rfl
theorem row_low (first : Nat) (x : W) : ∀ K, K ≤ 32 → low x K = 0#32 → brow first x K = []
  | 0, _, _ => rfl
  | K + 1, h1, h => by
    have hb : ∀ i, i < K + 1 → x.getLsbD i = false := by
      intro i hi
      have := congrArg (fun z : W => z.getLsbD i) h
      simp only [low_get x (K + 1) i (by omega), hi, decide_true, Bool.true_and] at this
      simpa using this
    have hlow : low x K = 0#32 := by
      have e := low_succ' x K (by omega)
      rw [h, hb K (by omega)] at e
      simpa using e.symm
    rw [brow, row_low first x K (by omega) hlow, hb K (by omega)]
    rfl
theorem guardRow (first : Nat) (x : W) (K : Nat) (l : List UInt8) (hK : K ≤ 32) (hf : first + K ≤ 8 * l.length) (h : sum (flips l (brow first x K)) = sum l) : flips l (brow first x K) = l := by
  rw [sum_flips _ l (fun k hk => by have := row_mem _ _ _ _ hk; omega), imgs_row _ _ _ _ hK hf] at h
  rw [row_low first x K hK (it_zero _ _ h)]
  rfl
end Go.Crc
