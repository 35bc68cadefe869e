/-
  Whole numbers below 2^53 as floats: exact.
-/
import Derived.Test.YtdfehmmhlplhlaaEngE
import Derived.Laws.ComplexArith
namespace Go.Blm
open Go Go.Eng

/-- The float of a number. -/
def fl (n : Nat) : Nat := Ieee.double.write (.number false n 0)

theorem log2_lt {n k : Nat} (h : n < 2 ^ k) (hn : n ≠ 0) : n.log2 < k := (Nat.log2_lt hn).2 h

/-- A number's digits, at a place that is not above 0. -/
theorem cut0 (w : Ieee.Toward) (m : Nat) (h : w = .even ∨ w = .zero) : w.cut false m 0 = m := by
  unfold Ieee.Toward.cut
  rcases h with rfl | rfl <;> simp [Nat.mod_one]
theorem cutZ (w : Ieee.Toward) (n d : Nat) (h : w = .even ∨ w = .zero) : w.cut false (n * 2 ^ d) d = n := by
  by_cases hn : n = 0
  · subst hn
    unfold Ieee.Toward.cut
    rcases h with rfl | rfl <;> simp [Nat.shiftLeft_eq]
  have hlog : (n * 2 ^ d).log2 ≥ d := by
    have h1 : n * 2 ^ d ≠ 0 := Nat.mul_ne_zero hn (by simp)
    rw [ge_iff_le, Nat.le_log2 h1]
    exact Nat.le_mul_of_pos_left _ (by omega)
  have hmin : min d ((n * 2 ^ d).log2 + 2) = d := by omega
  have h2 : 0 < 2 ^ d := Nat.two_pow_pos d
  unfold Ieee.Toward.cut
  rw [hmin, Nat.shiftLeft_eq, Nat.one_mul]
  simp only [Nat.mul_mod_left, Nat.mul_div_cancel _ h2]
  rcases h with rfl | rfl
  · have : ¬ (2 ^ d < 2 * 0) := by omega
    have h3 : ¬ (2 ^ d = 2 * 0) := by omega
    simp
  · simp
theorem log2_mul (n k : Nat) (hn : n ≠ 0) : (n * 2 ^ k).log2 = n.log2 + k := by
  have h1 : 2 ^ n.log2 ≤ n := Nat.log2_self_le hn
  have h2 : n < 2 ^ (n.log2 + 1) := Nat.lt_log2_self
  have h3 : n * 2 ^ k ≠ 0 := Nat.mul_ne_zero hn (by simp)
  have h4 : n.log2 + k ≤ (n * 2 ^ k).log2 := by
    rw [Nat.le_log2 h3, Nat.pow_add]
    exact Nat.mul_le_mul_right _ h1
  have h5 : (n * 2 ^ k).log2 < n.log2 + 1 + k := by
    rw [Nat.log2_lt h3, Nat.pow_add]
    exact Nat.mul_lt_mul_of_pos_right h2 (Nat.two_pow_pos k)
  omega
/-- The rung of a number that is written at a place. -/
theorem nearest_eq (n k : Nat) (hn : n ≠ 0) (hb : n < 2 ^ 53) (_ : k ≤ 1074) :
    Ieee.double.nearest false (n * 2 ^ k) (-(k : Int)) = (n.log2 + 1022) * 2 ^ 52 + n * 2 ^ (52 - n.log2) := by
  have hl : n.log2 ≤ 52 := by have := log2_lt hb hn; omega
  have h0 : n * 2 ^ k ≠ 0 := Nat.mul_ne_zero hn (by simp)
  unfold Ieee.Format.nearest
  rw [if_neg h0, log2_mul n k hn]
  have e1 : (Ieee.double.leastPlace : Int) = -1074 := by decide
  have e2 : (Ieee.double.fractionBits : Int) = 52 := rfl
  have hlast : max (-(k : Int) + ((n.log2 + k : Nat) : Int) - (Ieee.double.fractionBits : Int)) Ieee.double.leastPlace = (n.log2 : Int) - 52 := by
    rw [e1, e2]; push_cast; omega
  have hkept : Ieee.Toward.even.cut false ((n * 2 ^ k) <<< (-(k : Int) - ((n.log2 : Int) - 52)).toNat) ((n.log2 : Int) - 52 - -(k : Int)).toNat = n * 2 ^ (52 - n.log2) := by
    rw [Nat.shiftLeft_eq]
    by_cases hc : k ≤ 52 - n.log2
    · rw [show ((n.log2 : Int) - 52 - -(k : Int)).toNat = 0 from by omega, cut0 _ _ (.inl rfl), Nat.mul_assoc, ← Nat.pow_add]
      congr 2
      omega
    · rw [show (-(k : Int) - ((n.log2 : Int) - 52)).toNat = 0 from by omega, Nat.pow_zero, Nat.mul_one]
      rw [show n * 2 ^ k = n * 2 ^ (52 - n.log2) * 2 ^ ((n.log2 : Int) - 52 - -(k : Int)).toNat from by
        rw [Nat.mul_assoc, ← Nat.pow_add]; congr 2; omega]
      exact cutZ _ _ _ (.inl rfl)
  simp only []
  rw [hlast, hkept, e1]
  have hlt : n * 2 ^ (52 - n.log2) < 2 ^ 53 := by
    have h1 : n < 2 ^ (n.log2 + 1) := Nat.lt_log2_self
    calc n * 2 ^ (52 - n.log2) < 2 ^ (n.log2 + 1) * 2 ^ (52 - n.log2) := Nat.mul_lt_mul_of_pos_right h1 (Nat.two_pow_pos _)
      _ = 2 ^ 53 := by rw [← Nat.pow_add]; congr 1; omega
  have e3 : Ieee.double.binade = 2 ^ 52 := rfl
  have e4 : Ieee.double.infRung = 2047 * 2 ^ 52 := by decide
  rw [e3, e4]
  have e5 : ((n.log2 : Int) - 52 - -1074).toNat = n.log2 + 1022 := by omega
  rw [e5]
  have e6 : (n.log2 + 1022) * 2 ^ 52 + n * 2 ^ (52 - n.log2) ≤ 2047 * 2 ^ 52 := by
    have h1 : (n.log2 + 1022) * 2 ^ 52 ≤ 1074 * 2 ^ 52 := Nat.mul_le_mul_right _ (by omega)
    exact Nat.le_trans (Nat.add_le_add h1 (Nat.le_of_lt hlt)) (by decide)
  rw [Nat.min_eq_left e6]
  rfl
theorem fl_eq (n : Nat) (hn : n ≠ 0) (hb : n < 2 ^ 53) : fl n = (n.log2 + 1022) * 2 ^ 52 + n * 2 ^ (52 - n.log2) := by
  have := nearest_eq n 0 hn hb (by omega)
  simpa [fl, Ieee.Format.write] using this
theorem fl_zero : fl 0 = 0 := by decide
/-- What is read of it. -/
theorem read_fl (n : Nat) (hb : n < 2 ^ 53) : ∃ k : Nat, k ≤ 1074 ∧ Ieee.double.read (fl n) = .number false (n * 2 ^ k) (-(k : Int)) := by
  by_cases hn : n = 0
  · subst hn
    generalize hk : (1074 : Nat) = k
    exact ⟨k, by omega, by rw [fl_zero, Nat.zero_mul, show Ieee.double.read 0 = .number false 0 Ieee.double.leastPlace from rfl, show Ieee.double.leastPlace = -1074 from by decide, ← hk]; rfl⟩
  have hl : n.log2 ≤ 52 := by have := log2_lt hb hn; omega
  have hlt : n * 2 ^ (52 - n.log2) < 2 ^ 53 := by
    have h1 : n < 2 ^ (n.log2 + 1) := Nat.lt_log2_self
    calc n * 2 ^ (52 - n.log2) < 2 ^ (n.log2 + 1) * 2 ^ (52 - n.log2) := Nat.mul_lt_mul_of_pos_right h1 (Nat.two_pow_pos _)
      _ = 2 ^ 53 := by rw [← Nat.pow_add]; congr 1; omega
  have hge : 2 ^ 52 ≤ n * 2 ^ (52 - n.log2) := by
    have h1 : 2 ^ n.log2 ≤ n := Nat.log2_self_le hn
    calc 2 ^ 52 = 2 ^ n.log2 * 2 ^ (52 - n.log2) := by rw [← Nat.pow_add]; congr 1; omega
      _ ≤ n * 2 ^ (52 - n.log2) := Nat.mul_le_mul_right _ h1
  refine ⟨52 - n.log2, by omega, ?_⟩
  rw [fl_eq n hn hb]
  generalize hm : n * 2 ^ (52 - n.log2) = m at hlt hge
  have e1 : (Ieee.double.leastPlace : Int) = -1074 := by decide
  have e3 : Ieee.double.binade = 2 ^ 52 := rfl
  have e4 : Ieee.double.infRung = 2047 * 2 ^ 52 := by decide
  have e5 : Ieee.double.signWeight = 2 ^ 63 := by decide
  unfold Ieee.Format.read
  simp only [e1, e3, e4, e5]
  generalize n.log2 = r at hl
  have p52 : (2 : Nat) ^ 52 = 4503599627370496 := by decide
  have p53 : (2 : Nat) ^ 53 = 9007199254740992 := by decide
  have p63 : (2 : Nat) ^ 63 = 9223372036854775808 := by decide
  rw [p53] at hlt
  rw [p52] at hge
  simp only [p52, p63]
  have q1 : ((r + 1022) * 4503599627370496 + m) / 9223372036854775808 = 0 := by omega
  have q2 : ((r + 1022) * 4503599627370496 + m) % 9223372036854775808 = (r + 1022) * 4503599627370496 + m := by omega
  have q3 : ((r + 1022) * 4503599627370496 + m) / 4503599627370496 = r + 1023 := by omega
  have q4 : ((r + 1022) * 4503599627370496 + m) % 4503599627370496 = m - 4503599627370496 := by omega
  rw [q1, q2, q3, q4, if_neg (by omega), if_pos (by omega)]
  have q5 : 4503599627370496 + (m - 4503599627370496) = m := by omega
  rw [q5]
  have q6 : (-1074 : Int) + ((r + 1023 - 1 : Nat) : Int) = -((52 - r : Nat) : Int) := by omega
  rw [q6]
  rfl
theorem fl_add (a b : Nat) (h : a + b < 2 ^ 53) : Ieee.double.add (fl a) (fl b) = some (fl (a + b)) := by
  obtain ⟨i, hi, ea⟩ := read_fl a (by omega)
  obtain ⟨j, hj, eb⟩ := read_fl b (by omega)
  unfold Ieee.Format.add
  rw [ea, eb]
  simp only [Ieee.Datum.sum, Ieee.signed, Bool.false_eq_true, if_false, Option.map_some, Option.some.injEq, Bool.and_self]
  have hmin : min (-(i : Int)) (-(j : Int)) = -((max i j : Nat) : Int) := by omega
  rw [hmin]
  have t1 : (a * 2 ^ i) <<< (-(i : Int) - -((max i j : Nat) : Int)).toNat = a * 2 ^ (max i j) := by
    rw [Nat.shiftLeft_eq, Nat.mul_assoc, ← Nat.pow_add]; congr 2; omega
  have t2 : (b * 2 ^ j) <<< (-(j : Int) - -((max i j : Nat) : Int)).toNat = b * 2 ^ (max i j) := by
    rw [Nat.shiftLeft_eq, Nat.mul_assoc, ← Nat.pow_add]; congr 2; omega
  rw [t1, t2]
  have hm : max i j ≤ 1074 := by omega
  generalize max i j = k at hm
  have e1 : ((a * 2 ^ k : Nat) : Int) + ((b * 2 ^ k : Nat) : Int) = (((a + b) * 2 ^ k : Nat) : Int) := by
    rw [Nat.add_mul]; push_cast; rfl
  rw [e1]
  have e2 : (if (((a + b) * 2 ^ k : Nat) : Int) = 0 then false else decide ((((a + b) * 2 ^ k : Nat) : Int) < 0)) = false := by
    split
    · rfl
    · exact decide_eq_false (by omega)
  rw [e2, Int.natAbs_natCast]
  by_cases hn : a + b = 0
  · rw [hn]
    simp [fl, Ieee.Format.write, Ieee.Format.nearest]
  · rw [fl_eq _ hn h]
    exact nearest_eq _ k hn h hm
theorem fl_int (n : Nat) (h : n < 2 ^ 53) : (Ieee.double.read (fl n)).toInt .zero = some (n : Int) := by
  obtain ⟨k, hk, e⟩ := read_fl n h
  rw [e]
  simp only [Ieee.Datum.toInt, Ieee.Datum.integral, Ieee.signed, Bool.false_eq_true, if_false]
  rw [show (-(k : Int)).toNat = 0 from by omega, show (- -(k : Int)).toNat = k from by omega]
  rw [show (n * 2 ^ k) <<< 0 = n * 2 ^ k from rfl, cutZ _ _ _ (.inr rfl)]
  simp
end Go.Blm
