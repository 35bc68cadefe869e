/-
  Frames, in plain words: what the document's walk asks at each place.
-/
import Derived.Test.YtjbnfcoiknoblaaFrmMathC
namespace Go.Frm
open Go Go.Eng Go.Crc

theorem word_be {L : List UInt8} (h : 4 ≤ L.length) : wordB (BitVec.ofNat 32 (be L)) = L.take 4 := by
  match L, h with
  | b0 :: b1 :: b2 :: b3 :: l, _ =>
    have l0 := b0.toNat_lt
    have l1 := b1.toNat_lt
    have l2 := b2.toNat_lt
    have l3 := b3.toNat_lt
    have hb : be (b0 :: b1 :: b2 :: b3 :: l) = b0.toNat * 16777216 + b1.toNat * 65536 + b2.toNat * 256 + b3.toNat := rfl
    have hN : (BitVec.ofNat 32 (be (b0 :: b1 :: b2 :: b3 :: l))).toNat = b0.toNat * 16777216 + b1.toNat * 65536 + b2.toNat * 256 + b3.toNat := by
      rw [BitVec.toNat_ofNat, hb]
      omega
    generalize BitVec.ofNat 32 (be (b0 :: b1 :: b2 :: b3 :: l)) = n at hN ⊢
    have e : ∀ (k : Nat) (b : UInt8), Crc.byteOf n k = b.toNat → UInt8.ofNat (Crc.byteOf n k) = b := fun k b hk => by
      rw [hk]
      exact UInt8.ofNat_toNat
    have e3 : Crc.byteOf n 3 = b0.toNat := by simp only [Crc.byteOf, hN]; omega
    have e2 : Crc.byteOf n 2 = b1.toNat := by simp only [Crc.byteOf, hN]; omega
    have e1 : Crc.byteOf n 1 = b2.toNat := by simp only [Crc.byteOf, hN]; omega
    have e0 : Crc.byteOf n 0 = b3.toNat := by simp only [Crc.byteOf, hN]; omega
    unfold wordB
    rw [e 3 b0 e3, e 2 b1 e2, e 1 b2 e1, e 0 b3 e0]
    rfl
theorem word_eq {W1 : W} {L : List UInt8} (h : 4 ≤ L.length) : wordB W1 = L.take 4 ↔ W1.toNat = be L := by
  constructor
  · intro e
    have := be_wordB W1 (L.drop 4)
    rw [e, List.take_append_drop] at this
    exact this.symm
  · intro e
    rw [← word_be h, ← e, BitVec.ofNat_toNat]
    simp
theorem first_no_may {R : List UInt8} (h : ¬ (1 ≤ be R ∧ be R ≤ 1048576)) : first R = none := by
  unfold first
  rw [if_neg (fun e => h ⟨e.2.1, e.2.2.1⟩)]
theorem first_no_room {R : List UInt8} (h : ¬ be R + 8 ≤ R.length) : first R = none := by
  unfold first
  rw [if_neg (fun e => h e.2.2.2.1)]
theorem first_no_sum {R : List UInt8} (h : ¬ (sumOf R).toNat = be (R.drop 4)) : first R = none := by
  unfold first
  rw [if_neg (fun e => h e.2.2.2.2)]
theorem first_yes {R : List UInt8} (h8 : 8 ≤ R.length) (hm : 1 ≤ be R ∧ be R ≤ 1048576) (hr : be R + 8 ≤ R.length) (hs : (sumOf R).toNat = be (R.drop 4)) : first R = some (be R) := by
  unfold first
  rw [if_pos ⟨h8, hm.1, hm.2, hr, hs⟩]
theorem payload_drop (b : List UInt8) (k n : Nat) : payload b k n = ((b.drop k).drop 8).take n := by
  unfold payload
  rw [List.drop_drop]
theorem oneF_fr {b : List UInt8} {n : Nat} (hf : first b = some n) (h8 : 8 + n = b.length) : fr b 0 = [(0, payload b 0 n)] := by
  rw [fr_some (n := n) (by simpa using hf), fr_none]
  exact first_short (by rw [List.length_drop]; omega)
theorem oneF_not_one {b : List UInt8} (h : ¬ (fr b 0).length = 1) : oneF b = none := by
  cases hf : first b with
  | none => unfold oneF; rw [hf]
  | some n =>
    by_cases h8 : 8 + n = b.length
    · exact absurd (by rw [oneF_fr hf h8]; rfl) h
    · unfold oneF; rw [hf]; exact if_neg h8
theorem oneF_not_end {b : List UInt8} (h : ¬ endW b = b.length) : oneF b = none := by
  cases hf : first b with
  | none => unfold oneF; rw [hf]
  | some n =>
    by_cases h8 : 8 + n = b.length
    · refine absurd ?_ h
      unfold endW
      rw [oneF_fr hf h8]
      show 0 + 8 + (payload b 0 n).length = _
      rw [payload_length (by omega)]
      omega
    · unfold oneF; rw [hf]; exact if_neg h8
theorem oneF_yes {b : List UInt8} (h1 : (fr b 0).length = 1) (h2 : endW b = b.length) : ∃ p, fr b 0 = [(0, p)] ∧ oneF b = some p := by
  cases hf : first b with
  | none =>
    rw [fr_none (by simpa using hf)] at h1
    cases h1
  | some n =>
    have hs := fr_some (b := b) (k := 0) (n := n) (by simpa using hf)
    have hr := first_room (b := b) (k := 0) (n := n) (by simpa using hf)
    rw [hs] at h1
    have he : fr b (0 + 8 + n) = [] := List.eq_nil_of_length_eq_zero (by simpa using h1)
    rw [he] at hs
    refine ⟨_, hs, oneF_of hf ?_⟩
    unfold endW at h2
    rw [hs] at h2
    have : 0 + 8 + (payload b 0 n).length = b.length := h2
    rw [payload_length (by omega)] at this
    omega
end Go.Frm
