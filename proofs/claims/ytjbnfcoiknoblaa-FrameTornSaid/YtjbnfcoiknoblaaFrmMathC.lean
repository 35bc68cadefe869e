/-
  Frames, in plain words: a payload's frame is whole, and is the payload's.
-/
import Derived.Test.YtjbnfcoiknoblaaFrmMathB
namespace Go.Frm
open Go Go.Eng Go.Crc

theorem take_word (n : W) (l : List UInt8) : (wordB n ++ l).take 4 = wordB n := List.take_left' (wordB_length n)
theorem drop_word (n : W) (l : List UInt8) : (wordB n ++ l).drop 4 = l := List.drop_left' (wordB_length n)
theorem frame_app (p r : List UInt8) : frameB p ++ r = wordB (BitVec.ofNat 32 p.length) ++ (wordB (sum (wordB (BitVec.ofNat 32 p.length) ++ p)) ++ (p ++ r)) := by
  simp only [frameB, List.append_assoc]
theorem frame_drop8 (p r : List UInt8) : (frameB p ++ r).drop 8 = p ++ r := by
  rw [frame_app, show 8 = 4 + 4 from rfl, ← List.drop_drop, drop_word, drop_word]
theorem frame_be (p r : List UInt8) (h2 : p.length ≤ 1048576) : be (frameB p ++ r) = p.length := by
  rw [frame_app, be_wordB, BitVec.toNat_ofNat]
  omega
theorem first_frame (p r : List UInt8) (h1 : 1 ≤ p.length) (h2 : p.length ≤ 1048576) : first (frameB p ++ r) = some p.length := by
  have hb := frame_be p r h2
  have hs : (sumOf (frameB p ++ r)).toNat = be ((frameB p ++ r).drop 4) := by
    unfold sumOf
    rw [frame_drop8, hb, List.take_left]
    rw [frame_app, take_word, drop_word, be_wordB]
  have hl : (frameB p ++ r).length = 8 + p.length + r.length := by rw [List.length_append, frameB_length]
  unfold first
  rw [hb, if_pos ⟨by omega, h1, h2, by omega, hs⟩]
theorem payload_frame (p r : List UInt8) : payload (frameB p ++ r) 0 p.length = p := by
  unfold payload
  rw [Nat.zero_add, frame_drop8, List.take_left]
/-- A frame behind others. -/
theorem first_at (q p r : List UInt8) (k : Nat) (hk : q.length = k) (h1 : 1 ≤ p.length) (h2 : p.length ≤ 1048576) : first ((q ++ (frameB p ++ r)).drop k) = some p.length := by
  subst hk
  rw [List.drop_left]
  exact first_frame p r h1 h2
theorem payload_at (q p r : List UInt8) (k : Nat) (hk : q.length = k) : payload (q ++ (frameB p ++ r)) k p.length = p := by
  subst hk
  have := payload_frame p r
  unfold payload at this ⊢
  rw [← List.drop_drop, List.drop_left]
  rw [Nat.zero_add] at this
  exact this
theorem oneF_of {b : List UInt8} {n : Nat} (h : first b = some n) (h8 : 8 + n = b.length) : oneF b = some (payload b 0 n) := by
  unfold oneF
  rw [h]
  exact if_pos h8
theorem oneF_frame (p : List UInt8) (h1 : 1 ≤ p.length) (h2 : p.length ≤ 1048576) : oneF (frameB p) = some p := by
  have hf := first_frame p [] h1 h2
  have h3 := payload_frame p []
  rw [List.append_nil] at hf h3
  rw [oneF_of hf (frameB_length p).symm, h3]
theorem first_short {b : List UInt8} (h : b.length < 8) : first b = none := by
  unfold first
  rw [if_neg (fun e => by omega)]
theorem fr_frame (p : List UInt8) (h1 : 1 ≤ p.length) (h2 : p.length ≤ 1048576) : fr (frameB p) 0 = [(0, p)] := by
  have hf := first_frame p [] h1 h2
  have h3 := payload_frame p []
  rw [List.append_nil] at hf h3
  rw [fr_some (n := p.length) (by simpa using hf), h3, fr_none]
  exact first_short (by rw [List.length_drop, frameB_length]; omega)
theorem endW_frame (p : List UInt8) (h1 : 1 ≤ p.length) (h2 : p.length ≤ 1048576) : endW (frameB p) = 8 + p.length := by
  unfold endW
  rw [fr_frame p h1 h2]
  show 0 + 8 + p.length = _
  omega
end Go.Frm
