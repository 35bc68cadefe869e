/-
  Frames, in plain words: where they end, one frame, a payload's frame.
-/
import Derived.Test.YtjbnfcoiknoblaaFrmMath
namespace Go.Frm
open Go Go.Eng Go.Crc

theorem come_end (b : List UInt8) : ∀ (m : Nat) (k : Nat) (done : List (Nat × List UInt8)), b.length - k ≤ m → Come b done k → ∃ k', Come b (fr b 0) k' ∧ first (b.drop k') = none
  | m, k, done, hm, c => by
    cases hf : first (b.drop k) with
    | none =>
      obtain ⟨e, _⟩ := c.stop hf
      exact ⟨k, e ▸ c, hf⟩
    | some n =>
      have := first_room hf
      match m with
      | 0 => have := c.le; omega
      | m + 1 => exact come_end b m (k + 8 + n) _ (by omega) (c.next hf)
theorem come_all (b : List UInt8) : Come b (fr b 0) (endW b) ∧ first (b.drop (endW b)) = none := by
  obtain ⟨k, c, h⟩ := come_end b b.length 0 [] (by omega) (Come.start b)
  have := c.at_
  rw [show endF 0 (fr b 0) = endW b from rfl] at this
  subst this
  exact ⟨c, h⟩
theorem endW_le (b : List UInt8) : endW b ≤ b.length := (come_all b).1.le
/-- The payload of bytes that are one frame. -/
def oneF (b : List UInt8) : Option (List UInt8) :=
  match first b with
  | some n => if 8 + n = b.length then some (payload b 0 n) else none
  | none => none
/-- A payload's frame. -/
def frameB (p : List UInt8) : List UInt8 := wordB (BitVec.ofNat 32 p.length) ++ wordB (sum (wordB (BitVec.ofNat 32 p.length) ++ p)) ++ p
def putE (p : List UInt8) : Int := if p.length = 0 then 2 else if 1048576 < p.length then 3 else 0
def putB (p : List UInt8) : List UInt8 := if p.length = 0 then [] else if 1048576 < p.length then [] else frameB p
theorem frameB_length (p : List UInt8) : (frameB p).length = 8 + p.length := by
  simp only [frameB, List.length_append, wordB_length]
theorem odd_short {b : List UInt8} (h : (b.drop (endW b)).length < 8) : odd b = false := if_pos h
theorem odd_long {b : List UInt8} (h : ¬ (b.drop (endW b)).length < 8) : odd b = (!mayN (be (b.drop (endW b))) || decide (8 + be (b.drop (endW b)) ≤ (b.drop (endW b)).length)) := if_neg h
end Go.Frm
