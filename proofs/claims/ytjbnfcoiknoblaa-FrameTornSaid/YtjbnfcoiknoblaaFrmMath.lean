/-
  Frames, in plain words.
-/
import Derived.Test.YtjbnfcoiknoblaaCrcTurn
namespace Go.Frm
open Go Go.Eng Go.Crc

/-- A number as four bytes, the highest first; and read. -/
def wordB (n : W) : List UInt8 := [UInt8.ofNat (Crc.byteOf n 3), UInt8.ofNat (Crc.byteOf n 2), UInt8.ofNat (Crc.byteOf n 1), UInt8.ofNat (Crc.byteOf n 0)]
def be (b : List UInt8) : Nat := (b.getD 0 0).toNat * 16777216 + (b.getD 1 0).toNat * 65536 + (b.getD 2 0).toNat * 256 + (b.getD 3 0).toNat
theorem be_lt (b : List UInt8) : be b < 4294967296 := by
  have h0 := (b.getD 0 0).toNat_lt
  have h1 := (b.getD 1 0).toNat_lt
  have h2 := (b.getD 2 0).toNat_lt
  have h3 := (b.getD 3 0).toNat_lt
  unfold be
  omega
def mayN (n : Nat) : Bool := decide (1 ≤ n ∧ n ≤ 1048576)
theorem wordB_length (n : W) : (wordB n).length = 4 := rfl
theorem be_wordB (n : W) (l : List UInt8) : be (wordB n ++ l) = n.toNat := by
  have h := n.isLt
  have e : ∀ k, (UInt8.ofNat (Crc.byteOf n k)).toNat = Crc.byteOf n k := fun k => by
    have : Crc.byteOf n k < 256 := Nat.mod_lt _ (by omega)
    simp [UInt8.toNat_ofNat']
    omega
  simp only [be, wordB, List.cons_append, List.nil_append, List.getD_cons_zero, List.getD_cons_succ, e]
  simp only [Crc.byteOf]
  omega
/-- How long the payload is that bytes begin with, if its frame is whole. -/
def sumOf (b : List UInt8) : W := sum (b.take 4 ++ (b.drop 8).take (be b))
def first (b : List UInt8) : Option Nat :=
  if 8 ≤ b.length ∧ 1 ≤ be b ∧ be b ≤ 1048576 ∧ be b + 8 ≤ b.length ∧ (sumOf b).toNat = be (b.drop 4) then some (be b) else none
theorem first_some {b : List UInt8} {n : Nat} (h : first b = some n) : n = be b ∧ 8 ≤ b.length ∧ 1 ≤ n ∧ n ≤ 1048576 ∧ n + 8 ≤ b.length ∧ (sumOf b).toNat = be (b.drop 4) := by
  unfold first at h
  split at h
  · cases h; rename_i hc; exact ⟨rfl, hc⟩
  · cases h
def payload (b : List UInt8) (k n : Nat) : List UInt8 := (b.drop (k + 8)).take n
theorem payload_length {b : List UInt8} {k n : Nat} (h : k + 8 + n ≤ b.length) : (payload b k n).length = n := by
  simp [payload]; omega
/-- The whole frames from a place on: where each begins, its payload. -/
def frs : Nat → List UInt8 → Nat → List (Nat × List UInt8)
  | 0, _, _ => []
  | f + 1, b, k => match first (b.drop k) with
    | some n => (k, payload b k n) :: frs f b (k + 8 + n)
    | none => []
theorem first_room {b : List UInt8} {k n : Nat} (h : first (b.drop k) = some n) : k + 8 + n ≤ b.length := by
  have := (first_some h).2.2.2.2.1
  rw [List.length_drop] at this
  omega
theorem frs_enough (b : List UInt8) : ∀ (f g k : Nat), b.length < k + f → b.length < k + g → frs f b k = frs g b k
  | 0, 0, _, _, _ => rfl
  | 0, g + 1, k, h, _ => by
    simp only [frs]
    cases hf : first (b.drop k) with
    | none => rfl
    | some n => have := first_room hf; omega
  | f + 1, 0, k, _, h => by
    simp only [frs]
    cases hf : first (b.drop k) with
    | none => rfl
    | some n => have := first_room hf; omega
  | f + 1, g + 1, k, h1, h2 => by
    simp only [frs]
    cases hf : first (b.drop k) with
    | none => rfl
    | some n =>
      have := first_room hf
      simp only [frs_enough b f g (k + 8 + n) (by omega) (by omega)]
/-- All whole frames from a place on. -/
def fr (b : List UInt8) (k : Nat) : List (Nat × List UInt8) := frs (b.length + 1) b k
theorem fr_none {b : List UInt8} {k : Nat} (h : first (b.drop k) = none) : fr b k = [] := by
  unfold fr frs
  rw [h]
theorem fr_some {b : List UInt8} {k n : Nat} (h : first (b.drop k) = some n) : fr b k = (k, payload b k n) :: fr b (k + 8 + n) := by
  have hr := first_room h
  have e : fr b k = (k, payload b k n) :: frs b.length b (k + 8 + n) := by
    show frs (b.length + 1) b k = _
    simp only [frs, h]
  rw [e]
  congr 1
  exact frs_enough b _ _ _ (by omega) (by omega)
/-- Where the whole frames end. -/
def endF (k : Nat) : List (Nat × List UInt8) → Nat
  | [] => k
  | (a, p) :: l => endF (a + 8 + p.length) l
theorem endF_append (k : Nat) (l : List (Nat × List UInt8)) (a : Nat) (p : List UInt8) : endF k (l ++ [(a, p)]) = a + 8 + p.length := by
  induction l generalizing k with
  | nil => rfl
  | cons x l ih => exact ih _
/-- A walk that has come so far: what is behind it and what is ahead of it. -/
structure Come (b : List UInt8) (done : List (Nat × List UInt8)) (k : Nat) : Prop where
  all : fr b 0 = done ++ fr b k
  at_ : endF 0 done = k
  le : k ≤ b.length
  count : done.length ≤ k
theorem Come.start (b : List UInt8) : Come b [] 0 := ⟨rfl, rfl, Nat.zero_le _, Nat.le_refl _⟩
theorem Come.next {b : List UInt8} {done : List (Nat × List UInt8)} {k n : Nat} (c : Come b done k) (h : first (b.drop k) = some n) : Come b (done ++ [(k, payload b k n)]) (k + 8 + n) := by
  have hr := first_room h
  refine ⟨?_, ?_, hr, by have := c.count; simp; omega⟩
  · rw [c.all, fr_some h, List.append_assoc]
    rfl
  · rw [endF_append, payload_length hr]
theorem Come.stop {b : List UInt8} {done : List (Nat × List UInt8)} {k : Nat} (c : Come b done k) (h : first (b.drop k) = none) : fr b 0 = done ∧ endF 0 (fr b 0) = k := by
  have e : fr b 0 = done := by rw [c.all, fr_none h, List.append_nil]
  exact ⟨e, by rw [e]; exact c.at_⟩
def endW (b : List UInt8) : Nat := endF 0 (fr b 0)
/-- Is what is behind them odd? -/
def odd (b : List UInt8) : Bool :=
  let rest := b.drop (endW b)
  if rest.length < 8 then false else !mayN (be rest) || decide (8 + be rest ≤ rest.length)
end Go.Frm
