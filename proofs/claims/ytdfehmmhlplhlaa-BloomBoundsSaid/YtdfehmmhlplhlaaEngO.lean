/-
  The engine, part O: an argument that is a slice of slices of integers.
-/
import Derived.Test.YtdfehmmhlplhlaaEngM
namespace Go.Eng
open Go

/-- A slice of rows that came in. -/
def IsRows (k : IntKind) (W : World) (a : Option Addr) (len cap : Nat) (A : Nat → Option Addr) (L C : Nat → Nat) (Z : Nat → List Int) : Prop :=
  (a = none ∧ len = 0 ∧ cap = 0) ∨
  ∃ x, a = some x ∧ len ≤ cap ∧ cap ≤ maxLen ∧ ∀ r, r < cap → W.cell? (x.add r) = some (.slice (A r) (L r) (C r)) ∧ IsRow k W (A r) (L r) (C r) (Z r)

section
variable {k : IntKind} {W : World} {a : Option Addr} {len cap : Nat} {A : Nat → Option Addr} {L C : Nat → Nat} {Z : Nat → List Int} {G : Nat} {bs : List RoB} {j0 j1 : Nat}
/-- The outer row's cells. -/
def outer (G j1 : Nat) (len : Nat) (A : Nat → Option Addr) (L C : Nat → Nat) : List Value := (List.range len).map fun r => absS (A r) (G + (j1 + r)) (L r) (C r)
/-- The inner rows' blocks. -/
def inner (k : IntKind) (len : Nat) (A : Nat → Option Addr) (L C : Nat → Nat) (Z : Nat → List Int) : List RoB := (List.range len).map fun r => ⟨iv k ((Z r).take (L r)), atOf (A r) (C r)⟩
theorem outer_length : (outer G j1 len A L C).length = len := by simp [outer]
theorem outer_get {r : Nat} {v : Value} (h : (outer G j1 len A L C)[r]? = some v) : r < len ∧ v = absS (A r) (G + (j1 + r)) (L r) (C r) := by
  have hr := (List.getElem?_eq_some_iff.1 h).1
  rw [outer_length] at hr
  simp only [outer, List.getElem?_map, List.getElem?_range hr, Option.map_some, Option.some.injEq] at h
  exact ⟨hr, h.symm⟩
theorem inner_get {r : Nat} (h : r < len) : (inner k len A L C Z)[r]? = some ⟨iv k ((Z r).take (L r)), atOf (A r) (C r)⟩ := by
  simp [inner, h]
theorem IsRows.len_le (q : IsRows k W a len cap A L C Z) : len ≤ cap ∧ cap ≤ maxLen := by
  rcases q with ⟨rfl, rfl, rfl⟩ | ⟨x, rfl, h1, h2, _⟩
  · simp [maxLen]
  · exact ⟨h1, h2⟩
theorem IsRows.row (q : IsRows k W a len cap A L C Z) {r : Nat} (hr : r < len) : IsRow k W (A r) (L r) (C r) (Z r) := by
  rcases q with ⟨rfl, rfl, rfl⟩ | ⟨x, rfl, h1, h2, h3⟩
  · omega
  · exact (h3 r (by omega)).2
theorem spot_of {x : Addr} {v : Value} (h0 : W.cell? (x.add 0) = some v) : x.spot = none := by
  have : x.add 0 = x := by simp [Addr.add]
  rw [this] at h0
  cases hs : x.spot with
  | none => rfl
  | some s =>
    exfalso
    unfold World.cell? at h0
    split at h0
    · simp [hs] at h0
    · cases h0
theorem IsRows.rob (q : IsRows k W a len cap A L C Z) (hb : ∀ r, r < len → bs[j1 + r]? = some ⟨iv k ((Z r).take (L r)), atOf (A r) (C r)⟩) :
    (atOf a cap).spot = none ∧ ∀ (m : Nat) v, (outer G j1 len A L C)[m]? = some v → ∃ c, W.cell? ((atOf a cap).add m) = some c ∧ VRel (roRen G bs) (G + bs.length) v c := by
  rcases q with ⟨rfl, rfl, rfl⟩ | ⟨x, rfl, h1, h2, h3⟩
  · exact ⟨rfl, fun m v hm => by simp [outer] at hm⟩
  · by_cases hc : cap = 0
    · have : len = 0 := by omega
      subst this
      exact ⟨by simp [atOf, hc], fun m v hm => by simp [outer] at hm⟩
    · have hx : atOf (some x) cap = x := by simp [atOf, hc]
      rw [hx]
      refine ⟨spot_of (h3 0 (by omega)).1, fun m v hm => ?_⟩
      obtain ⟨hml, rfl⟩ := outer_get hm
      exact ⟨_, (h3 m (by omega)).1, (h3 m (by omega)).2.vrel (hb m hml)⟩
theorem IsRows.vrel (q : IsRows k W a len cap A L C Z) {cells : List Value} (hj : bs[j0]? = some ⟨cells, atOf a cap⟩) : VRel (roRen G bs) (G + bs.length) (absS a (G + j0) len cap) (.slice a len cap) := by
  have hjl := (List.getElem?_eq_some_iff.1 hj).1
  rcases q with ⟨rfl, rfl, rfl⟩ | ⟨x, rfl, h1, h2, h3⟩
  · exact .nilSlice
  · refine .slice _ _ _ _ _ _ _ (by omega) ?_ h1 ?_ ?_ h2 (by intro t ht; cases ht)
    · split <;> omega
    · intro e
      split at e
      · assumption
      · omega
    · by_cases hc : cap = 0
      · exact .inr hc
      · left
        have hren : roRen G bs (G + j0) = ⟨x.block, x.off, 0⟩ := by
          simp only [roRen]
          rw [if_neg (by omega), show G + j0 - G = j0 from by omega, hj]
          simp [atOf, hc]
        rw [hren]
        have hs : x.spot = none := spot_of (h3 0 (by omega)).1
        cases x
        simp only at hs
        subst hs
        rfl
theorem IsRows.rbb (q : IsRows .u8 W a len cap A L C Z) (hj : bs[j0]? = some ⟨outer G j1 len A L C, atOf a cap⟩) (hb : ∀ r, r < len → bs[j1 + r]? = some ⟨iv .u8 ((Z r).take (L r)), atOf (A r) (C r)⟩) :
    RBB (roHeap G bs) (absS a (G + j0) len cap) ((List.range len).map fun r => toB ((Z r).take (L r))) := by
  refine ⟨outer G j1 len A L C, ?_, by simp [outer], fun r u l hu hl => ?_⟩
  · rcases q with ⟨rfl, rfl, rfl⟩ | ⟨x, rfl, h1, h2, h3⟩
    · exact .inl ⟨rfl, rfl⟩
    · refine .inr ⟨G + j0, 0, none, if cap = len then len else len + 1, by rw [outer_length]; rfl, .inl rfl, fun hne => ?_⟩
      exact ⟨_, roGet hj hne, by simp, by simp⟩
  · obtain ⟨hr, rfl⟩ := outer_get hu
    simp only [List.getElem?_map, List.getElem?_range hr, Option.map_some, Option.some.injEq] at hl
    subst hl
    exact (q.row hr).rb (hb r hr)
end
end Go.Eng
