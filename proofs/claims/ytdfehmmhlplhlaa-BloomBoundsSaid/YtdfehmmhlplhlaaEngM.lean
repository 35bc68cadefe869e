/-
  The engine, part M: arguments of a law, from the world to the abstract heap.
-/
import Derived.Test.YtdfehmmhlplhlaaEngL
import Derived.ProofKit
import Derived.Deep.Matrix
namespace Go.Eng
open Go

/-- A slice of integers that came in: nil, or a row of 'cap' cells. -/
def IsRow (k : IntKind) (w : World) (a : Option Addr) (len cap : Nat) (zs : List Int) : Prop :=
  (a = none ∧ len = 0 ∧ cap = 0 ∧ zs = []) ∨
  ∃ x, a = some x ∧ len ≤ cap ∧ cap ≤ maxLen ∧ zs.length = cap ∧ (∀ i, i < zs.length → w.cell? (x.add i) = some (.int k (zs.getD i 0))) ∧ ∀ n ∈ zs, (Lit.int k n).wf = true

def atOf (a : Option Addr) (cap : Nat) : Addr := if cap = 0 then ⟨0, 0, none⟩ else a.getD ⟨0, 0, none⟩
def absS (a : Option Addr) (i len cap : Nat) : Value :=
  match a with
  | none => .slice none 0 0
  | some _ => .slice (some ⟨i, 0, none⟩) len (if cap = len then len else len + 1)
/-- Numbers as bytes. -/
def toB (zs : List Int) : List UInt8 := zs.map fun z => UInt8.ofNat z.toNat
/-- Numbers as values. -/
def iv (k : IntKind) (zs : List Int) : List Value := zs.map fun z => .int k z
theorem bv_toB {zs : List Int} (h : ∀ n ∈ zs, 0 ≤ n ∧ n ≤ 255) : bv (toB zs) = iv .u8 zs := by
  simp only [bv, toB, iv, List.map_map]
  apply List.map_congr_left
  intro n hn
  have := h n hn
  simp only [Function.comp, Value.int.injEq, true_and]
  rw [UInt8.toNat_ofNat']
  omega
theorem wf_u8 {n : Int} (h : (Lit.int .u8 n).wf = true) : 0 ≤ n ∧ n ≤ 255 := by
  have := h
  simp only [Lit.wf, IntKind.min, IntKind.max, IntKind.bits, IntKind.signed] at this
  simp at this
  omega
theorem wf_u32 {n : Int} (h : (Lit.int .u32 n).wf = true) : 0 ≤ n ∧ n ≤ 4294967295 := by
  have := h
  simp only [Lit.wf, IntKind.min, IntKind.max, IntKind.bits, IntKind.signed] at this
  simp at this
  omega
theorem wf_i64 {n : Int} (h : (Lit.int .i64 n).wf = true) : -9223372036854775808 ≤ n ∧ n ≤ 9223372036854775807 := by
  have := h
  simp only [Lit.wf, IntKind.min, IntKind.max, IntKind.bits, IntKind.signed] at this
  simp at this
  omega

section
variable {k : IntKind} {W : World} {a : Option Addr} {len cap : Nat} {zs : List Int} {G : Nat} {bs : List RoB} {j : Nat}
theorem IsRow.len_le (r : IsRow k W a len cap zs) : len ≤ cap ∧ cap ≤ maxLen ∧ zs.length = cap := by
  rcases r with ⟨rfl, rfl, rfl, rfl⟩ | ⟨x, rfl, h1, h2, h3, _⟩
  · simp [maxLen]
  · exact ⟨h1, h2, h3⟩
theorem IsRow.rob (r : IsRow k W a len cap zs) : (atOf a cap).spot = none ∧ ∀ (m : Nat) v, (iv k (zs.take len))[m]? = some v → ∃ c, W.cell? ((atOf a cap).add m) = some c ∧ VRel (roRen G bs) (G + bs.length) v c := by
  rcases r with ⟨rfl, rfl, rfl, rfl⟩ | ⟨x, rfl, h1, h2, h3, h4, h5⟩
  · exact ⟨rfl, fun m v hm => by simp [iv] at hm⟩
  · by_cases hc : cap = 0
    · have : len = 0 := by omega
      subst this
      exact ⟨by simp [atOf, hc], fun m v hm => by simp [iv] at hm⟩
    · have hx : atOf (some x) cap = x := by simp [atOf, hc]
      rw [hx]
      refine ⟨?_, fun m v hm => ?_⟩
      · have h0 := h4 0 (by omega)
        have : x.add 0 = x := by simp [Addr.add]
        rw [this] at h0
        cases hs : x.spot with
        | none => rfl
        | some s =>
          exfalso
          unfold World.cell? at h0
          split at h0
          · simp [hs] at h0
          · cases h0
      · have hm' := (List.getElem?_eq_some_iff.1 hm).1
        simp only [iv, List.length_map, List.length_take] at hm'
        refine ⟨v, ?_, ?_⟩
        · rw [h4 m (by omega)]
          simp only [iv, List.getElem?_map, List.getElem?_take_of_lt (show m < len by omega)] at hm
          rw [List.getElem?_eq_getElem (show m < zs.length by omega)] at hm
          simp only [Option.map_some, Option.some.injEq] at hm
          rw [← hm]
          simp [List.getD_eq_getElem?_getD, List.getElem?_eq_getElem (show m < zs.length by omega)]
        · simp only [iv, List.getElem?_map] at hm
          cases hq : (zs.take len)[m]? with
          | none => rw [hq] at hm; cases hm
          | some z => rw [hq] at hm; simp at hm; subst hm; exact .int _ _
theorem IsRow.vrel (r : IsRow k W a len cap zs) {cells : List Value} (hj : bs[j]? = some ⟨cells, atOf a cap⟩) : VRel (roRen G bs) (G + bs.length) (absS a (G + j) len cap) (.slice a len cap) := by
  have hjl := (List.getElem?_eq_some_iff.1 hj).1
  rcases r with ⟨rfl, rfl, rfl, rfl⟩ | ⟨x, rfl, h1, h2, h3, h4, h5⟩
  · exact .nilSlice
  · refine .slice _ _ _ _ _ _ _ (by omega) ?_ h1 ?_ ?_ h2 (by intro t ht; cases ht)
    · split <;> omega
    · intro e
      split at e
      · assumption
      · omega
    · by_cases hc : cap = 0
      · exact .inr hc
      · left
        have hren : roRen G bs (G + j) = ⟨x.block, x.off, 0⟩ := by
          simp only [roRen]
          rw [if_neg (by omega), show G + j - G = j from by omega, hj]
          simp [atOf, hc]
        rw [hren]
        have hs : x.spot = none := by
          have h0 := h4 0 (by omega)
          have : x.add 0 = x := by simp [Addr.add]
          rw [this] at h0
          cases hs : x.spot with
          | none => rfl
          | some s =>
            exfalso
            unfold World.cell? at h0
            split at h0
            · simp [hs] at h0
            · cases h0
        cases x
        simp only at hs
        subst hs
        rfl
theorem roGet {cells : List Value} {at_ : Addr} (hj : bs[j]? = some ⟨cells, at_⟩) (hne : cells ≠ []) : (roHeap G bs).get (G + j) = some ⟨cells, 0, false⟩ := by
  show (if G + j < G then none else (bs[G + j - G]?).bind fun b => if b.cells.isEmpty then none else some (⟨b.cells, 0, false⟩ : Blk)) = _
  rw [if_neg (by omega), show G + j - G = j from by omega, hj]
  simp [hne]
theorem IsRow.rs (r : IsRow k W a len cap zs) (hj : bs[j]? = some ⟨iv k (zs.take len), atOf a cap⟩) : RS (roHeap G bs) (absS a (G + j) len cap) (iv k (zs.take len)) := by
  have hl := r.len_le
  rcases r with ⟨rfl, rfl, rfl, rfl⟩ | ⟨x, rfl, h1, h2, h3, h4, h5⟩
  · exact .inl ⟨rfl, rfl⟩
  · have hlen : (iv k (zs.take len)).length = len := by simp [iv]; omega
    refine .inr ⟨G + j, 0, none, if cap = len then len else len + 1, by rw [hlen]; rfl, .inl rfl, fun hne => ?_⟩
    exact ⟨_, roGet hj hne, by simp, by simp⟩
theorem IsRow.bytes (r : IsRow .u8 W a len cap zs) : ∀ n ∈ zs, 0 ≤ n ∧ n ≤ 255 := by
  rcases r with ⟨rfl, rfl, rfl, rfl⟩ | ⟨x, rfl, h1, h2, h3, h4, h5⟩
  · simp
  · exact fun n hn => wf_u8 (h5 n hn)
theorem IsRow.rb (r : IsRow .u8 W a len cap zs) (hj : bs[j]? = some ⟨iv .u8 (zs.take len), atOf a cap⟩) : RB (roHeap G bs) (absS a (G + j) len cap) (toB (zs.take len)) := by
  unfold RB
  rw [bv_toB (fun n hn => r.bytes n (List.mem_of_mem_take hn))]
  exact r.rs hj
theorem IsRow.toB_length (r : IsRow k W a len cap zs) : (toB (zs.take len)).length = len := by
  have := r.len_le
  simp [toB]; omega
end
end Go.Eng
