/- . -/
import Derived.Test.YtigmojilaadbhaaGreatDoorMpe
set_option maxHeartbeats 0
namespace Go.Eng
open Go
section
variable {P : Program} {W : World}
theorem str_of_ok {t : TypeId} {v : Value} {r : Reach} {base : Nat} (hu : P.underlying t = some .string) (hk : Value.okWide P W r base t v) : ∃ s : List UInt8, v = .string (bstr s) := by
 unfold Value.okWide at hk
 rw [hu] at hk
 simp only [Cell.okWide, hu, Cell.ok] at hk
 cases v with
 | string s => exact ⟨s.data.toList, by cases s; simp [bstr]⟩
 | _ => first | exact hk.elim | (simp at hk)
theorem law_laidS {f : FuncId} {s : List UInt8} (T : List (Nat × Blk)) (hT : (T.map (·.1)).Nodup) (ht : ∀ x ∈ T, Told P W x.1 x.2)
  (p : ∀ h, P.globals.size ≤ h.next → (∀ x ∈ T, h.get x.1 = some x.2) → ACalls P f [.string (bstr s)] h fun v _ => v = .bool true) :
  Calls P f #[.string (bstr s)] W fun e W' => e = .returned (.bool true) ∧ Go.RowKit.Below W.heap.size W W' := by
 have r1 : RoAll P.globals.size [] [] W := fun b hb => by cases hb
 obtain ⟨h', q1, q2, q3, q4, q5⟩ := tells T (roSim r1) qhi (fun x hx => by
  have a := ht x hx
  exact ⟨a, by simp only [roHeap]; rw [Ah a.isg]⟩) hT
 have hn : P.globals.size ≤ h'.next := by rw [q3]; exact Aa _
 exact law_free (args := [.string (bstr s)]) (cargs := [.string (bstr s)]) q1 q2 (.cons (.string _) .nil) (p _ hn q5)
end
end Go.Eng
