/-
  THE LAW scriptKinds: whatever the input, the call returns true, and each argument reads afterwards avs it did; the variables that the row lists are tied «to» the program's text.
-/
import Derived.Test.YtigmojilaadbhaaGreatDoorRows
import Derived.Test.YtigmojilaadbhaaGreatDoorCards
import Derived.Test.YtigmojilaadbhaaGreatDoorTie
import Derived.WalkKit
import Derived.ProofKit
import Derived.SevenTiedAt
import Derived.Test.YtigmojilaadbhaaGreatDoorScriptKindsLawAFin
namespace Go.Proofs.YtigmojilaadbhaaGreatDoor.scriptKinds
open Go.ChangeShapes Go.WideShapes Go.ChangeAt Go.RowKit
open Go.Eng (RdV ACalls Heap law_laidN trodAll_stays plainT bstr)

attribute [local irreducible] Go.Eng.RdV Go.Eng.Rd
theorem over : Rows.ScriptKindsSaid :=
  OpenClaim.holds_of_wide 6 Tryz.f6 rfl rfl rfl rfl rfl rfl rfl ⟨rfl, rfl, rfl, rfl, rfl⟩ rfl rfl rfl rfl rfl (by kernel_rfl) Tryz.func6 (by kernel_rfl)
    (of_decide_eq_true (by kernel_rfl)) (by unfold Func.isWrapper; first | (rw [if_pos (by decide +kernel)]; kernel_rfl) | (rw [if_neg (by decide +kernel)]; exact ⟨rfl, rfl⟩))
    (fun os started H enc _ => lifted os started H enc)

end Go.Proofs.YtigmojilaadbhaaGreatDoor.scriptKinds
