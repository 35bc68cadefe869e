/- . -/
import Derived.Test.YtigmojilaadbhaaGreatDoorRows
import Derived.Test.YtigmojilaadbhaaGreatDoorCards
import Derived.Test.YtigmojilaadbhaaGreatDoorTie
import Derived.WalkKit
import Derived.ProofKit
import Derived.SevenTiedAt
import Derived.Test.YtigmojilaadbhaaGreatDoorScriptBackLawAFin
set_option maxHeartbeats 0
namespace Go.Proofs.YtigmojilaadbhaaGreatDoor.scriptBack
open Go.ChangeShapes Go.WideShapes Go.ChangeAt Go.RowKit
open Go.Eng (RdV ACalls Heap qbi qaO plainT bstr)
attribute [local irreducible] Go.Eng.RdV Go.Eng.Rd
theorem qgl {a b : Bool} (h1 : a = true) (h2 : b = true) : (a && b) = true := by rw [h1, h2]; rfl
theorem closed : joinedFacts Tryz.prog 12 Tryz.f12 Rows.scriptBackSpec Rows.scriptBackRow = true := by
 unfold joinedFacts
 repeat' (with_reducible refine qgl ?_ ?_)
 all_goals decide +kernel
theorem over : Rows.ScriptBackSaid :=
 OpenClaim.holds_of_wide 12 Tryz.f12 rfl rfl rfl rfl rfl rfl rfl ⟨rfl, rfl, rfl, rfl, rfl⟩ rfl rfl rfl rfl rfl (by kernel_rfl) Tryz.func12 closed
  (of_decide_eq_true (by kernel_rfl)) (by unfold Func.isWrapper; first | (rw [if_pos (by decide +kernel)]; kernel_rfl) | (rw [if_neg (by decide +kernel)]; exact ⟨rfl, rfl⟩))
  (fun os started H enc _ => lifted os started H enc)
end Go.Proofs.YtigmojilaadbhaaGreatDoor.scriptBack
