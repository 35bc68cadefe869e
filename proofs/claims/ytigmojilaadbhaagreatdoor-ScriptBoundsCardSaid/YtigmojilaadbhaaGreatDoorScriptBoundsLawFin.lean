/- . -/
import Derived.Test.YtigmojilaadbhaaGreatDoorRows
import Derived.Test.YtigmojilaadbhaaGreatDoorCards
import Derived.Test.YtigmojilaadbhaaGreatDoorTie
import Derived.WalkKit
import Derived.ProofKit
import Derived.SevenTiedAt
import Derived.Test.YtigmojilaadbhaaGreatDoorScriptBoundsLawBFin
set_option maxHeartbeats 0
namespace Go.Proofs.YtigmojilaadbhaaGreatDoor.scriptBounds
open Go.ChangeShapes Go.WideShapes Go.ChangeAt Go.RowKit
open Go.Eng (RdV ACalls Heap qbi qaO plainT bstr)
attribute [local irreducible] Go.Eng.RdV Go.Eng.Rd
theorem proved : Rows.ScriptBoundsCardSaid :=
 Claim7.holds_tied_plain_at .later [] [.data, .data, .data, .sentinel, .sentinel, .listed, .data] true (true, "f39f3dff8bb8a46e194595cdb01d0022645f2f83a3e37c482f92a39adf432b62") true
  over (fun _ h => by cases h) (by kernel_rfl) (fun _ h => by cases h) scriptBounds_row_tie rfl ⟨rfl, rfl⟩ (by kernel_rfl) rfl
  (fun f fn hf hfn => by
   obtain rfl : f = 11 := Option.some.inj ((show Tryz.prog.funcNamed "hectare/hectarelaw26.ScriptBounds" = some 11 by kernel_rfl).symm.trans hf) |>.symm
   obtain rfl : fn = Tryz.f11 := (Option.some.inj (Tryz.func11.symm.trans hfn)).symm
   exact ⟨by kernel_rfl, fun j t ht => by
    rw [Tryz.params11] at ht
    simp at ht⟩)
  (by kernel_rfl)
#print axioms proved
end Go.Proofs.YtigmojilaadbhaaGreatDoor.scriptBounds
