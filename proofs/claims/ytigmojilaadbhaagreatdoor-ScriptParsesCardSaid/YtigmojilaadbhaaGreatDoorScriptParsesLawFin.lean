/- . -/
import Derived.Test.YtigmojilaadbhaaGreatDoorRows
import Derived.Test.YtigmojilaadbhaaGreatDoorCards
import Derived.Test.YtigmojilaadbhaaGreatDoorTie
import Derived.WalkKit
import Derived.ProofKit
import Derived.SevenTiedAt
import Derived.Test.YtigmojilaadbhaaGreatDoorScriptParsesLawBFin
set_option maxHeartbeats 0
namespace Go.Proofs.YtigmojilaadbhaaGreatDoor.scriptParses
open Go.ChangeShapes Go.WideShapes Go.ChangeAt Go.RowKit Go.Proofs.Tryz
theorem proved : Rows.ScriptParsesCardSaid :=
 Claim7.holds_tied_plain_at .later [] [.data, .data, .data, .sentinel, .sentinel, .listed, .data] true (true, "f39f3dff8bb8a46e194595cdb01d0022645f2f83a3e37c482f92a39adf432b62") true
  over (fun _ h => by cases h) (by kernel_rfl) (fun _ h => by cases h) scriptParses_row_tie rfl ⟨rfl, rfl⟩ (by kernel_rfl) rfl
  (fun f fn hf hfn => by
   obtain rfl : f = 7 := Option.some.inj ((show prog.funcNamed "hectare/hectarelaw26.ScriptParses" = some 7 by kernel_rfl).symm.trans hf) |>.symm
   obtain rfl : fn = Tryz.f7 := (Option.some.inj (func7.symm.trans hfn)).symm
   exact ⟨by kernel_rfl, fun j t ht => by
    rw [Tryz.params7] at ht
    have hm : t ∈ ([9] : List TypeId) := by simpa using By ht
    have hall : (([9] : List TypeId).all fun u => !prog.wantsStandIn u) = true := by kernel_rfl
    exact (show prog.wantsStandIn t = false by simpa using Ai.1 hall t hm)⟩)
  (by kernel_rfl)
#print axioms proved
end Go.Proofs.YtigmojilaadbhaaGreatDoor.scriptParses
