/- . -/
import Derived.Test.YtigmojilaadbhaaGreatDoorRows
import Derived.Test.YtigmojilaadbhaaGreatDoorCards
import Derived.Test.YtigmojilaadbhaaGreatDoorTie
import Derived.WalkKit
import Derived.ProofKit
import Derived.OpenShut
import Derived.ShutString
import Derived.ChangeOld
import Derived.Below
import Derived.SizedLaws
import Derived.SevenTiedAt
import Derived.Test.YtigmojilaadbhaaGreatDoorMph
import Derived.Test.YtigmojilaadbhaaGreatDoorEngLaidSFin
import Derived.Test.YtigmojilaadbhaaGreatDoorMpy
set_option maxHeartbeats 0
namespace Go.Proofs.YtigmojilaadbhaaGreatDoor.scriptParses
open Go.ChangeShapes Go.WideShapes Go.ChangeAt Go.RowKit Go.Proofs.Tryz
open Go.Eng (ACalls Heap)
open Go.Pln (Bytes)
theorem own : ownKnob prog.godebug = none := by kernel_rfl
theorem laidOut : laidOutB prog = true := by kernel_rfl
theorem any (s : Bytes) (h : Heap) (hG : prog.globals.size ≤ h.next) (hT : ∀ x ∈ tabsT, h.get x.1 = some x.2) : ACalls prog 7 [str s] h fun v _ => v = .bool true :=
 (qhn s h (tabs_of hT) (Bi globals_n hG)).mono fun _ _ e => e.1
set_option maxRecDepth 100000 in
theorem lifted (os : Os) (started : os.Started) (H : Type) (enc : TypeId × Value → H) :
  ReturnsInHanded {} Tryz.checked os 7 .any (fun w args => (Rows.scriptParsesSpec.pre enc prog Tryz.f7 [] false w args ∧ laidMetH prog laidL w) ∧ sizedMet enc prog Tryz.f7 (OpenSpec.ofChange Rows.scriptParsesSpec) false w args) (Rows.scriptParsesSpec.post enc prog Tryz.f7 false true false false) := by
 refine returnsInHanded_of_change_and (C := Tryz.checked) (X := fun w _ => laidMetH prog laidL w) (fun _ _ _ hh h => h.of_heap hh) own started (by kernel_rfl) func7
  (ChangeSpec.witness_shaped (enc := enc) (C := Tryz.checked) (os := os) (X := fun w _ => laidMetH prog laidL w) false (World.doorLaid prog 86 os) #[.string ⟨#[]⟩] 8 rfl (qhy os _) (by kernel_rfl) (by kernel_rfl) (by kernel_rfl) (door_met os _)) ?_
 intro W base args ds gs before hval0 hW _ hsz0 hL _
 have hval : ∀ (j : Nat) t v, Tryz.f7.params[j]? = some t → args[j]? = some v → Value.okWide prog W .any base t v := hval0
 have hsz : (DataW.weightsEach prog (Tryz.f7.params.toList ++ Rows.scriptParsesSpec.plain.varTypes prog) (ds ++ gs)).all (· ≤ reachBytes) = true := hsz0
 have hW' := hW
 obtain ⟨p, q, hA0, hV, rfl, hfz, hnd⟩ := hW
 have hA : DataW.TrodAll enc prog W 0 (fun _ => true) true Tryz.f7.params.toList args.toList ds p := hA0
 rw [Tryz.params7] at hA hval hsz
 obtain ⟨v0, vs0, d0, ds0, p0, q0, hargs, rfl, rfl, h0, r0⟩ := trodAll_cons hA
 obtain ⟨rfl, rfl, rfl⟩ := trodAll_nil r0
 obtain ⟨rfl, rfl⟩ := trodVars_none hV
 obtain rfl : args = #[v0] := by cases args; simpa using hargs
 obtain ⟨s, rfl⟩ := Go.Eng.str_of_ok underlying9 (hval 0 9 v0 rfl rfl)
 refine (Go.Eng.law_laidS tabsT qho (told_tabs hL) (any s)).mono fun e W' ⟨he, bel⟩ => ?_
 subst he
 exact ⟨_, rfl, _, _, _, [], _, [], hW', trodAll_mk1 (shut_bool underlying4 _), Go.Eng.trodAll_stays laidOut bel _ _ _ _ (by decide +kernel) hA0, rfl, bel.frame _, fun h => by cases h⟩
end Go.Proofs.YtigmojilaadbhaaGreatDoor.scriptParses
