/- . -/
import Derived.Test.YtigmojilaadbhaaGreatDoorRows
import Derived.Test.YtigmojilaadbhaaGreatDoorCards
import Derived.Test.YtigmojilaadbhaaGreatDoorTie
import Derived.WalkKit
import Derived.ProofKit
import Derived.OpenShut
import Derived.ShutString
import Derived.ChangeOld
import Derived.Below
import Derived.SizedLaws
import Derived.SevenTiedAt
import Derived.Test.YtigmojilaadbhaaGreatDoorMdi
import Derived.Test.YtigmojilaadbhaaGreatDoorMdu
import Derived.Test.YtigmojilaadbhaaGreatDoorMdz
set_option maxHeartbeats 0
namespace Go.Proofs.YtigmojilaadbhaaGreatDoor.scriptBounds
open Go.ChangeShapes Go.WideShapes Go.ChangeAt Go.RowKit
open Go.Eng (RdV ACalls Heap qbi qaO plainT bstr)
attribute [local irreducible] Go.Eng.RdV Go.Eng.Rd
theorem own : ownKnob Tryz.prog.godebug = none := by kernel_rfl
theorem laidOut : laidOutB Tryz.prog = true := by kernel_rfl
theorem any (h : Heap) (av : List Value) (hG : Tryz.prog.globals.size ≤ h.next) (hl : av.length = 0) (_ : ∀ (j : Nat) t a, ([] : List TypeId)[j]? = some t → av[j]? = some a → RdV Tryz.prog h 9 t a) (hT : ∀ x ∈ tabsT, h.get x.1 = some x.2) : ACalls Tryz.prog 11 av h fun v _ => v = .bool true := by
 have h8 : 8 ≤ h.next := Nat.le_trans qd1 hG
 have tabs := qg3 hT
 match av, hl with
 | [], _ =>
  exact (qhd h tabs h8).mono fun _ _ e => e.1
set_option maxRecDepth 100000 in
theorem lifted (os : Os) (started : os.Started) (H : Type) (enc : TypeId × Value → H) :
  ReturnsInHanded {} Tryz.checked os 11 .any (fun w args => (Rows.scriptBoundsSpec.pre enc Tryz.prog Tryz.f11 [] false w args ∧ laidMetH Tryz.prog laidL w) ∧ sizedMet enc Tryz.prog Tryz.f11 (OpenSpec.ofChange Rows.scriptBoundsSpec) false w args) (Rows.scriptBoundsSpec.post enc Tryz.prog Tryz.f11 false true false false) := by
 refine returnsInHanded_of_change_and (C := Tryz.checked) (X := fun w _ => laidMetH Tryz.prog laidL w) (fun _ _ _ hh h => h.of_heap hh) own started (by kernel_rfl) Tryz.func11
  (ChangeSpec.witness_shaped (enc := enc) (C := Tryz.checked) (os := os) (X := fun w _ => laidMetH Tryz.prog laidL w) false (World.doorLaid Tryz.prog 86 os) #[] 8 rfl (qcM os _) (by kernel_rfl) (by kernel_rfl) (by kernel_rfl) (qfC os _)) ?_
 intro W base args ds gs before hval0 hW _ hsz0 hL _
 have hval : ∀ (j : Nat) t v, Tryz.f11.params[j]? = some t → args[j]? = some v → Value.okWide Tryz.prog W .any base t v := hval0
 have hsz : (DataW.weightsEach Tryz.prog (Tryz.f11.params.toList ++ Rows.scriptBoundsSpec.plain.varTypes Tryz.prog) (ds ++ gs)).all (· ≤ reachBytes) = true := hsz0
 have hW' := hW
 obtain ⟨p, q, hA0, hV, rfl, hfz, hnd⟩ := hW
 have hA : DataW.TrodAll enc Tryz.prog W 0 (fun _ => true) true Tryz.f11.params.toList args.toList ds p := hA0
 rw [Tryz.params11] at hA hval hsz
 obtain ⟨hargs, rfl, rfl⟩ := trodAll_nil hA
 obtain ⟨rfl, rfl⟩ := trodVars_none hV
 have hs : (DataW.weightsEach Tryz.prog [] ([] : List (DataW H))).all (· ≤ reachBytes) = true := rfl
 refine (qbi (r := .any) (base := base) (n := 8) (ts := []) tabsT qcJ (qd2 hL) hA (by decide +kernel) (fun j t v ht hv => by simp at ht) hs any).mono fun e W' ⟨he, bel⟩ => ?_
 subst he
 exact ⟨_, rfl, _, _, _, [], _, [], hW', trodAll_mk1 (shut_bool Tryz.underlying4 _), qaO laidOut bel _ _ _ _ (by decide +kernel) hA0, rfl, bel.frame _, fun h => by cases h⟩
end Go.Proofs.YtigmojilaadbhaaGreatDoor.scriptBounds
