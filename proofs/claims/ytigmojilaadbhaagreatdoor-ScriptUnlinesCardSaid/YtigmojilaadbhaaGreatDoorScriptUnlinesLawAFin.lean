/- . -/
import Derived.Test.YtigmojilaadbhaaGreatDoorRows
import Derived.Test.YtigmojilaadbhaaGreatDoorCards
import Derived.Test.YtigmojilaadbhaaGreatDoorTie
import Derived.WalkKit
import Derived.ProofKit
import Derived.OpenShut
import Derived.ShutString
import Derived.ChangeOld
import Derived.Below
import Derived.SizedLaws
import Derived.SevenTiedAt
import Derived.Test.YtigmojilaadbhaaGreatDoorMuh
import Derived.Test.YtigmojilaadbhaaGreatDoorMus
import Derived.Test.YtigmojilaadbhaaGreatDoorMuy
set_option maxHeartbeats 0
namespace Go.Proofs.YtigmojilaadbhaaGreatDoor.scriptUnlines
open Go.ChangeShapes Go.WideShapes Go.ChangeAt Go.RowKit
open Go.Eng (RdV ACalls Heap qcJ qbF plainT bstr)
attribute [local irreducible] Go.Eng.RdV Go.Eng.Rd
theorem own : ownKnob Tryz.prog.godebug = none := by kernel_rfl
theorem laidOut : laidOutB Tryz.prog = true := by kernel_rfl
theorem any (h : Heap) (av : List Value) (hG : Tryz.prog.globals.size ≤ h.next) (hl : av.length = 1) (ha : ∀ (j : Nat) t a, ([9] : List TypeId)[j]? = some t → av[j]? = some a → RdV Tryz.prog h 9 t a) (hT : ∀ x ∈ tabsT, h.get x.1 = some x.2) : ACalls Tryz.prog 5 av h fun v _ => v = .bool true := by
 have h8 : 8 ≤ h.next := Nat.le_trans globals_n hG
 have tabs := tabs_of hT
 match av, hl with
 | [a0], _ =>
  obtain ⟨s, rfl, s_l⟩ := str_in (ha 0 9 a0 rfl rfl)
  exact (qgi s h tabs h8).mono fun _ _ e => e.1
set_option maxRecDepth 100000 in
theorem lifted (os : Os) (started : os.Started) (H : Type) (enc : TypeId × Value → H) :
  ReturnsInHanded {} Tryz.checked os 5 .any (fun w args => (Rows.scriptUnlinesSpec.pre enc Tryz.prog Tryz.f5 [] false w args ∧ laidMetH Tryz.prog laidL w) ∧ sizedMet enc Tryz.prog Tryz.f5 (OpenSpec.ofChange Rows.scriptUnlinesSpec) false w args) (Rows.scriptUnlinesSpec.post enc Tryz.prog Tryz.f5 false true false false) := by
 refine returnsInHanded_of_change_and (C := Tryz.checked) (X := fun w _ => laidMetH Tryz.prog laidL w) (fun _ _ _ hh h => h.of_heap hh) own started (by kernel_rfl) Tryz.func5
  (ChangeSpec.witness_shaped (enc := enc) (C := Tryz.checked) (os := os) (X := fun w _ => laidMetH Tryz.prog laidL w) false (World.doorLaid Tryz.prog 86 os) #[.string ⟨#[]⟩] 8 rfl (qho os _) (by kernel_rfl) (by kernel_rfl) (by kernel_rfl) (door_met os _)) ?_
 intro W base args ds gs before hval0 hW _ hsz0 hL _
 have hval : ∀ (j : Nat) t v, Tryz.f5.params[j]? = some t → args[j]? = some v → Value.okWide Tryz.prog W .any base t v := hval0
 have hsz : (DataW.weightsEach Tryz.prog (Tryz.f5.params.toList ++ Rows.scriptUnlinesSpec.plain.varTypes Tryz.prog) (ds ++ gs)).all (· ≤ reachBytes) = true := hsz0
 have hW' := hW
 obtain ⟨p, q, hA0, hV, rfl, hfz, hnd⟩ := hW
 have hA : DataW.TrodAll enc Tryz.prog W 0 (fun _ => true) true Tryz.f5.params.toList args.toList ds p := hA0
 rw [Tryz.params5] at hA hval hsz
 obtain ⟨v0, vs0, d0, ds0, p0, q0, hargs, rfl, rfl, h0, r0⟩ := trodAll_cons hA
 obtain ⟨rfl, rfl, rfl⟩ := trodAll_nil r0
 obtain ⟨rfl, rfl⟩ := trodVars_none hV
 have hs : (DataW.weightsEach Tryz.prog [9] [d0]).all (· ≤ reachBytes) = true := by
  have h0 : (DataW.weightsEach Tryz.prog ([9] ++ []) ([d0] ++ [])).all (· ≤ reachBytes) = true := hsz
  simpa using h0
 refine (qcJ (n := 8) (ts := [9]) tabsT qg1 (told_tabs hL) hA (by decide +kernel) (fun j t v ht hv => hval j t v (by simpa using ht) (by simpa using hv)) hs any).mono fun e W' ⟨he, bel⟩ => ?_
 subst he
 exact ⟨_, rfl, _, _, _, [], _, [], hW', trodAll_mk1 (shut_bool Tryz.underlying4 _), qbF laidOut bel _ _ _ _ (by decide +kernel) hA0, rfl, bel.frame _, fun h => by cases h⟩
end Go.Proofs.YtigmojilaadbhaaGreatDoor.scriptUnlines
