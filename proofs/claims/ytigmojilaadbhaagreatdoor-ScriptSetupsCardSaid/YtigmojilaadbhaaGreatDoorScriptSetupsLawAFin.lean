/- . -/
import Derived.Test.YtigmojilaadbhaaGreatDoorRows
import Derived.Test.YtigmojilaadbhaaGreatDoorCards
import Derived.Test.YtigmojilaadbhaaGreatDoorTie
import Derived.WalkKit
import Derived.ProofKit
import Derived.OpenShut
import Derived.ShutString
import Derived.ChangeOld
import Derived.Below
import Derived.SizedLaws
import Derived.SevenTiedAt
import Derived.Test.YtigmojilaadbhaaGreatDoorMfh
import Derived.Test.YtigmojilaadbhaaGreatDoorMfs
import Derived.Test.YtigmojilaadbhaaGreatDoorMfy
set_option maxHeartbeats 0
namespace Go.Proofs.YtigmojilaadbhaaGreatDoor.scriptSetups
open Go.ChangeShapes Go.WideShapes Go.ChangeAt Go.RowKit
open Go.Eng (RdV ACalls Heap qbQ qa8 plainT bstr)
attribute [local irreducible] Go.Eng.RdV Go.Eng.Rd
theorem own : ownKnob Tryz.prog.godebug = none := by kernel_rfl
theorem laidOut : laidOutB Tryz.prog = true := by kernel_rfl
theorem any (h : Heap) (av : List Value) (hG : Tryz.prog.globals.size ≤ h.next) (hl : av.length = 1) (ha : ∀ (j : Nat) t a, ([24] : List TypeId)[j]? = some t → av[j]? = some a → RdV Tryz.prog h 9 t a) (hT : ∀ x ∈ tabsT, h.get x.1 = some x.2) : ACalls Tryz.prog 9 av h fun v _ => v = .bool true := by
 have h8 : 8 ≤ h.next := Nat.le_trans qgz hG
 have tabs := tabs_of hT
 match av, hl with
 | [a0], _ =>
  obtain ⟨x_v, x, rfl, x_r⟩ := setv_in (ha 0 24 a0 rfl rfl)
  exact (qhg x x_v h tabs h8 x_r).mono fun _ _ e => e.1
set_option maxRecDepth 100000 in
theorem lifted (os : Os) (started : os.Started) (H : Type) (enc : TypeId × Value → H) :
  ReturnsInHanded {} Tryz.checked os 9 .any (fun w args => (Rows.scriptSetupsSpec.pre enc Tryz.prog Tryz.f9 [] false w args ∧ laidMetH Tryz.prog laidL w) ∧ sizedMet enc Tryz.prog Tryz.f9 (OpenSpec.ofChange Rows.scriptSetupsSpec) false w args) (Rows.scriptSetupsSpec.post enc Tryz.prog Tryz.f9 false true false false) := by
 refine returnsInHanded_of_change_and (C := Tryz.checked) (X := fun w _ => laidMetH Tryz.prog laidL w) (fun _ _ _ hh h => h.of_heap hh) own started (by kernel_rfl) Tryz.func9
  (ChangeSpec.witness_shaped (enc := enc) (C := Tryz.checked) (os := os) (X := fun w _ => laidMetH Tryz.prog laidL w) false (World.doorLaid Tryz.prog 86 os) #[.agg #[.int .i64 0, .slice none 0 0, .int .i64 0, .int .i64 0, .int .i64 0]] 8 rfl (qd9 os _) (by kernel_rfl) (by kernel_rfl) (by kernel_rfl) (qhM os _)) ?_
 intro W base args ds gs before hval0 hW _ hsz0 hL _
 have hval : ∀ (j : Nat) t v, Tryz.f9.params[j]? = some t → args[j]? = some v → Value.okWide Tryz.prog W .any base t v := hval0
 have hsz : (DataW.weightsEach Tryz.prog (Tryz.f9.params.toList ++ Rows.scriptSetupsSpec.plain.varTypes Tryz.prog) (ds ++ gs)).all (· ≤ reachBytes) = true := hsz0
 have hW' := hW
 obtain ⟨p, q, hA0, hV, rfl, hfz, hnd⟩ := hW
 have hA : DataW.TrodAll enc Tryz.prog W 0 (fun _ => true) true Tryz.f9.params.toList args.toList ds p := hA0
 rw [Tryz.params9] at hA hval hsz
 obtain ⟨v0, vs0, d0, ds0, p0, q0, hargs, rfl, rfl, h0, r0⟩ := trodAll_cons hA
 obtain ⟨rfl, rfl, rfl⟩ := trodAll_nil r0
 obtain ⟨rfl, rfl⟩ := trodVars_none hV
 have hs : (DataW.weightsEach Tryz.prog [24] [d0]).all (· ≤ reachBytes) = true := by
  have h0 : (DataW.weightsEach Tryz.prog ([24] ++ []) ([d0] ++ [])).all (· ≤ reachBytes) = true := hsz
  simpa using h0
 refine (qbQ (n := 8) (ts := [24]) tabsT qd3 (qgy hL) hA (by decide +kernel) (fun j t v ht hv => hval j t v (by simpa using ht) (by simpa using hv)) hs any).mono fun e W' ⟨he, bel⟩ => ?_
 subst he
 exact ⟨_, rfl, _, _, _, [], _, [], hW', trodAll_mk1 (shut_bool Tryz.underlying4 _), qa8 laidOut bel _ _ _ _ (by decide +kernel) hA0, rfl, bel.frame _, fun h => by cases h⟩
end Go.Proofs.YtigmojilaadbhaaGreatDoor.scriptSetups
