/-
  THE LAW logNil: whatever the input, the call returns true, and each argument reads afterwards avs it did. No condition.
-/
import Derived.Test.YtnioldkmckmajaaRows
import Derived.WalkKit
import Derived.ProofKit
import Derived.OpenShut
import Derived.ShutString
import Derived.ChangeOld
import Derived.Below
import Derived.SizedLaws
import Derived.Test.YtnioldkmckmajaaMnw
import Derived.Test.YtnioldkmckmajaaMnv
set_option maxHeartbeats 0
namespace Go.Proofs.Ytnioldkmckmajaa.logNil
open Go.ChangeShapes Go.WideShapes Go.ChangeAt Go.RowKit
open Go.Eng (RdV ACalls Heap law_any trodAll_stays plainT bstr)
attribute [local irreducible] Go.Eng.RdV Go.Eng.Rd
theorem own : ownKnob Try.prog.godebug = none := by kernel_rfl
theorem laidOut : laidOutB Try.prog = true := by kernel_rfl
theorem any (h : Heap) (av : List Value) (hl : av.length = 0) (_ : ∀ (j : Nat) t a, ([] : List TypeId)[j]? = some t → av[j]? = some a → RdV Try.prog h 6 t a) : ACalls Try.prog 3 av h fun v _ => v = .bool true := by
  match av, hl with
  | [], _ =>
    exact nil_c h
set_option maxRecDepth 100000 in
theorem lifted (os : Os) (started : os.Started) (H : Type) (enc : TypeId × Value → H) :
    ReturnsInHanded {} Try.checked os 3 .any (Rows.logNilSpec.pre6 enc Try.prog Try.f3 Rows.logNilRow.domain false) (Rows.logNilSpec.post enc Try.prog Try.f3 false true false false) := by
  refine returnsInHanded_of_change_sized (C := Try.checked) own started (by kernel_rfl) Try.func3
    (ChangeSpec.witness6 (enc := enc) (C := Try.checked) false ⟨#[], #[], []⟩ 8 (by kernel_rfl) (by kernel_rfl) (by kernel_rfl) (by kernel_rfl)) ?_
  intro W base args ds gs before hval0 hW hcnd hsz0 _
  have hval : ∀ (j : Nat) t v, Try.f3.params[j]? = some t → args[j]? = some v → Value.okWide Try.prog W .any base t v := hval0
  have hsz : (DataW.weightsEach Try.prog (Try.f3.params.toList ++ Rows.logNilSpec.plain.varTypes Try.prog) (ds ++ gs)).all (· ≤ reachBytes) = true := hsz0
  have hW' := hW
  obtain ⟨p, q, hA0, hV, rfl, hfz, hnd⟩ := hW
  have hA : DataW.TrodAll enc Try.prog W 0 (fun _ => true) true Try.f3.params.toList args.toList ds p := hA0
  rw [Try.params3] at hA hval hsz
  obtain ⟨hargs, rfl, rfl⟩ := trodAll_nil hA
  obtain ⟨rfl, rfl⟩ := trodVars_none hV
  have hs : (DataW.weightsEach Try.prog [] ([] : List (DataW H))).all (· ≤ reachBytes) = true := rfl
  refine (law_any (r := .any) (base := base) (n := 5) (ts := []) hA (by decide +kernel) (fun j t v ht hv => by simp at ht) hs any).mono fun e W' ⟨he, bel⟩ => ?_
  subst he
  exact ⟨_, rfl, _, _, _, [], _, [], hW', trodAll_mk1 (shut_bool Try.underlying4 _), trodAll_stays laidOut bel _ _ _ _ (by decide +kernel) hA0, rfl, bel.frame _, fun h => by cases h⟩
theorem over : Rows.logNilRow.holds Try.pinned (OpenSpec.ofChange Rows.logNilSpec) :=
  OpenClaim.holds_of_wide 3 Try.f3 rfl rfl rfl rfl rfl rfl rfl ⟨rfl, rfl, rfl, rfl, rfl⟩ rfl rfl rfl rfl rfl (by kernel_rfl) Try.func3 (by kernel_rfl)
    (of_decide_eq_true (by kernel_rfl)) (by unfold Func.isWrapper; first | (rw [if_pos (by decide +kernel)]; kernel_rfl) | (rw [if_neg (by decide +kernel)]; exact ⟨rfl, rfl⟩))
    (fun os started H enc _ => lifted os started H enc)
theorem proved : Rows.LogNilSaid := over
#print axioms proved
end Go.Proofs.Ytnioldkmckmajaa.logNil
