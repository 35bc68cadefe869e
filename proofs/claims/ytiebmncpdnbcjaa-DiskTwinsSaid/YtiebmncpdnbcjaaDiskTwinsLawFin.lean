/-
  THE LAW diskTwins: whatever the input, the call returns true, and each argument reads afterwards avs it did. No condition.
-/
import Derived.Test.YtiebmncpdnbcjaaRows
import Derived.WalkKit
import Derived.ProofKit
import Derived.OpenShut
import Derived.ShutString
import Derived.ChangeOld
import Derived.Below
import Derived.SizedLaws
import Derived.Test.YtiebmncpdnbcjaaMrgh
import Derived.Test.YtiebmncpdnbcjaaDskZjFin
namespace Go.Proofs.Ytiebmncpdnbcjaa.diskTwins
open Go.ChangeShapes Go.WideShapes Go.ChangeAt Go.RowKit
open Go.Eng (RdV ACalls Heap law_any trodAll_stays plainT bstr)

attribute [local irreducible] Go.Eng.RdV Go.Eng.Rd
theorem own : ownKnob Try.prog.godebug = none := by kernel_rfl
theorem laidOut : laidOutB Try.prog = true := by kernel_rfl
theorem any (h : Heap) (av : List Value) (hl : av.length = 4) (ha : ∀ (j : Nat) t a, ([73, 22, 22, 41] : List TypeId)[j]? = some t → av[j]? = some a → RdV Try.prog h 6 t a) : ACalls Try.prog 9 av h fun v _ => v = .bool true := by
  match av, hl with
  | [a0, a1, a2, a3], _ =>
    obtain ⟨rooms, rooms_2, rfl⟩ := rooms_in (ha 0 73 a0 rfl rfl)
    obtain ⟨L, L_r⟩ := steps_in (ha 1 22 a1 rfl rfl)
    obtain ⟨M, M_r⟩ := steps_in (ha 2 22 a2 rfl rfl)
    obtain ⟨x, rfl, x_r⟩ := stepv_in (ha 3 41 a3 rfl rfl)
    exact twins_walk rooms rooms_2 a1 L a2 M x h L_r M_r x_r

set_option maxRecDepth 100000 in
theorem lifted (os : Os) (started : os.Started) (H : Type) (enc : TypeId × Value → H) :
    ReturnsInHanded {} Try.checked os 9 .any (Rows.diskTwinsSpec.pre6 enc Try.prog Try.f9 Rows.diskTwinsRow.domain false) (Rows.diskTwinsSpec.post enc Try.prog Try.f9 false true false false) := by
  refine returnsInHanded_of_change_sized (C := Try.checked) own started (by kernel_rfl) Try.func9
    (ChangeSpec.witness6 (enc := enc) (C := Try.checked) false ⟨#[], #[.agg #[.int .i64 0, .int .i64 0], .slice none 0 0, .slice none 0 0, .agg #[.int .i64 0, .string ⟨#[]⟩, .string ⟨#[]⟩, .slice none 0 0, .slice none 0 0]], []⟩ 8 (by kernel_rfl) (by kernel_rfl) (by kernel_rfl) (by kernel_rfl)) ?_
  intro W base args ds gs before hval0 hW hcnd hsz0 _
  have hval : ∀ (j : Nat) t v, Try.f9.params[j]? = some t → args[j]? = some v → Value.okWide Try.prog W .any base t v := hval0
  have hsz : (DataW.weightsEach Try.prog (Try.f9.params.toList ++ Rows.diskTwinsSpec.plain.varTypes Try.prog) (ds ++ gs)).all (· ≤ reachBytes) = true := hsz0
  have hW' := hW
  obtain ⟨p, q, hA0, hV, rfl, hfz, hnd⟩ := hW
  have hA : DataW.TrodAll enc Try.prog W 0 (fun _ => true) true Try.f9.params.toList args.toList ds p := hA0
  rw [Try.params9] at hA hval hsz
  obtain ⟨v0, vs0, d0, ds0, p0, q0, hargs, rfl, rfl, h0, r0⟩ := trodAll_cons hA
  obtain ⟨v1, vs1, d1, ds1, p1, q1, rfl, rfl, rfl, h1, r1⟩ := trodAll_cons r0
  obtain ⟨v2, vs2, d2, ds2, p2, q2, rfl, rfl, rfl, h2, r2⟩ := trodAll_cons r1
  obtain ⟨v3, vs3, d3, ds3, p3, q3, rfl, rfl, rfl, h3, r3⟩ := trodAll_cons r2
  obtain ⟨rfl, rfl, rfl⟩ := trodAll_nil r3
  obtain ⟨rfl, rfl⟩ := trodVars_none hV
  have hs : (DataW.weightsEach Try.prog [73, 22, 22, 41] [d0, d1, d2, d3]).all (· ≤ reachBytes) = true := by
    have h0 : (DataW.weightsEach Try.prog ([73, 22, 22, 41] ++ []) ([d0, d1, d2, d3] ++ [])).all (· ≤ reachBytes) = true := hsz
    simpa using h0
  refine (law_any (n := 5) (ts := [73, 22, 22, 41]) hA (by decide +kernel) (fun j t v ht hv => hval j t v (by simpa using ht) (by simpa using hv)) hs any).mono fun e W' ⟨he, bel⟩ => ?_
  subst he
  exact ⟨_, rfl, _, _, _, [], _, [], hW', trodAll_mk1 (shut_bool Try.underlying4 _), trodAll_stays laidOut bel _ _ _ _ (by decide +kernel) hA0, rfl, bel.frame _, fun h => by cases h⟩

theorem over : Rows.diskTwinsRow.holds Try.pinned (OpenSpec.ofChange Rows.diskTwinsSpec) :=
  OpenClaim.holds_of_wide 9 Try.f9 rfl rfl rfl rfl rfl rfl rfl ⟨rfl, rfl, rfl, rfl, rfl⟩ rfl rfl rfl rfl rfl (by kernel_rfl) Try.func9 (by kernel_rfl)
    (of_decide_eq_true (by kernel_rfl)) (by unfold Func.isWrapper; first | (rw [if_pos (by decide +kernel)]; kernel_rfl) | (rw [if_neg (by decide +kernel)]; exact ⟨rfl, rfl⟩))
    (fun os started H enc _ => lifted os started H enc)

/-- ████ THE STATEMENT ████ -/
theorem proved : Rows.DiskTwinsSaid := over
#print axioms proved
end Go.Proofs.Ytiebmncpdnbcjaa.diskTwins
