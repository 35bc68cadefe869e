/-
  The engine, part V: scopes of labels that nothing jumps back to.
-/
import Derived.Test.YtjbnfcoiknoblaaEngU
import Derived.Scope
namespace Go.Eng
open Go

section
variable {F : Fence} {n : Nat} {P : Program} {b : Frame} {a : Act} {k : List Item} {cs : List Frame} {w : World} {Q : Exit → Act → World → Prop}
theorem stepR_scope {c : Code} : step P (lone (b.atR a (.code (.scope c) :: k)) cs w) = .next (lone (b.atR a (.code c :: .inScope c :: k)) cs w) :=
  step_lone_go (by simp [stepG, stepG.exec, Frame.atR])
theorem stepR_inScope {c : Code} : step P (lone (b.atR a (.inScope c :: k)) cs w) = .next (lone (b.atR a k) cs w) :=
  step_lone_go (by simp [stepG, stepG.exec, Frame.atR])
theorem wpIn_scope {c : Code} (h : c.wpIn F n P (Exit.noGoto Q) a w) : (Code.scope c).wpIn F n P Q a w := by
  intro b k cs hro hb hr
  have h0 : (lone (b.atR a (.code (.scope c) :: k)) cs w).fenced P F := fenced_calm hb hr rfl
  obtain ⟨e, a₁, w₁, hq, harr⟩ := h b (.inScope c :: k) cs hro hb hr
  cases e with
  | normal => exact ⟨.normal, a₁, w₁, hq, .head h0 stepR_scope (StepsIn.trans harr (.one (fenced_calm hb hr rfl) stepR_inScope))⟩
  | exit id =>
    have hx : exitTo id (.inScope c :: k) = exitTo id k := by simp [exitTo]
    exact ⟨_, a₁, w₁, hq, fun k' hk => .head h0 stepR_scope (harr.1 k' (by rw [hx]; exact hk)),
      fun hr' hk => let ⟨k₁, h1, h2⟩ := harr.2 hr' (by rw [hx]; exact hk); ⟨k₁, h1, .head h0 stepR_scope h2⟩⟩
  | goto l => exact hq.elim
  | ret => exact ⟨_, a₁, w₁, hq, .of_steps (.one h0 stepR_scope) harr⟩
  | panic ch => exact ⟨_, a₁, w₁, hq, .of_steps (.one h0 stepR_scope) harr⟩
  | outgrown => exact ⟨_, a₁, w₁, hq, .of_steps (.one h0 stepR_scope) harr⟩
end

section
variable {P : Program} {C : Ctx P} {ro : Option Nat} {N : Nat} {env : Env} {h : Heap} {s : Option Code}
@[reducible] def noGoX (Q : Exit → XQ) : Exit → XQ
  | .goto _, _, _, _ => False
  | ex, e, h, s => Q ex e h s
theorem XWp.scope {c : Code} {Q : Exit → XQ} (p : XWp C ro N c (noGoX Q) env h s) : XWp C ro N (.scope c) Q env h s := by
  intro φ a w l d r
  refine wpIn_scope (wpIn_mono (p φ a w l d r) fun ex a' w' hp => ?_)
  cases ex with
  | goto g => obtain ⟨_, _, _, _, k, _⟩ := hp; exact k.elim
  | _ => exact hp
@[reducible] def noGoQ (Q : Exit → Env → Heap → Prop) : Exit → Env → Heap → Prop
  | .goto _, _, _ => False
  | ex, e, h => Q ex e h
theorem AWp.scope {c : Code} {Q : Exit → Env → Heap → Prop} (p : AWp P N c (noGoQ Q) env h) : AWp P N (.scope c) Q env h := by
  intro φ a w d r
  refine wp_scope_straight (wp_mono (p φ a w d r) fun ex a' w' hp => ?_)
  cases ex with
  | goto g => obtain ⟨_, _, _, k, _⟩ := hp; exact k.elim
  | _ => exact hp
end
end Go.Eng
