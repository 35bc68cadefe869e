/-
  The engine, part N: slices that the call makes and lets grow.
-/
import Derived.Test.YtdfehmmhlplhlaaEngM
namespace Go.Eng
open Go

variable {P : Program} {ρ : Operand → Value} {h : Heap} {K : Value → Heap → Prop} {dst : Option Tmp} {ty : TypeId} {pos : String} {aft : Array Edge} {g : Option (Nat × Bool)}

/-- A slice of the call's own, from block number B on, of elements of one cell: its cells are vs, and nothing is behind them. -/
def OS (B : Nat) (h : Heap) (e : TypeId) (v : Value) (vs : List Value) : Prop :=
  (v = .slice none 0 0 ∧ vs = []) ∨ ∃ i c, B ≤ i ∧ v = .slice (some ⟨i, 0, some 1⟩) vs.length c ∧ h.get i = some ⟨vs, e, true⟩
theorem OS.rs {B : Nat} {e : TypeId} {v : Value} {vs : List Value} (r : OS B h e v vs) : RS h v vs := by
  rcases r with ⟨rfl, rfl⟩ | ⟨i, c, _, rfl, hi⟩
  · exact RS.nil h
  · exact RS.own hi rfl
theorem OS.nil (B : Nat) (h : Heap) (e : TypeId) : OS B h e (.slice none 0 0) [] := .inl ⟨rfl, rfl⟩
theorem OS.new {B : Nat} {e : TypeId} {vs : List Value} {n c : Nat} (hB : B ≤ h.next) (hn : vs.length = n) : OS B (h.alloc ⟨vs, e, true⟩) e (.slice (some ⟨h.next, 0, some 1⟩) n c) vs := by
  subst hn
  exact .inr ⟨h.next, c, hB, rfl, Heap.alloc_new _ _⟩
/-- What does not lie in v's block stays. -/
def Keeps (v : Value) (h h' : Heap) : Prop := ∀ j b, h.get j = some b → (∀ s n c, v ≠ .slice (some ⟨j, 0, s⟩) n c) → h'.get j = some b
theorem Keeps.ext {B : Nat} {e : TypeId} {v : Value} {vs : List Value} {h0 h' : Heap} (k : Keeps v h h') (r : OS B h e v vs) (wf0 : WF h0) (hB : h0.next ≤ B) (hx : Ext h0 h) : Ext h0 h' := by
  intro j b hj
  refine k j b (hx j b hj) fun s n c hv => ?_
  have hlt := wf0.lt hj
  rcases r with ⟨rfl, _⟩ | ⟨i, c', hi, rfl, _⟩
  · cases hv
  · cases hv; omega
theorem OS.keep {B B' : Nat} {e e' : TypeId} {u v : Value} {us vs : List Value} {h' : Heap} (r : OS B h e u us) (k : Keeps v h h') (hne : ∀ i s n c s' n' c', u = .slice (some ⟨i, 0, s⟩) n c → v ≠ .slice (some ⟨i, 0, s'⟩) n' c') (_ : OS B' h e' v vs) : OS B h' e u us := by
  rcases r with ⟨rfl, rfl⟩ | ⟨i, c, h1, rfl, h2⟩
  · exact .inl ⟨rfl, rfl⟩
  · exact .inr ⟨i, c, h1, rfl, k i _ h2 fun s n c' => hne i _ _ _ s n c' rfl⟩
theorem OS.alloc {B : Nat} {e : TypeId} {v : Value} {vs : List Value} (r : OS B h e v vs) (wf : WF h) (b : Blk) : OS B (h.alloc b) e v vs := by
  rcases r with ⟨rfl, rfl⟩ | ⟨i, c, h1, rfl, h2⟩
  · exact .inl ⟨rfl, rfl⟩
  · exact .inr ⟨i, c, h1, rfl, wf.ext b i _ h2⟩
theorem OS.ext {B : Nat} {e : TypeId} {v : Value} {vs : List Value} {h' : Heap} (r : OS B h e v vs) (hx : Ext h h') : OS B h' e v vs := by
  rcases r with ⟨rfl, rfl⟩ | ⟨i, c, h1, rfl, h2⟩
  · exact .inl ⟨rfl, rfl⟩
  · exact .inr ⟨i, c, h1, rfl, hx i _ h2⟩

/-- append to a slice of the call's own. -/
theorem op_appendO {t t2 e : TypeId} {d2 : TypeDesc} {x y : Operand} {by_ B m : Nat} {z u v : Value} {vs news : List Value} [td : TyD P t (.slice e)] [t2d : TyD P t2 d2] [ti : TyI P e 1 by_ z] (hd2 : appB d2 = true) (wf : WF h) (hB : B ≤ h.next)
    (r : OS B h e u vs) (hx : ρ x = u) (hy : ρ y = v) (hs : Src h 1 v m news) (hm : news.length = m) (hone : news.all oneB = true) (h1 : vs.length + m ≤ maxLen) (h2 : (vs.length + m) * by_ ≤ 140737488355328)
    (kk : ∀ u' h', OS B h' e u' (vs ++ news) → Keeps u h h' → WF h' → h.next ≤ h'.next → K u' h') : AOp P ⟨dst, .call ⟨.builtin .append, #[x, y], #[t, t2]⟩, ty, pos, aft, g⟩ ρ h K := by
  rcases r with ⟨rfl, rfl⟩ | ⟨i, c, hBi, rfl, hi⟩
  · refine op_appendNil (z := z) hd2 hx hy hs (by simpa using h1) (by simpa using h2) (fun hm0 => ?_) (fun hm0 => ?_)
    · have : news = [] := List.eq_nil_of_length_eq_zero (by omega)
      subst this
      exact kk _ _ (.inl ⟨rfl, rfl⟩) (fun j b hj _ => hj) wf (Nat.le_refl _)
    · exact kk _ _ (.inr ⟨h.next, m + 1, hB, by simp [hm], by simp [Heap.alloc_new]⟩) (fun j b hj _ => wf.ext _ j b hj) (wf.alloc _) (by simp [Heap.alloc])
  · refine op_append (z := z) hd2 hx hy hi rfl rfl (by simp) hs hone h1 h2 ?_
    refine kk _ _ (.inr ⟨h.next, vs.length + m + 1, hB, by simp [hm], Heap.kill_alloc_new _ _ _⟩) (fun j b hj hne => ?_) ((wf.kill i).alloc _) (by simp [Heap.alloc, Heap.kill])
    have := wf.lt hj
    rw [Heap.kill_alloc_old (by omega) (fun e => hne (some 1) vs.length c (by rw [e]))]
    exact hj
end Go.Eng
