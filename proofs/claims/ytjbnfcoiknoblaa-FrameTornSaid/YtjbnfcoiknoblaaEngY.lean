/-
  The engine, part Y: two rows that grow side by side; a byte's bit.
-/
import Derived.Test.YtjbnfcoiknoblaaEngX
namespace Go.Eng
open Go

/-- A value that is nothing, or lies in the block of that number. -/
def Fresh (n : Nat) (v : Value) : Prop := v = .slice none 0 0 ∨ ∃ l c, v = .slice (some ⟨n, 0, some 1⟩) l c
theorem Fresh.off {n i : Nat} {v : Value} (f : Fresh n v) (h : i < n) : Off v i := by
  rcases f with rfl | ⟨l, c, rfl⟩
  · exact Off.nil _ _ _
  · exact Off.of (by omega)
section
variable {P : Program} {ρ : Operand → Value} {h : Heap} {K : Value → Heap → Prop} {dst : Option Tmp} {ty : TypeId} {pos : String} {aft : Array Edge} {g : Option (Nat × Bool)}
/-- append to a slice of the call's own: what comes is nothing, or lies in a new block. -/
theorem op_appendG {t t2 e : TypeId} {d2 : TypeDesc} {x y : Operand} {by_ B m : Nat} {z u v : Value} {vs news : List Value} [td : TyD P t (.slice e)] [t2d : TyD P t2 d2] [ti : TyI P e 1 by_ z] (hd2 : appB d2 = true) (wf : WF h) (hB : B ≤ h.next)
    (r : OS B h e u vs) (hx : ρ x = u) (hy : ρ y = v) (hs : Src h 1 v m news) (hm : news.length = m) (hone : news.all oneB = true) (h1 : vs.length + m ≤ maxLen) (h2 : (vs.length + m) * by_ ≤ 140737488355328)
    (kk : ∀ u' h', OS B h' e u' (vs ++ news) → Fresh h.next u' → Keeps u h h' → WF h' → h.next ≤ h'.next → K u' h') : AOp P ⟨dst, .call ⟨.builtin .append, #[x, y], #[t, t2]⟩, ty, pos, aft, g⟩ ρ h K := by
  rcases r with ⟨rfl, rfl⟩ | ⟨i, c, hBi, rfl, hi⟩
  · refine op_appendNil (z := z) hd2 hx hy hs (by simpa using h1) (by simpa using h2) (fun hm0 => ?_) (fun hm0 => ?_)
    · have : news = [] := List.eq_nil_of_length_eq_zero (by omega)
      subst this
      exact kk _ _ (.inl ⟨rfl, rfl⟩) (.inl rfl) ⟨fun j b hj _ => hj, fun j b hj => hj⟩ wf (Nat.le_refl _)
    · exact kk _ _ (.inr ⟨h.next, m + 1, hB, by simp [hm], by simp [Heap.alloc_new]⟩) (.inr ⟨_, _, rfl⟩) ⟨fun j b hj _ => (wf.ext _).c j b hj, fun j b hj => hj⟩ (wf.alloc _) (by simp [Heap.alloc])
  · refine op_append (z := z) hd2 hx hy hi rfl rfl (by simp) hs hone h1 h2 ?_
    refine kk _ _ (.inr ⟨h.next, vs.length + m + 1, hB, by simp [hm], Heap.kill_alloc_new _ _ _⟩) (.inr ⟨_, _, rfl⟩) ⟨fun j b hj hne => ?_, fun j b hj => hj⟩ ((wf.kill i).alloc _) (by simp [Heap.alloc, Heap.kill])
    have := wf.lt hj
    rw [Heap.kill_alloc_old (by omega) (fun e => hne (some 1) vs.length c (by rw [e]))]
    exact hj
/-- Two rows of the call's own, apart. -/
structure Two (B : Nat) (ea eb : TypeId) (H : Heap) (u v : Value) (us vs : List Value) : Prop where
  a : OS B H ea u us
  b : OS B H eb v vs
  ap : ∀ i s n c, v = .slice (some ⟨i, 0, s⟩) n c → Off u i
section
variable {B : Nat} {ea eb : TypeId} {H H' : Heap} {u v u' v' : Value} {us vs us' vs' : List Value}
theorem Two.nil (B : Nat) (ea eb : TypeId) (H : Heap) : Two B ea eb H (.slice none 0 0) (.slice none 0 0) [] [] := ⟨OS.nil _ _ _, OS.nil _ _ _, fun i s n c e => by cases e⟩
theorem Two.ext (t : Two B ea eb H u v us vs) (hx : Ext H H') : Two B ea eb H' u v us vs := ⟨t.a.ext hx, t.b.ext hx, t.ap⟩
theorem Two.pushA (t : Two B ea eb H u v us vs) (wf : WF H) (o : OS B H' ea u' us') (f : Fresh H.next u') (k : Keeps u H H') : Two B ea eb H' u' v us' vs := by
  refine ⟨o, t.b.stay k t.ap, fun i s n c e => ?_⟩
  rcases t.b with ⟨rfl, _⟩ | ⟨j, c2, _, rfl, hj⟩
  · cases e
  · cases e
    exact f.off (wf.lt hj)
theorem Two.pushB (t : Two B ea eb H u v us vs) (wf : WF H) (o : OS B H' eb v' vs') (f : Fresh H.next v') (k : Keeps v H H') : Two B ea eb H' u v' us vs' := by
  refine ⟨t.a.stay k (fun i s n c e s2 n2 c2 e2 => t.ap i s2 n2 c2 e2 s n c e), o, fun i s n c e => ?_⟩
  rcases f with rfl | ⟨l, c2, rfl⟩
  · cases e
  · cases e
    exact t.a.lt wf (Nat.le_refl _)
end
/-- A number's last three bits. -/
theorem op_and7 {t t' : TypeId} {x y : Operand} {a : Int} (s : Nat) (hs : s = (BitVec.ofInt 64 a).toNat % 8) (hx : ρ x = .int .i64 a) (hy : ρ y = .int .i64 7) (kk : K (.int .i64 (s : Nat)) h) : AOp P ⟨dst, .binOp .and t x y t', ty, pos, aft, g⟩ ρ h K := by
  refine op_int hx hy (v := .int .i64 (s : Nat)) ?_ kk
  simp only [binI, if_true]
  have e1 : (BitVec.ofInt IntKind.i64.bits 7).toNat = 2 ^ 3 - 1 := rfl
  have e2 : (BitVec.ofInt IntKind.i64.bits a &&& BitVec.ofInt IntKind.i64.bits 7).toNat = s := by
    rw [BitVec.toNat_and, e1, Nat.and_two_pow_sub_one_eq_mod, hs]
    rfl
  rw [e2, IntKind.wrap_i64]
  have hs2 : s < 8 := by omega
  refine congrArg some (congrArg (Value.int .i64) ?_)
  omega
theorem op_convU64 {s d : TypeId} {x : Operand} {k ks : IntKind} {a : Int} [ts : TyD P s (.int ks)] [td : TyD P d (.int .u64)] (hx : ρ x = .int k a) (hr : 0 ≤ a ∧ a ≤ 18446744073709551615) (kk : K (.int .u64 a) h) :
    AOp P ⟨dst, .convert s d x, ty, pos, aft, g⟩ ρ h K :=
  op_convI hx (by rw [show IntKind.u64.wrap a = a from by rw [IntKind.wrap_u64]; omega]; exact kk)
theorem op_shl8b {t t' : TypeId} {x y : Operand} {k : IntKind} {c : Int} (n : Nat) (hc : c = (n : Int)) (hn : n < 8) (hx : ρ x = .int .u8 1) (hy : ρ y = .int k c) (kk : K (.int .u8 ((UInt8.ofNat (1 <<< n)).toNat : Int)) h) : AOp P ⟨dst, .binOp .shl t x y t', ty, pos, aft, g⟩ ρ h K := by
  subst hc
  refine op_int hx hy (v := .int .u8 ((UInt8.ofNat (1 <<< n)).toNat : Int)) ?_ kk
  match n, hn with
  | 0, _ | 1, _ | 2, _ | 3, _ | 4, _ | 5, _ | 6, _ | 7, _ => rfl
end
end Go.Eng
