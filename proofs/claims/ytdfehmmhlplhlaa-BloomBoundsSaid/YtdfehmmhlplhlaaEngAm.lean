/-
  The engine: append(s, make([]T, k)...), where s is full.
-/
import Derived.Test.YtdfehmmhlplhlaaEngH
namespace Go.Eng
open Go

section
variable {P : Program} {ρ : Operand → Value} {h : Heap} {K : Value → Heap → Prop} {dst : Option Tmp} {ty : TypeId} {pos : String} {aft : Array Edge} {g : Option (Nat × Bool)}
theorem zeroCells_one {z : Value} (hz : z.cells = #[z]) (k : Nat) : (Builtin.zeroCells z.cells k).toList = List.replicate k z := by
  rw [hz]
  apply List.ext_getElem
  · simp [Builtin.zeroCells]
  · intro j h1 h2
    simp [Builtin.zeroCells, Nat.mod_one]
theorem op_appendZ {t t2 e : TypeId} {ik : IntKind} {x y : Operand} {i n k by_ : Nat} {z : Value} {b : Blk} [td : TyD P t (.slice e)] [t2d : TyD P t2 (.int ik)] [ti : TyI P e 1 by_ z] (hzo : z.cells = #[z]) (hx : ρ x = .slice (some ⟨i, 0, some 1⟩) n n) (hy : ρ y = .int .i64 (k : Nat)) (hk : 0 < k)
    (hi : h.get i = some b) (hn : b.cells.length = n) (h1 : n + k ≤ maxLen) (h2 : (n + k) * by_ ≤ 140737488355328) (kk : K (.slice (some ⟨h.next, 0, some 1⟩) (n + k) (n + k + 1)) (h.alloc ⟨b.cells ++ List.replicate k z, e, true⟩)) :
    AOp P ⟨dst, .call ⟨.builtin .append, #[x, y], #[t, t2]⟩, ty, pos, aft, g⟩ ρ h K :=
  .of_run fun φ ac w r => by
    obtain ⟨cap', a', e1, hlt, p1, p2, p3, p4, p5, p6⟩ := (hx ▸ r.ev x (by simp [Op.operands, Call.operands])).slice_inv
    have e2 := (hy ▸ r.ev y (by simp [Op.operands, Call.operands])).int_inv
    obtain rfl : cap' = n := p3 rfl
    have hsrc : Src h 1 (.slice (some ⟨i, 0, some 1⟩) cap' cap') cap' b.cells := by
      have := Src.slice (h := h) (sz := 1) i 0 (some 1) cap' cap' b hi (by omega)
      rwa [List.drop_zero, List.take_of_length_le (by omega)] at this
    obtain ⟨os, o1, o2, _, o4⟩ := hsrc.run r.sim (hx ▸ r.ev x (by simp [Op.operands, Call.operands]))
    rw [e1] at o4
    obtain ⟨inf, i1, i2, i3, i4⟩ := ti.ex
    have ht : ∀ w2 : World, (underlying t).run P w2 = .ok (.slice e) w2 := fun w2 => td.run w2
    have ht2 : ∀ w2 : World, (underlying t2).run P w2 = .ok (.int ik) w2 := fun w2 => t2d.run w2
    have hsz : ∀ w2 : World, (sizeOf e).run P w2 = .ok 1 w2 := fun w2 => ti.size w2
    have hod := o4 w.drew rfl
    have hc : ¬ cap' + k ≤ cap' := by omega
    have hfit : Builtin.nextslicecap (cap' + k) cap' * inf.bytes ≤ 281474976710656 := by rw [i3]; exact growslice_fits (by omega) h2
    have h63 : ¬ (9223372036854775807 < ((cap' : Int) + (k : Int))) := by simp only [maxLen] at h1; omega
    have h48 : ¬ (281474976710656 < Builtin.nextslicecap (cap' + k) cap' * inf.bytes) := by omega
    have hkm : (k : Int) ≤ 9223372036854775807 := by simp only [maxLen] at h1; omega
    have hw : IntKind.i64.wrap (k : Int) = k := by rw [IntKind.wrap_i64]; omega
    have hkb : ¬ (281474976710656 < (k : Int) * (inf.bytes : Int)) := by
      have h3 : k * by_ ≤ (cap' + k) * by_ := Nat.mul_le_mul_right _ (by omega)
      rw [i3]
      have h4 : ((k * by_ : Nat) : Int) = (k : Int) * (by_ : Int) := by push_cast; rfl
      omega
    have hk0 : ¬ k = 0 := by omega
    have hneg : ¬ (k : Int) < 0 := by omega
    have hle0 : ¬ (k : Int) ≤ 0 := by omega
    have hmax : max (k : Int) 0 = k := by omega
    have hrun : (Builtin.append_ #[t, t2] ty #[.slice (some a') cap' cap', .int .i64 (k : Nat)]).run P w =
        .ok (.slice (some ⟨w.heap.size, 0, none⟩) (cap' + k) (grownCap w (cap' + k) cap' e)) (w.drew.alloc (.cells ((os ++ (Builtin.zeroCells z.cells k).toList).toArray ++ Builtin.zeroCells z.cells (grownCap w (cap' + k) cap' e - (cap' + k))) e)) := by
      simp [Builtin.append_, ht, ht2, hsz, hc, h63, h48, typeInfo, i1, zeroValue, i4, Question.forced, hod, newRow, grownCap, asInt, asIntOf, hw, hkb, hk0, hneg, hmax]
      congr 2
      apply Array.ext'
      simp
    have hz : VRels φ h.next (List.replicate k z) (Builtin.zeroCells z.cells k).toList := by
      rw [zeroCells_one hzo]
      refine VRels.scalars (List.all_eq_true.2 fun v hv => ?_)
      rw [List.eq_of_mem_replicate hv]
      have := ti.plain
      rw [hzo] at this
      simpa using this
    have hl : (os ++ (Builtin.zeroCells z.cells k).toList).length = (cap' + k) * 1 := by
      have := o1.length
      rw [List.length_append, ← this, hn, zeroCells_one hzo, List.length_replicate]
      omega
    obtain ⟨φ', v1, v2, v3⟩ := grown_row (P := P) r.sim (e := e) (cap := cap') (n := cap' + k) (o1.append hz) hl h1 _ rfl
    refine ⟨_, _, φ', _, _, exec_append ac _ w (by rw [e1, e2]; exact hrun), kk, v1, v2, v3⟩
end
end Go.Eng
