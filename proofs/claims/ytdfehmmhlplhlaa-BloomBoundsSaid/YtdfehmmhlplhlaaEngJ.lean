/-
  The engine, part J: calls, literals, function values; and regions whose order is drawn.
-/
import Derived.Test.YtdfehmmhlplhlaaEngI
namespace Go.Eng
open Go

variable {P : Program} {ρ : Operand → Value} {h : Heap} {K : Value → Heap → Prop} {dst : Option Tmp} {ty : TypeId} {pos : String} {aft : Array Edge} {g : Option (Nat × Bool)}

/-- A function with a body. -/
class FnC (P : Program) (f : FuncId) : Prop where
  ex : ∃ fn, P.funcs[f]? = some fn ∧ fn.body.isSome = true ∧ (fn.name == "runtime.NumGoroutine") = false

theorem VRels.map {φ : Ren} {n : Nat} : ∀ {args : List Operand} {r1 r2 : Operand → Value}, (∀ x ∈ args, VRel φ n (r1 x) (r2 x)) → VRels φ n (args.map r1) (args.map r2)
  | [], _, _, _ => .nil
  | x :: args, _, _, hr => .cons (hr x (by simp)) (VRels.map fun y hy => hr y (by simp [hy]))
theorem VRels.ofArr {φ : Ren} {n : Nat} {f f' : Array Value} (h1 : f.size = f'.size) (h3 : ∀ (k : Nat) x y, f[k]? = some x → f'[k]? = some y → VRel φ n x y) : VRels φ n f.toList f'.toList :=
  .of (by simpa using h1) (fun j x y hx hy => h3 j x y (by simpa using hx) (by simpa using hy))

/-- A call of a function's value. -/
theorem op_call {x : Operand} {f : FuncId} {fi ca : Array Value} {args : Array Operand} {aT : Array TypeId} [fc : FnC P f] {evs : List Value} (hx : ρ x = .func (.func f) fi ca) (he : fi.toList ++ (args.toList.map ρ ++ ca.toList) = evs)
    (c : ACalls P f evs h K) : AOp P ⟨dst, .call ⟨.value x, args, aT⟩, ty, pos, aft, g⟩ ρ h K := by
  intro φ a w r next Qc kk
  have hv := hx ▸ r.ev x (by simp [Op.operands, Call.operands])
  obtain ⟨f', d', e1, s1, s2, q1, q2⟩ := hv.func_inv
  obtain ⟨fn, hf, hb, hn⟩ := fc.ex
  have hargs : VRels φ h.next evs (f'.toList ++ (args.toList.map a.eval ++ d'.toList)) := by
    rw [← he]
    exact (VRels.ofArr s1 q1).append ((VRels.map fun y hy => r.ev y (by simp [Op.operands, Call.operands]; exact .inr (by simpa using hy))).append (VRels.ofArr s2 q2))
  have hc := c φ w _ r.sim hargs
  have hbn : fn.body.isNone = false := by
    cases hbb : fn.body with
    | none => rw [hbb] at hb; cases hb
    | some _ => rfl
  have hrun : (execOp a.eval ⟨dst, .call ⟨.value x, args, aT⟩, ty, pos, aft, g⟩).run P w = .ok (.enter f (f'.toList ++ (args.toList.map a.eval ++ d'.toList)).toArray) w := by
    have harr : (f' ++ args.map a.eval ++ d') = (f'.toList ++ (args.toList.map a.eval ++ d'.toList)).toArray := by
      apply Array.ext'
      simp
    simp only [execOp, resolve, e1, Deferred.ofValue, Sem.run_bind, Sem.run_pure, Result.andThen_ok, invoke, callFunc, run_program, hf, hn, hbn, Bool.false_eq_true, if_false]
    rw [harr]
  unfold Oper.wp
  rw [hrun]
  refine hc.mono fun e w' hr => ?_
  cases e with
  | returned cv =>
    obtain ⟨v, h', φ', k, v1, v2, v3⟩ := hr
    exact kk cv w' φ' h' v k v1 v2 v3
  | panicked ch => exact hr.elim
  | outgrown => exact hr.elim

theorem op_makeFunc {fn : Fn} {f c : Array Operand} {f' c' : List Value} (hf : f.toList.map ρ = f') (hc : c.toList.map ρ = c') (kk : K (.func fn f'.toArray c'.toArray) h) :
    AOp P ⟨dst, .makeFunc fn f c, ty, pos, aft, g⟩ ρ h K :=
  .of_pure kk fun φ ac w r => by
    refine ⟨.func fn (f.map ac.eval) (c.map ac.eval), by simp [execOp, Instr.makeFunc], ?_⟩
    subst hf hc
    refine .func _ _ _ _ _ (by simp) (by simp) ?_ ?_
    · intro k x y hx hy
      simp only [List.getElem?_toArray, List.getElem?_map, Array.getElem?_toList, Array.getElem?_map] at hx hy
      cases hq : f[k]? with
      | none => simp [hq] at hx
      | some o =>
        simp [hq] at hx hy
        subst hx hy
        exact r.ev o (by simp [Op.operands]; exact .inl (Array.mem_of_getElem? hq))
    · intro k x y hx hy
      simp only [List.getElem?_toArray, List.getElem?_map, Array.getElem?_toList, Array.getElem?_map] at hx hy
      cases hq : c[k]? with
      | none => simp [hq] at hx
      | some o =>
        simp [hq] at hx hy
        subst hx hy
        exact r.ev o (by simp [Op.operands]; exact .inr (Array.mem_of_getElem? hq))

def ifaceB : TypeDesc → Bool
  | .interface _ => true
  | _ => false
theorem op_makeIface {t : TypeId} {x : Operand} {d : TypeDesc} {v : Value} [td : TyD P t d] (hd : ifaceB d = false) (hx : ρ x = v) (kk : K (.iface t v) h) : AOp P ⟨dst, .makeInterface t x, ty, pos, aft, g⟩ ρ h K :=
  .of_pure kk fun φ ac w r => by
    refine ⟨.iface t (ac.eval x), ?_, .iface _ _ _ (hx ▸ r.ev x (by simp [Op.operands]))⟩
    have hr : (Instr.makeInterface t (ac.eval x)).run P w = .ok (.iface t (ac.eval x)) w := by
      simp only [Instr.makeInterface, Sem.run_bind, td.run, Result.andThen_ok]
      cases d <;> first | rfl | (simp [ifaceB] at hd)
    simp [execOp, hr]

/-- Cells laid one behind the other, at known places: what a literal's parts come to. -/
def fillA (place : Nat → Option (Nat × Nat)) (cells : List Value) : List (Nat × Value) → Option (List Value)
  | [] => some cells
  | (i, v) :: rest =>
    match place i with
    | none => none
    | some (off, size) => if v.cells.size ≠ size || off + v.cells.size > cells.length then none else fillA place (splice cells off v.cells.toList) rest

theorem zipFold (cs : List Value) : ∀ (k : Nat) (off : Nat) (arr : Array Value), ((cs.zipIdx k).foldl (fun (a : Array Value) (p : Value × Nat) => a.setIfInBounds (off + p.2) p.1) arr).toList = if off + k + cs.length ≤ arr.size then splice arr.toList (off + k) cs else ((cs.zipIdx k).foldl (fun (a : Array Value) (p : Value × Nat) => a.setIfInBounds (off + p.2) p.1) arr).toList := by
  induction cs with
  | nil => intro k off arr; simp [splice]
  | cons v cs ih =>
    intro k off arr
    split
    · rename_i hl
      simp only [List.length_cons] at hl
      simp only [List.zipIdx_cons, List.foldl_cons]
      rw [ih (k + 1) off, if_pos (by simp; omega)]
      simp only [Array.toList_setIfInBounds]
      apply List.ext_getElem?
      intro j
      rw [splice_get _ _ _ (by simp; omega), splice_get _ _ _ (by simp; omega)]
      simp only [List.length_cons]
      by_cases h1 : j = off + k
      · subst h1
        rw [if_neg (by omega), if_pos (by omega), List.getElem?_set_self (by simp; omega)]
        simp
      · by_cases h2 : off + (k + 1) ≤ j ∧ j < off + (k + 1) + cs.length
        · rw [if_pos h2, if_pos (by omega)]
          rw [show j - (off + k) = (j - (off + (k + 1))) + 1 from by omega]
          simp
        · rw [if_neg h2, if_neg (by omega)]
          rw [List.getElem?_set_ne (by omega)]
    · rfl
theorem zipFold0 (cs : Array Value) (off : Nat) (arr : Array Value) (hl : off + cs.size ≤ arr.size) : (cs.zipIdx.foldl (fun (a : Array Value) (p : Value × Nat) => a.setIfInBounds (off + p.2) p.1) arr).toList = splice arr.toList off cs.toList := by
  have := zipFold cs.toList 0 off arr
  rw [if_pos (by simpa using hl)] at this
  rw [← Array.foldl_toList]
  simpa using this

theorem VRels.splice {φ : Ren} {n : Nat} {xs cs vs ds : List Value} (a : VRels φ n xs cs) (b : VRels φ n vs ds) (o : Nat) (hl : o + vs.length ≤ xs.length) : VRels φ n (Eng.splice xs o vs) (Eng.splice cs o ds) := by
  have h1 := a.length
  have h2 := b.length
  refine .of (by rw [length_splice hl, length_splice (by omega), h1]) fun j x y hx hy => ?_
  rw [splice_get _ _ _ hl] at hx
  rw [splice_get _ _ _ (by omega)] at hy
  by_cases hin : o ≤ j ∧ j < o + vs.length
  · rw [if_pos hin] at hx
    rw [if_pos (by omega)] at hy
    obtain ⟨c, hc, hv⟩ := b.get hx
    rw [hy] at hc; cases hc; exact hv
  · rw [if_neg hin] at hx
    rw [if_neg (by omega)] at hy
    obtain ⟨c, hc, hv⟩ := a.get hx
    rw [hy] at hc; cases hc; exact hv

theorem fill_run {φ : Ren} {n : Nat} (place : Nat → Option (Nat × Nat)) (ac : Act) : ∀ (parts : List (Nat × Operand)) (cells out : List Value) (arr : Array Value), VRels φ n cells arr.toList →
    (∀ p ∈ parts, VRel φ n (ρ p.2) (ac.eval p.2)) → (∀ p ∈ parts, ρ p.2 ≠ undef) → fillA place cells (parts.map fun p => (p.1, ρ p.2)) = some out →
    ∃ arr', Instr.fill place arr (parts.map fun p => (p.1, ac.eval p.2)) = some arr' ∧ VRels φ n out arr'.toList
  | [], cells, out, arr, hr, _, _, hf => by
    simp [fillA] at hf
    subst hf
    exact ⟨arr, rfl, hr⟩
  | (i, x) :: parts, cells, out, arr, hr, hv, hu, hf => by
    simp only [List.map_cons, fillA] at hf
    split at hf
    · cases hf
    · rename_i off size hp
      split at hf
      · cases hf
      · rename_i hc
        simp only [ne_eq, decide_not, Bool.or_eq_true, Bool.not_eq_eq_eq_not, Bool.not_true, decide_eq_false_iff_not, decide_eq_true_eq, not_or, Classical.not_not, Nat.not_lt] at hc
        have hx := (hv (i, x) (by simp)).cells (hu (i, x) (by simp))
        have hlen := hx.length
        simp only [Array.length_toList] at hlen
        have hcl := hr.length
        simp only [Array.length_toList] at hcl
        obtain ⟨arr', h1, h2⟩ := fill_run place ac parts _ out ((ac.eval x).cells.zipIdx.foldl (fun (a : Array Value) (p : Value × Nat) => a.setIfInBounds (off + p.2) p.1) arr) (by
          rw [zipFold0 _ _ _ (by omega)]
          exact hr.splice hx off (by simp; omega)) (fun p hp => hv p (by simp [hp])) (fun p hp => hu p (by simp [hp])) hf
        refine ⟨arr', ?_, h2⟩
        simp only [List.map_cons, Instr.fill, hp]
        rw [if_neg (by simp; omega)]
        exact h1

/-- A struct's literal. -/
theorem op_build {t sz by_ : Nat} {z : Value} {fs : Array Field} {parts : Array (Nat × Operand)} {places : List (Nat × Nat)} {out : List Value} [td : TyD P t (.struct fs)] [ti : TyI P t sz by_ z]
    (hp : ∀ w, (fs.mapM fun f => do pure (f.offset, ← sizeOf f.type) : Sem (Array (Nat × Nat))).run P w = .ok places.toArray w) (hu : ∀ p ∈ parts.toList, ρ p.2 ≠ undef)
    (hf : fillA (places[·]?) z.cells.toList (parts.toList.map fun p => (p.1, ρ p.2)) = some out) (kk : K (.agg out.toArray) h) : AOp P ⟨dst, .build t parts, ty, pos, aft, g⟩ ρ h K :=
  .of_pure kk fun φ ac w r => by
    obtain ⟨arr', h1, h2⟩ := fill_run (φ := φ) (n := h.next) (places[·]?) ac parts.toList z.cells.toList out z.cells (VRels.scalars ti.plain) (fun p hp => r.ev p.2 (by simp [Op.operands]; exact ⟨p.1, by simpa using hp⟩)) hu hf
    refine ⟨.agg arr', ?_, .agg _ _ (by have := h2.length; simpa using this) (fun k x y hx hy => ?_)⟩
    · have he : (parts.map fun (p : Nat × Operand) => (p.1, ac.eval p.2)).toList = parts.toList.map fun p => (p.1, ac.eval p.2) := by simp
      have hrun : (Instr.build t (parts.map fun (p : Nat × Operand) => (p.1, ac.eval p.2))).run P w = .ok (.agg arr') w := by
        simp only [Instr.build, Sem.run_bind, ti.zero, Result.andThen_ok, td.run, hp, he, List.getElem?_toArray]
        rw [h1]
        rfl
      simp [execOp, hrun]
    · obtain ⟨c, hc, hv⟩ := h2.get (j := k) (x := x) (by simpa using hx)
      simp only [Array.getElem?_toList] at hc
      rw [hy] at hc; cases hc; exact hv
/-- A slice's literal, of elements of one cell. -/
theorem op_buildSlice {t e by_ : Nat} {z : Value} {len : Nat} {parts : Array (Nat × Operand)} {out : List Value} [td : TyD P t (.slice e)] [ti : TyI P e 1 by_ z] (hz : oneB z = true) (hl : len ≤ 16777216) (hu : ∀ p ∈ parts.toList, ρ p.2 ≠ undef)
    (hf : fillA (fun i => some (i * 1, 1)) (List.replicate len z) (parts.toList.map fun p => (p.1, ρ p.2)) = some out) (hlen : out.length = len)
    (kk : K (.slice (some ⟨h.next, 0, some 1⟩) len len) (h.alloc ⟨out, e, true⟩)) : AOp P ⟨dst, .buildSlice t len parts, ty, pos, aft, g⟩ ρ h K :=
  .of_run fun φ ac w r => by
    have hzc : z.cells = #[z] := by cases z <;> first | rfl | (simp [oneB] at hz)
    have hzs : scalar z = true := by
      have := ti.plain
      rw [hzc] at this
      simpa using this
    have hmade : (Array.range len).map (fun x => z.cells[x % z.cells.size]!) = Array.replicate len z := madeCells_one z len hzc
    obtain ⟨arr', h1, h2⟩ := fill_run (φ := φ) (n := h.next) (fun i => some (i * 1, 1)) ac parts.toList (List.replicate len z) out (Array.replicate len z) (by
      have : (List.replicate len z).all scalar = true := List.all_eq_true.2 (by intro v hv; rw [List.eq_of_mem_replicate hv]; exact hzs)
      simpa using VRels.scalars (φ := φ) (n := h.next) this) (fun p hp => r.ev p.2 (by simp [Op.operands]; exact ⟨p.1, by simpa using hp⟩)) hu hf
    have hal : arr'.size = len := by have := h2.length; simp at this; omega
    obtain ⟨s1, s2⟩ := r.sim.alloc out arr' e (0, 0) (.inl rfl) (by omega) h2.toArr
    have he : (parts.map fun (p : Nat × Operand) => (p.1, ac.eval p.2)).toList = parts.toList.map fun p => (p.1, ac.eval p.2) := by simp
    have hrun : (Instr.buildSlice t len (parts.map fun (p : Nat × Operand) => (p.1, ac.eval p.2))).run P w = .ok (.slice (some ⟨w.heap.size, 0, none⟩) len len) (w.alloc (.cells arr' e)) := by
      have hb : ¬ (len * 1 > 2 ^ 24) := by omega
      by_cases hl0 : len = 0
      · subst hl0
        simp only [Instr.buildSlice, Sem.run_bind, td.run, Result.andThen_ok, ti.size, if_neg hb, Nat.zero_mul, if_true, Sem.run_pure, he]
        rw [show (Array.map (fun x => (#[] : Array Value)[x % (#[] : Array Value).size]!) (Array.range 0)) = Array.replicate 0 z from by simp [Array.range_zero'], h1]
        simp [newRow]
      · have hn0 : ¬ (len * 1 = 0) := by omega
        simp only [Instr.buildSlice, Sem.run_bind, td.run, Result.andThen_ok, ti.size, if_neg hb, if_neg hn0, ti.zero, Sem.run_pure, he]
        rw [show (Array.map (fun x => z.cells[x % z.cells.size]!) (Array.range (len * 1))) = Array.replicate len z from by rw [Nat.mul_one]; exact hmade, h1]
        simp [newRow]
    refine ⟨_, _, _, _, _, by simp [execOp, hrun]; rfl, kk, ?_, s1, s2⟩
    have h24 : len ≤ maxLen := by simp only [maxLen]; omega
    refine .newSlice (Nat.le_refl _) (Nat.le_refl _) (fun _ => rfl) h24 ?_
    intro t ht
    cases ht
    omega
end Go.Eng
