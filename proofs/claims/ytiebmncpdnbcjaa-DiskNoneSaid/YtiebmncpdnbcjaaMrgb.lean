/-
  Texts of one claim, merged: 12 parts.
-/
import Derived.Test.YtiebmncpdnbcjaaMrga
import Derived.ProofKit
import Derived.Deep.Matrix
import Derived.Maps.RangeRun
import Derived.RangeFuncOwn
import Derived.Lib.OthersKept
import Derived.Laws.RangeAny
/-
  The engine, part J: calls, literals, function values; and regions whose order is drawn.
-/
namespace Go.Eng
open Go

variable {P : Program} {ρ : Operand → Value} {h : Heap} {K : Value → Heap → Prop} {dst : Option Tmp} {ty : TypeId} {pos : String} {aft : Array Edge} {g : Option (Nat × Bool)}

/-- A function with a body. -/
class FnC (P : Program) (f : FuncId) : Prop where
  ex : ∃ fn, P.funcs[f]? = some fn ∧ fn.body.isSome = true ∧ (fn.name == "runtime.NumGoroutine") = false

theorem VRels.map {φ : Ren} {n : Nat} : ∀ {args : List Operand} {r1 r2 : Operand → Value}, (∀ x ∈ args, VRel φ n (r1 x) (r2 x)) → VRels φ n (args.map r1) (args.map r2)
  | [], _, _, _ => .nil
  | x :: args, _, _, hr => .cons (hr x (by simp)) (VRels.map fun y hy => hr y (by simp [hy]))
theorem VRels.ofArr {φ : Ren} {n : Nat} {f f' : Array Value} (h1 : f.size = f'.size) (h3 : ∀ (k : Nat) x y, f[k]? = some x → f'[k]? = some y → VRel φ n x y) : VRels φ n f.toList f'.toList :=
  .of (by simpa using h1) (fun j x y hx hy => h3 j x y (by simpa using hx) (by simpa using hy))

/-- A call of a function's value. -/
theorem op_call {x : Operand} {f : FuncId} {fi ca : Array Value} {args : Array Operand} {aT : Array TypeId} [fc : FnC P f] {evs : List Value} (hx : ρ x = .func (.func f) fi ca) (he : fi.toList ++ (args.toList.map ρ ++ ca.toList) = evs)
    (c : ACalls P f evs h K) : AOp P ⟨dst, .call ⟨.value x, args, aT⟩, ty, pos, aft, g⟩ ρ h K := by
  intro φ a w r next Qc kk
  have hv := hx ▸ r.ev x (by simp [Op.operands, Call.operands])
  obtain ⟨f', d', e1, s1, s2, q1, q2⟩ := hv.func_inv
  obtain ⟨fn, hf, hb, hn⟩ := fc.ex
  have hargs : VRels φ h.next evs (f'.toList ++ (args.toList.map a.eval ++ d'.toList)) := by
    rw [← he]
    exact (VRels.ofArr s1 q1).append ((VRels.map fun y hy => r.ev y (by simp [Op.operands, Call.operands]; exact .inr (by simpa using hy))).append (VRels.ofArr s2 q2))
  have hc := c φ w _ r.sim hargs
  have hbn : fn.body.isNone = false := by
    cases hbb : fn.body with
    | none => rw [hbb] at hb; cases hb
    | some _ => rfl
  have hrun : (execOp a.eval ⟨dst, .call ⟨.value x, args, aT⟩, ty, pos, aft, g⟩).run P w = .ok (.enter f (f'.toList ++ (args.toList.map a.eval ++ d'.toList)).toArray) w := by
    have harr : (f' ++ args.map a.eval ++ d') = (f'.toList ++ (args.toList.map a.eval ++ d'.toList)).toArray := by
      apply Array.ext'
      simp
    simp only [execOp, resolve, e1, Deferred.ofValue, Sem.run_bind, Sem.run_pure, Result.andThen_ok, invoke, callFunc, run_program, hf, hn, hbn, Bool.false_eq_true, if_false]
    rw [harr]
  unfold Oper.wp
  rw [hrun]
  refine hc.mono fun e w' hr => ?_
  cases e with
  | returned cv =>
    obtain ⟨v, h', φ', k, v1, v2, v3⟩ := hr
    exact kk cv w' φ' h' v k v1 v2 v3
  | panicked ch => exact hr.elim
  | outgrown => exact hr.elim

theorem op_makeFunc {fn : Fn} {f c : Array Operand} {f' c' : List Value} (hf : f.toList.map ρ = f') (hc : c.toList.map ρ = c') (kk : K (.func fn f'.toArray c'.toArray) h) :
    AOp P ⟨dst, .makeFunc fn f c, ty, pos, aft, g⟩ ρ h K :=
  .of_pure kk fun φ ac w r => by
    refine ⟨.func fn (f.map ac.eval) (c.map ac.eval), by simp [execOp, Instr.makeFunc], ?_⟩
    subst hf hc
    refine .func _ _ _ _ _ (by simp) (by simp) ?_ ?_
    · intro k x y hx hy
      simp only [List.getElem?_toArray, List.getElem?_map, Array.getElem?_toList, Array.getElem?_map] at hx hy
      cases hq : f[k]? with
      | none => simp [hq] at hx
      | some o =>
        simp [hq] at hx hy
        subst hx hy
        exact r.ev o (by simp [Op.operands]; exact .inl (Array.mem_of_getElem? hq))
    · intro k x y hx hy
      simp only [List.getElem?_toArray, List.getElem?_map, Array.getElem?_toList, Array.getElem?_map] at hx hy
      cases hq : c[k]? with
      | none => simp [hq] at hx
      | some o =>
        simp [hq] at hx hy
        subst hx hy
        exact r.ev o (by simp [Op.operands]; exact .inr (Array.mem_of_getElem? hq))

def ifaceB : TypeDesc → Bool
  | .interface _ => true
  | _ => false
theorem op_makeIface {t : TypeId} {x : Operand} {d : TypeDesc} {v : Value} [td : TyD P t d] (hd : ifaceB d = false) (hx : ρ x = v) (kk : K (.iface t v) h) : AOp P ⟨dst, .makeInterface t x, ty, pos, aft, g⟩ ρ h K :=
  .of_pure kk fun φ ac w r => by
    refine ⟨.iface t (ac.eval x), ?_, .iface _ _ _ (hx ▸ r.ev x (by simp [Op.operands]))⟩
    have hr : (Instr.makeInterface t (ac.eval x)).run P w = .ok (.iface t (ac.eval x)) w := by
      simp only [Instr.makeInterface, Sem.run_bind, td.run, Result.andThen_ok]
      cases d <;> first | rfl | (simp [ifaceB] at hd)
    simp [execOp, hr]

/-- Cells laid one behind the other, at known places: what a literal's parts come to. -/
def fillA (place : Nat → Option (Nat × Nat)) (cells : List Value) : List (Nat × Value) → Option (List Value)
  | [] => some cells
  | (i, v) :: rest =>
    match place i with
    | none => none
    | some (off, size) => if v.cells.size ≠ size || off + v.cells.size > cells.length then none else fillA place (splice cells off v.cells.toList) rest

theorem zipFold (cs : List Value) : ∀ (k : Nat) (off : Nat) (arr : Array Value), ((cs.zipIdx k).foldl (fun (a : Array Value) (p : Value × Nat) => a.setIfInBounds (off + p.2) p.1) arr).toList = if off + k + cs.length ≤ arr.size then splice arr.toList (off + k) cs else ((cs.zipIdx k).foldl (fun (a : Array Value) (p : Value × Nat) => a.setIfInBounds (off + p.2) p.1) arr).toList := by
  induction cs with
  | nil => intro k off arr; simp [splice]
  | cons v cs ih =>
    intro k off arr
    split
    · rename_i hl
      simp only [List.length_cons] at hl
      simp only [List.zipIdx_cons, List.foldl_cons]
      rw [ih (k + 1) off, if_pos (by simp; omega)]
      simp only [Array.toList_setIfInBounds]
      apply List.ext_getElem?
      intro j
      rw [splice_get _ _ _ (by simp; omega), splice_get _ _ _ (by simp; omega)]
      simp only [List.length_cons]
      by_cases h1 : j = off + k
      · subst h1
        rw [if_neg (by omega), if_pos (by omega), List.getElem?_set_self (by simp; omega)]
        simp
      · by_cases h2 : off + (k + 1) ≤ j ∧ j < off + (k + 1) + cs.length
        · rw [if_pos h2, if_pos (by omega)]
          rw [show j - (off + k) = (j - (off + (k + 1))) + 1 from by omega]
          simp
        · rw [if_neg h2, if_neg (by omega)]
          rw [List.getElem?_set_ne (by omega)]
    · rfl
theorem zipFold0 (cs : Array Value) (off : Nat) (arr : Array Value) (hl : off + cs.size ≤ arr.size) : (cs.zipIdx.foldl (fun (a : Array Value) (p : Value × Nat) => a.setIfInBounds (off + p.2) p.1) arr).toList = splice arr.toList off cs.toList := by
  have := zipFold cs.toList 0 off arr
  rw [if_pos (by simpa using hl)] at this
  rw [← Array.foldl_toList]
  simpa using this

theorem VRels.splice {φ : Ren} {n : Nat} {xs cs vs ds : List Value} (a : VRels φ n xs cs) (b : VRels φ n vs ds) (o : Nat) (hl : o + vs.length ≤ xs.length) : VRels φ n (Eng.splice xs o vs) (Eng.splice cs o ds) := by
  have h1 := a.length
  have h2 := b.length
  refine .of (by rw [length_splice hl, length_splice (by omega), h1]) fun j x y hx hy => ?_
  rw [splice_get _ _ _ hl] at hx
  rw [splice_get _ _ _ (by omega)] at hy
  by_cases hin : o ≤ j ∧ j < o + vs.length
  · rw [if_pos hin] at hx
    rw [if_pos (by omega)] at hy
    obtain ⟨c, hc, hv⟩ := b.get hx
    rw [hy] at hc; cases hc; exact hv
  · rw [if_neg hin] at hx
    rw [if_neg (by omega)] at hy
    obtain ⟨c, hc, hv⟩ := a.get hx
    rw [hy] at hc; cases hc; exact hv

theorem fill_run {φ : Ren} {n : Nat} (place : Nat → Option (Nat × Nat)) (ac : Act) : ∀ (parts : List (Nat × Operand)) (cells out : List Value) (arr : Array Value), VRels φ n cells arr.toList →
    (∀ p ∈ parts, VRel φ n (ρ p.2) (ac.eval p.2)) → (∀ p ∈ parts, ρ p.2 ≠ undef) → fillA place cells (parts.map fun p => (p.1, ρ p.2)) = some out →
    ∃ arr', Instr.fill place arr (parts.map fun p => (p.1, ac.eval p.2)) = some arr' ∧ VRels φ n out arr'.toList
  | [], cells, out, arr, hr, _, _, hf => by
    simp [fillA] at hf
    subst hf
    exact ⟨arr, rfl, hr⟩
  | (i, x) :: parts, cells, out, arr, hr, hv, hu, hf => by
    simp only [List.map_cons, fillA] at hf
    split at hf
    · cases hf
    · rename_i off size hp
      split at hf
      · cases hf
      · rename_i hc
        simp only [ne_eq, decide_not, Bool.or_eq_true, Bool.not_eq_eq_eq_not, Bool.not_true, decide_eq_false_iff_not, decide_eq_true_eq, not_or, Classical.not_not, Nat.not_lt] at hc
        have hx := (hv (i, x) (by simp)).cells (hu (i, x) (by simp))
        have hlen := hx.length
        simp only [Array.length_toList] at hlen
        have hcl := hr.length
        simp only [Array.length_toList] at hcl
        obtain ⟨arr', h1, h2⟩ := fill_run place ac parts _ out ((ac.eval x).cells.zipIdx.foldl (fun (a : Array Value) (p : Value × Nat) => a.setIfInBounds (off + p.2) p.1) arr) (by
          rw [zipFold0 _ _ _ (by omega)]
          exact hr.splice hx off (by simp; omega)) (fun p hp => hv p (by simp [hp])) (fun p hp => hu p (by simp [hp])) hf
        refine ⟨arr', ?_, h2⟩
        simp only [List.map_cons, Instr.fill, hp]
        rw [if_neg (by simp; omega)]
        exact h1

/-- A struct's literal. -/
theorem op_build {t sz by_ : Nat} {z : Value} {fs : Array Field} {parts : Array (Nat × Operand)} {places : List (Nat × Nat)} {out : List Value} [td : TyD P t (.struct fs)] [ti : TyI P t sz by_ z]
    (hp : ∀ w, (fs.mapM fun f => do pure (f.offset, ← sizeOf f.type) : Sem (Array (Nat × Nat))).run P w = .ok places.toArray w) (hu : ∀ p ∈ parts.toList, ρ p.2 ≠ undef)
    (hf : fillA (places[·]?) z.cells.toList (parts.toList.map fun p => (p.1, ρ p.2)) = some out) (kk : K (.agg out.toArray) h) : AOp P ⟨dst, .build t parts, ty, pos, aft, g⟩ ρ h K :=
  .of_pure kk fun φ ac w r => by
    obtain ⟨arr', h1, h2⟩ := fill_run (φ := φ) (n := h.next) (places[·]?) ac parts.toList z.cells.toList out z.cells (VRels.scalars ti.plain) (fun p hp => r.ev p.2 (by simp [Op.operands]; exact ⟨p.1, by simpa using hp⟩)) hu hf
    refine ⟨.agg arr', ?_, .agg _ _ (by have := h2.length; simpa using this) (fun k x y hx hy => ?_)⟩
    · have he : (parts.map fun (p : Nat × Operand) => (p.1, ac.eval p.2)).toList = parts.toList.map fun p => (p.1, ac.eval p.2) := by simp
      have hrun : (Instr.build t (parts.map fun (p : Nat × Operand) => (p.1, ac.eval p.2))).run P w = .ok (.agg arr') w := by
        simp only [Instr.build, Sem.run_bind, ti.zero, Result.andThen_ok, td.run, hp, he, List.getElem?_toArray]
        rw [h1]
        rfl
      simp [execOp, hrun]
    · obtain ⟨c, hc, hv⟩ := h2.get (j := k) (x := x) (by simpa using hx)
      simp only [Array.getElem?_toList] at hc
      rw [hy] at hc; cases hc; exact hv
/-- A slice's literal, of elements of one cell. -/
theorem op_buildSlice {t e by_ : Nat} {z : Value} {len : Nat} {parts : Array (Nat × Operand)} {out : List Value} [td : TyD P t (.slice e)] [ti : TyI P e 1 by_ z] (hz : oneB z = true) (hl : len ≤ 16777216) (hu : ∀ p ∈ parts.toList, ρ p.2 ≠ undef)
    (hf : fillA (fun i => some (i * 1, 1)) (List.replicate len z) (parts.toList.map fun p => (p.1, ρ p.2)) = some out) (hlen : out.length = len)
    (kk : K (.slice (some ⟨h.next, 0, some 1⟩) len len) (h.alloc ⟨out, e, true⟩)) : AOp P ⟨dst, .buildSlice t len parts, ty, pos, aft, g⟩ ρ h K :=
  .of_run fun φ ac w r => by
    have hzc : z.cells = #[z] := by cases z <;> first | rfl | (simp [oneB] at hz)
    have hzs : scalar z = true := by
      have := ti.plain
      rw [hzc] at this
      simpa using this
    have hmade : (Array.range len).map (fun x => z.cells[x % z.cells.size]!) = Array.replicate len z := madeCells_one z len hzc
    obtain ⟨arr', h1, h2⟩ := fill_run (φ := φ) (n := h.next) (fun i => some (i * 1, 1)) ac parts.toList (List.replicate len z) out (Array.replicate len z) (by
      have : (List.replicate len z).all scalar = true := List.all_eq_true.2 (by intro v hv; rw [List.eq_of_mem_replicate hv]; exact hzs)
      simpa using VRels.scalars (φ := φ) (n := h.next) this) (fun p hp => r.ev p.2 (by simp [Op.operands]; exact ⟨p.1, by simpa using hp⟩)) hu hf
    have hal : arr'.size = len := by have := h2.length; simp at this; omega
    obtain ⟨s1, s2⟩ := r.sim.alloc out arr' e (0, 0) (.inl rfl) (by omega) h2.toArr
    have he : (parts.map fun (p : Nat × Operand) => (p.1, ac.eval p.2)).toList = parts.toList.map fun p => (p.1, ac.eval p.2) := by simp
    have hrun : (Instr.buildSlice t len (parts.map fun (p : Nat × Operand) => (p.1, ac.eval p.2))).run P w = .ok (.slice (some ⟨w.heap.size, 0, none⟩) len len) (w.alloc (.cells arr' e)) := by
      have hb : ¬ (len * 1 > 2 ^ 24) := by omega
      by_cases hl0 : len = 0
      · subst hl0
        simp only [Instr.buildSlice, Sem.run_bind, td.run, Result.andThen_ok, ti.size, if_neg hb, Nat.zero_mul, if_true, Sem.run_pure, he]
        rw [show (Array.map (fun x => (#[] : Array Value)[x % (#[] : Array Value).size]!) (Array.range 0)) = Array.replicate 0 z from by simp [Array.range_zero'], h1]
        simp [newRow]
      · have hn0 : ¬ (len * 1 = 0) := by omega
        simp only [Instr.buildSlice, Sem.run_bind, td.run, Result.andThen_ok, ti.size, if_neg hb, if_neg hn0, ti.zero, Sem.run_pure, he]
        rw [show (Array.map (fun x => z.cells[x % z.cells.size]!) (Array.range (len * 1))) = Array.replicate len z from by rw [Nat.mul_one]; exact hmade, h1]
        simp [newRow]
    refine ⟨_, _, _, _, _, by simp [execOp, hrun]; rfl, kk, ?_, s1, s2⟩
    have h24 : len ≤ maxLen := by simp only [maxLen]; omega
    refine .newSlice (Nat.le_refl _) (Nat.le_refl _) ⟨fun _ => rfl, fun hb => by simp only [maxLen] at h24; omega⟩ h24 ?_
    intro t ht
    cases ht
    omega
end Go.Eng

/-
  The engine, part K: a region whose order is drawn: whatever the order, it comes to what one order comes to.
-/
namespace Go.Eng
open Go

/-- What an operation does to the heap: nothing · it lets be what was there · anything. -/
inductive Kd where
  | R | X | W

def ROp (P : Program) (o : Oper) (ρ : Operand → Value) (h : Heap) (v : Value) : Prop :=
  ∀ h', Ext h h' → h.next ≤ h'.next → AOp P o ρ h' fun v' h'' => v' = v ∧ h'' = h'

def DAL (P : Program) (N : Nat) (ops : Array Oper) (Q : Exit → Env → Heap → Prop) : List (Nat × Kd) → Env → Heap → Prop
  | [], env, h => ∀ φ a w, a.defers = [] → Rel P N φ env h a.tmps w → Post P N φ h w (Q .normal) a w
  | (i, .R) :: σ, env, h => ∃ o, ops[i]? = some o ∧ dstB N o.dst = true ∧ ∃ v, ((gv ops env o = some true ∧ ROp P o (ev P env) h v) ∨ (gv ops env o = some false ∧ v = skipV)) ∧ DAL P N ops Q σ (env.put o.dst v) h
  | (i, .X) :: σ, env, h => ∃ o, ops[i]? = some o ∧ dstB N o.dst = true ∧
      ((gv ops env o = some true ∧ AOp P o (ev P env) h fun v h' => Ext h h' ∧ DAL P N ops Q σ (env.put o.dst v) h') ∨ (gv ops env o = some false ∧ DAL P N ops Q σ (env.put o.dst skipV) h))
  | (i, .W) :: σ, env, h => ∃ o, ops[i]? = some o ∧ dstB N o.dst = true ∧
      ((gv ops env o = some true ∧ AOp P o (ev P env) h fun v h' => DAL P N ops Q σ (env.put o.dst v) h') ∨ (gv ops env o = some false ∧ DAL P N ops Q σ (env.put o.dst skipV) h))

theorem AOp.congr {P : Program} {o : Oper} {ρ ρ' : Operand → Value} {h : Heap} {K : Value → Heap → Prop} (hq : ∀ x, x ∈ o.op.operands → ρ x = ρ' x) (p : AOp P o ρ h K) : AOp P o ρ' h K :=
  fun φ a w r => p φ a w ⟨r.sim, fun x hx => by rw [hq x hx]; exact r.ev x hx⟩
theorem AOp.mono {P : Program} {o : Oper} {ρ : Operand → Value} {h : Heap} {K K' : Value → Heap → Prop} (p : AOp P o ρ h K) (hk : ∀ v h', h.next ≤ h'.next → K v h' → K' v h') : AOp P o ρ h K' :=
  fun φ a w r next Qc kk => p φ a w r next Qc fun c w' φ' h' v k vr s st => kk c w' φ' h' v (hk v h' st.next k) vr s st
theorem ROp.congr {P : Program} {o : Oper} {ρ ρ' : Operand → Value} {h : Heap} {v : Value} (hq : ∀ x, x ∈ o.op.operands → ρ x = ρ' x) (p : ROp P o ρ h v) : ROp P o ρ' h v :=
  fun h' hx hn => (p h' hx hn).congr hq
theorem ROp.ext {P : Program} {o : Oper} {ρ : Operand → Value} {h h1 : Heap} {v : Value} (p : ROp P o ρ h v) (hx : Ext h h1) (hn : h.next ≤ h1.next) : ROp P o ρ h1 v :=
  fun h' hx' hn' => p h' (hx.trans hx') (Nat.le_trans hn hn')

/-- Two frames that say the same. -/
def EqE (e e' : Env) : Prop := ∀ t, e.get t = e'.get t
theorem EqE.ev {P : Program} {e e' : Env} (q : EqE e e') (x : Operand) : Eng.ev P e x = Eng.ev P e' x := by
  cases x with
  | tmp t => exact q t
  | _ => rfl
theorem EqE.gv {ops : Array Oper} {e e' : Env} (q : EqE e e') (o : Oper) : Eng.gv ops e o = Eng.gv ops e' o := by
  unfold Eng.gv
  split
  · rfl
  · split
    · rw [q]
    · rfl
theorem EqE.put {e e' : Env} (q : EqE e e') (d : Option Tmp) (v : Value) : EqE (e.put d v) (e'.put d v) := by
  intro t
  cases d with
  | none => exact q t
  | some d => simp only [Env.put, Env.get_put, q t]
theorem EqE.swap (e : Env) {d d' : Option Tmp} (hne : ∀ t, d = some t → d' ≠ some t) (v v' : Value) : EqE ((e.put d v).put d' v') ((e.put d' v').put d v) := by
  intro t
  cases d with
  | none => rfl
  | some d =>
    cases d' with
    | none => rfl
    | some d' =>
      simp only [Env.put, Env.get_put]
      have hdd : d ≠ d' := fun e => hne d rfl (by rw [e])
      by_cases h1 : d' = t
      · by_cases h2 : d = t
        · exact absurd (h2.trans h1.symm) hdd
        · simp [h1, h2]
      · by_cases h2 : d = t <;> simp [h1, h2]

section
variable {P : Program} {N : Nat} {ops : Array Oper} {Q : Exit → Env → Heap → Prop}

theorem Rel.eqE {φ : Ren} {e e' : Env} {h : Heap} {t : Array Value} {w : World} (r : Rel P N φ e h t w) (q : EqE e e') : Rel P N φ e' h t w := ⟨r.sim, r.size, fun t => by rw [← q t]; exact r.env t⟩
theorem DAL.eqE : ∀ {σ : List (Nat × Kd)} {e e' : Env} {h : Heap}, DAL P N ops Q σ e h → EqE e e' → DAL P N ops Q σ e' h
  | [], e, e', h, p, q => fun φ a w hd r => p φ a w hd (r.eqE fun t => (q t).symm)
  | (i, .R) :: σ, e, e', h, p, q => by
    obtain ⟨o, ho, hd, v, hv, k⟩ := p
    refine ⟨o, ho, hd, v, ?_, DAL.eqE k (q.put _ _)⟩
    rw [← q.gv o]
    exact hv.imp (fun ⟨a, b⟩ => ⟨a, b.congr fun x _ => q.ev x⟩) id
  | (i, .X) :: σ, e, e', h, p, q => by
    obtain ⟨o, ho, hd, hv⟩ := p
    refine ⟨o, ho, hd, ?_⟩
    rw [← q.gv o]
    exact hv.imp (fun ⟨a, b⟩ => ⟨a, (b.congr fun x _ => q.ev x).mono fun v h' _ ⟨k1, k2⟩ => ⟨k1, DAL.eqE k2 (q.put _ _)⟩⟩) (fun ⟨a, b⟩ => ⟨a, DAL.eqE b (q.put _ _)⟩)
  | (i, .W) :: σ, e, e', h, p, q => by
    obtain ⟨o, ho, hd, hv⟩ := p
    refine ⟨o, ho, hd, ?_⟩
    rw [← q.gv o]
    exact hv.imp (fun ⟨a, b⟩ => ⟨a, (b.congr fun x _ => q.ev x).mono fun v h' _ k => DAL.eqE k (q.put _ _)⟩) (fun ⟨a, b⟩ => ⟨a, DAL.eqE b (q.put _ _)⟩)

theorem put_other {e : Env} {d : Option Tmp} {v : Value} {t : Nat} (hne : d ≠ some t) : (e.put d v).get t = e.get t := by
  cases d with
  | none => rfl
  | some d => rw [show (e.put (some d) v) = (d, v) :: e from rfl, Env.get_put, if_neg (fun h => hne (by rw [h]))]
theorem looks_tmp {o : Oper} {t : Nat} (hx : Operand.tmp t ∈ o.op.operands) : t ∈ o.looksAt ops := by
  unfold Oper.looksAt
  refine List.mem_append_left _ (List.mem_filterMap.2 ⟨.tmp t, by simpa using hx, rfl⟩)
theorem ev_put {o : Oper} {e : Env} {d : Option Tmp} {v : Value} (hne : ∀ t, d = some t → t ∉ o.looksAt ops) : ∀ x, x ∈ o.op.operands → ev P (e.put d v) x = ev P e x := by
  intro x hx
  cases x with
  | tmp t => exact put_other (fun h => hne t h (looks_tmp hx))
  | _ => rfl
theorem gv_put {o : Oper} {e : Env} {d : Option Tmp} {v : Value} (hne : ∀ t, d = some t → t ∉ o.looksAt ops) : gv ops (e.put d v) o = gv ops e o := by
  unfold gv
  split
  · rfl
  · rename_i j want hg
    split
    · rename_i t ht
      rw [put_other]
      intro hd
      refine hne t hd ?_
      unfold Oper.looksAt
      refine List.mem_append_right _ ?_
      rw [hg]
      simp [ht]
    · rfl

def kdW : Kd → Bool
  | .W => true
  | _ => false

theorem DAL.swap {i j : Nat} {k : Kd} {oi oj : Oper} {σ : List (Nat × Kd)} {e : Env} {h : Heap} (hi : ops[i]? = some oi) (hj : ops[j]? = some oj) (hap : oj.apart ops oi = true) (hk : kdW k = false)
    (p : DAL P N ops Q ((j, .R) :: (i, k) :: σ) e h) : DAL P N ops Q ((i, k) :: (j, .R) :: σ) e h := by
  obtain ⟨a1, a2, a3⟩ := Oper.apart_spec hap
  obtain ⟨o, ho, hd, vj, hvj, p⟩ := p
  rw [hj] at ho; cases ho
  have later : ∀ (vi : Value) (h' : Heap), Ext h h' → h.next ≤ h'.next → DAL P N ops Q σ ((e.put oj.dst vj).put oi.dst vi) h' → DAL P N ops Q ((j, .R) :: σ) (e.put oi.dst vi) h' := by
    intro vi h' hx hn pk
    refine ⟨oj, hj, hd, vj, ?_, pk.eqE (EqE.swap e a2 vj vi)⟩
    rw [gv_put a3]
    exact hvj.imp (fun ⟨q1, q2⟩ => ⟨q1, (q2.ext hx hn).congr fun x hx => (ev_put a3 x hx).symm⟩) id
  cases k with
  | R =>
    obtain ⟨o, ho, hdi, vi, hvi, p⟩ := p
    rw [hi] at ho; cases ho
    rw [gv_put a1] at hvi
    exact ⟨oi, hi, hdi, vi, hvi.imp (fun ⟨q1, q2⟩ => ⟨q1, q2.congr (ev_put a1)⟩) id, later vi h (Ext.refl h) (Nat.le_refl _) p⟩
  | X =>
    obtain ⟨o, ho, hdi, hvi⟩ := p
    rw [hi] at ho; cases ho
    rw [gv_put a1] at hvi
    refine ⟨oi, hi, hdi, ?_⟩
    exact hvi.imp (fun ⟨q1, q2⟩ => ⟨q1, (q2.congr (ev_put a1)).mono fun v h' hn ⟨k1, k2⟩ => ⟨k1, later v h' k1 hn k2⟩⟩) (fun ⟨q1, q2⟩ => ⟨q1, later skipV h (Ext.refl h) (Nat.le_refl _) q2⟩)
  | W => cases hk

theorem DAL.front {i : Nat} {k : Kd} {oi : Oper} {σ2 : List (Nat × Kd)} (hi : ops[i]? = some oi) : ∀ {σ1 : List (Nat × Kd)} {e : Env} {h : Heap},
    (∀ s ∈ σ1, s.2 = .R ∧ kdW k = false ∧ ∃ oj, ops[s.1]? = some oj ∧ oj.apart ops oi = true) → DAL P N ops Q (σ1 ++ (i, k) :: σ2) e h → DAL P N ops Q ((i, k) :: (σ1 ++ σ2)) e h
  | [], _, _, _, p => p
  | (j, kj) :: σ1, e, h, hs, p => by
    obtain ⟨h1, h2, oj, h3, h4⟩ := hs (j, kj) (by simp)
    simp only at h1 h3
    subst h1
    obtain ⟨o, ho, hd, v, hv, p⟩ := p
    have p' := DAL.front (σ2 := σ2) hi (fun s hs' => hs s (by simp [hs'])) p
    exact DAL.swap hi h3 h4 h2 ⟨o, ho, hd, v, hv, p'⟩
end

/-! The check. -/
def edgeB (ops : Array Oper) (i j : Nat) : Bool :=
  match ops[i]? with
  | some o => o.after.any fun e => Region.binds .any e && Nat.beq e.on j
  | none => false
def ancB (A : Array Nat) (i j : Nat) : Bool := (A.getD i 0).testBit j
def apartB (ops : Array Oper) (j i : Nat) : Bool :=
  match ops[j]?, ops[i]? with
  | some oj, some oi => oj.apart ops oi
  | _, _ => false
def kdR : Kd → Bool
  | .R => true
  | _ => false
def pairB (ops : Array Oper) (A : Array Nat) (p q : Nat × Kd) : Bool :=
  !edgeB ops p.1 q.1 && (ancB A q.1 p.1 || (kdR p.2 && !kdW q.2 && apartB ops p.1 q.1))
def pairsB (ops : Array Oper) (A : Array Nat) : List (Nat × Kd) → Bool
  | [] => true
  | p :: σ => !edgeB ops p.1 p.1 && σ.all (fun q => !Nat.beq p.1 q.1 && pairB ops A p q) && pairsB ops A σ
def closeB (ops : Array Oper) (A : Array Nat) : Bool :=
  (List.range ops.size).all fun i => (List.range ops.size).all fun j => !ancB A i j || edgeB ops i j || (List.range ops.size).any fun k => edgeB ops i k && ancB A k j
def rangeB (ops : Array Oper) : Bool := ops.all fun o => o.after.all fun e => !Region.binds .any e || Nat.blt e.on ops.size
def drawB (ops : Array Oper) (σ : List (Nat × Kd)) : Bool :=
  let A := Region.before ops
  Nat.beq σ.length ops.size && (List.range ops.size).all (fun i => σ.any fun p => Nat.beq p.1 i) && σ.all (fun p => Nat.blt p.1 ops.size) && A.all (fun x => Nat.blt x (2 ^ ops.size)) && rangeB ops && pairsB ops A σ && closeB ops A

theorem edgeB_iff {ops : Array Oper} {i j : Nat} {o : Oper} (ho : ops[i]? = some o) : edgeB ops i j = true ↔ ∃ e ∈ o.after, Region.binds .any e = true ∧ e.on = j := by
  simp only [edgeB, ho]
  rw [← Array.any_toList, List.any_eq_true]
  constructor
  · rintro ⟨e, he, hb⟩
    rw [Bool.and_eq_true] at hb
    exact ⟨e, by simpa using he, hb.1, Nat.eq_of_beq_eq_true hb.2⟩
  · rintro ⟨e, he, hb, rfl⟩
    exact ⟨e, by simpa using he, by rw [Bool.and_eq_true]; exact ⟨hb, Nat.beq_refl _⟩⟩

theorem pairsB_sub {ops : Array Oper} {A : Array Nat} : ∀ {σ1 σ2 : List (Nat × Kd)} {p : Nat × Kd}, pairsB ops A (σ1 ++ p :: σ2) = true → pairsB ops A (σ1 ++ σ2) = true ∧ (∀ s ∈ σ1, pairB ops A s p = true ∧ s.1 ≠ p.1) ∧ (∀ s ∈ σ2, s.1 ≠ p.1)
  | [], σ2, p, hp => by
    simp only [List.nil_append, pairsB, Bool.and_eq_true, List.all_eq_true] at hp
    refine ⟨hp.2, by simp, fun s hs he => ?_⟩
    have := (hp.1.2 s hs).1
    rw [he] at this
    simp at this
  | q :: σ1, σ2, p, hp => by
    simp only [List.cons_append, pairsB, Bool.and_eq_true, List.all_eq_true] at hp
    obtain ⟨⟨h0, h1⟩, h2⟩ := hp
    obtain ⟨g1, g2, g3⟩ := pairsB_sub h2
    refine ⟨?_, ?_, g3⟩
    · simp only [List.cons_append, pairsB, Bool.and_eq_true, List.all_eq_true]
      refine ⟨⟨h0, fun s hs => h1 s ?_⟩, g1⟩
      rcases List.mem_append.1 hs with h | h
      · exact List.mem_append_left _ h
      · exact List.mem_append_right _ (by simp [h])
    · intro s hs
      rcases List.mem_cons.1 hs with rfl | hs
      · obtain ⟨u1, u2⟩ := h1 p (List.mem_append_right _ (by simp))
        refine ⟨u2, fun he => ?_⟩
        rw [he] at u1
        simp at u1
      · exact g2 s hs

variable {P : Program} {N : Nat} {ops : Array Oper} {Q : Exit → Env → Heap → Prop}

theorem wpAny_mono {Qc Qc' : Exit → Act → World → Prop} (hq : ∀ e a w, Qc e a w → Qc' e a w) : ∀ (fuel : Nat) (L : Array Bool) (a : Act) (w : World), wpAny P .any ops Qc fuel L a w → wpAny P .any ops Qc' fuel L a w
  | 0, L, a, w, p => ⟨p.1, hq _ _ _ p.2⟩
  | fuel + 1, L, a, w, p => by
    refine ⟨fun hr => hq _ _ _ (p.1 hr), fun i hi => ?_⟩
    have := p.2 i hi
    unfold wpOp at this ⊢
    split
    · rename_i ho
      simp only [ho] at this
      exact wpAny_mono hq fuel _ a w this
    · rename_i o ho
      simp only [ho] at this
      split
      · rename_i hw
        rw [if_pos hw] at this
        rcases this with p | ⟨p1, p2⟩
        · exact .inl (upon_mono (wpAny_mono hq fuel _) hq _ p)
        · exact .inr ⟨p1, letsOut_mono hq p2⟩
      · rename_i hw
        rw [if_neg hw] at this
        exact wpAny_mono hq fuel _ _ w this

theorem any_order (A : Array Nat) (hr : rangeB ops = true) (hc : closeB ops A = true) (hA : ∀ i j, ancB A i j = true → j < ops.size) : ∀ (n : Nat) (σ : List (Nat × Kd)) (L : Array Bool) (env : Env) (h : Heap) (φ : Ren) (a : Act) (w : World), σ.length = n → L.size = ops.size →
    (∀ i, i < ops.size → (L.getD i true = false ↔ ∃ k, (i, k) ∈ σ)) → (∀ s ∈ σ, s.1 < ops.size) → (∀ i j, L.getD i false = true → ancB A i j = true → L.getD j false = true) → pairsB ops A σ = true →
    a.defers = [] → Rel P N φ env h a.tmps w → DAL P N ops Q σ env h → wpAny P .any ops (fun ex a' w' => Post P N φ h w (Q ex) a' w') n L a w := by
  intro n
  induction n with
  | zero =>
    intro σ L env h φ a w hn hL hmem _ _ _ hd r p
    have : σ = [] := List.eq_nil_of_length_eq_zero hn
    subst this
    refine ⟨?_, p φ a w hd r⟩
    apply List.eq_nil_iff_forall_not_mem.2
    intro i hi
    obtain ⟨h1, o, h2, _⟩ := mem_ready.1 hi
    have hlt : i < ops.size := (Array.getElem?_eq_some_iff.1 h2).1
    obtain ⟨k, hk⟩ := (hmem i hlt).1 h1
    cases hk
  | succ n ih =>
    intro σ L env h φ a w hn hL hmem hlt hclo hpr hd r p
    have hin : ∀ j, j < ops.size → (¬ ∃ k, (j, k) ∈ σ) → L.getD j false = true := by
      intro j hj hno
      cases hq : L.getD j true with
      | false => exact absurd ((hmem j hj).1 hq) hno
      | true =>
        have hjl : j < L.size := by omega
        simp only [Array.getD_eq_getD_getElem?, Array.getElem?_eq_getElem hjl, Option.getD_some] at hq ⊢
        exact hq
    have hrange : ∀ (i : Nat) (o : Oper), ops[i]? = some o → ∀ e ∈ o.after, Region.binds .any e = true → e.on < ops.size := by
      intro i o ho e he hb
      have h1 := Array.all_eq_true_iff_forall_mem.1 hr o (Array.mem_of_getElem? ho)
      have h2 := Array.all_eq_true_iff_forall_mem.1 h1 e he
      simp only [hb, Bool.not_true, Bool.false_or] at h2
      simpa [Nat.blt_eq] using h2
    refine ⟨fun hnil => ?_, fun i hi => ?_⟩
    · exfalso
      obtain ⟨⟨i0, k0⟩, σ', rfl⟩ : ∃ s σ', σ = s :: σ' := by
        cases σ with
        | nil => simp at hn
        | cons s σ' => exact ⟨s, σ', rfl⟩
      have hi0 := hlt (i0, k0) (by simp)
      have ho0 : ops[i0]? = some ops[i0] := Array.getElem?_eq_getElem hi0
      have : i0 ∈ Region.ready .any ops L := by
        refine mem_ready.2 ⟨(hmem i0 hi0).2 ⟨k0, by simp⟩, ops[i0], ho0, fun e he hb => ?_⟩
        have hedge : edgeB ops i0 e.on = true := (edgeB_iff ho0).2 ⟨e, he, hb, rfl⟩
        refine hin e.on (hrange i0 _ ho0 e he hb) ?_
        rintro ⟨k, hk⟩
        simp only [pairsB, Bool.and_eq_true, List.all_eq_true, Bool.not_eq_eq_eq_not, Bool.not_true] at hpr
        rcases List.mem_cons.1 hk with hk | hk
        · cases hk
          rw [hpr.1.1] at hedge; cases hedge
        · have := (hpr.1.2 _ hk).2
          simp only [pairB, Bool.and_eq_true, Bool.not_eq_eq_eq_not, Bool.not_true] at this
          rw [this.1] at hedge; cases hedge
      rw [hnil] at this
      cases this
    · obtain ⟨hi1, o, ho, hedges⟩ := mem_ready.1 hi
      have hilt : i < ops.size := (Array.getElem?_eq_some_iff.1 ho).1
      obtain ⟨k, hk⟩ := (hmem i hilt).1 hi1
      obtain ⟨σ1, σ2, rfl⟩ := List.append_of_mem hk
      obtain ⟨hp1, hp2, hp3⟩ := pairsB_sub hpr
      have hanc : ∀ j, ancB A i j = true → L.getD j false = true := by
        intro j hj
        have hjl := hA i j hj
        have h1 := List.all_eq_true.1 (List.all_eq_true.1 hc i (List.mem_range.2 hilt)) j (List.mem_range.2 hjl)
        simp only [hj, Bool.not_true, Bool.false_or, Bool.or_eq_true, List.any_eq_true, Bool.and_eq_true] at h1
        rcases h1 with h1 | ⟨m, _, h2, h3⟩
        · obtain ⟨e, he, hb, rfl⟩ := (edgeB_iff ho).1 h1
          exact hedges e he hb
        · obtain ⟨e, he, hb, rfl⟩ := (edgeB_iff ho).1 h2
          exact hclo _ j (hedges e he hb) h3
      have hfr : ∀ s ∈ σ1, s.2 = .R ∧ kdW k = false ∧ ∃ oj, ops[s.1]? = some oj ∧ oj.apart ops o = true := by
        intro s hs
        obtain ⟨u1, u2⟩ := hp2 s hs
        simp only [pairB, Bool.and_eq_true, Bool.or_eq_true, Bool.not_eq_eq_eq_not, Bool.not_true] at u1
        rcases u1.2 with u3 | ⟨⟨u3, u4⟩, u5⟩
        · exfalso
          have h1 := hanc s.1 u3
          have h2 := (hmem s.1 (hlt s (by simp [hs]))).2 ⟨s.2, by simp [hs]⟩
          have hjl : s.1 < L.size := by rw [hL]; exact hlt s (by simp [hs])
          simp only [Array.getD_eq_getD_getElem?, Array.getElem?_eq_getElem hjl, Option.getD_some] at h1 h2
          rw [h1] at h2; cases h2
        · refine ⟨?_, u4, ?_⟩
          · cases hs2 : s.2 with
            | R => rfl
            | X => rw [hs2] at u3; cases u3
            | W => rw [hs2] at u3; cases u3
          · unfold apartB at u5
            rw [ho] at u5
            cases hoj : ops[s.1]? with
            | none => rw [hoj] at u5; cases u5
            | some oj => rw [hoj] at u5; exact ⟨oj, rfl, u5⟩
      have pf := DAL.front ho hfr p
      have hL' : (L.setIfInBounds i true).size = ops.size := by simp [hL]
      have hlen' : (σ1 ++ σ2).length = n := by simp at hn ⊢; omega
      have hmem' : ∀ j, j < ops.size → ((L.setIfInBounds i true).getD j true = false ↔ ∃ k, (j, k) ∈ σ1 ++ σ2) := by
        intro j hj
        by_cases hji : i = j
        · subst hji
          have : (L.setIfInBounds i true).getD i true = true := by
            simp [Array.getD_eq_getD_getElem?]
          rw [this]
          constructor
          · intro e; cases e
          · rintro ⟨k', hk'⟩
            exfalso
            rcases List.mem_append.1 hk' with h1 | h1
            · exact (hp2 _ h1).2 rfl
            · exact hp3 _ h1 rfl
        · rw [getD_set_ne _ hji, hmem j hj]
          constructor
          · rintro ⟨k', hk'⟩
            refine ⟨k', ?_⟩
            rcases List.mem_append.1 hk' with h1 | h1
            · exact List.mem_append_left _ h1
            · rcases List.mem_cons.1 h1 with h2 | h2
              · cases h2; exact absurd rfl hji
              · exact List.mem_append_right _ h2
          · rintro ⟨k', hk'⟩
            refine ⟨k', ?_⟩
            rcases List.mem_append.1 hk' with h1 | h1
            · exact List.mem_append_left _ h1
            · exact List.mem_append_right _ (by simp [h1])
      have hlt' : ∀ s ∈ σ1 ++ σ2, s.1 < ops.size := by
        intro s hs
        refine hlt s ?_
        rcases List.mem_append.1 hs with h1 | h1
        · exact List.mem_append_left _ h1
        · exact List.mem_append_right _ (by simp [h1])
      have hclo' : ∀ x y, (L.setIfInBounds i true).getD x false = true → ancB A x y = true → (L.setIfInBounds i true).getD y false = true := by
        intro x y hx hxy
        refine getD_set_true ?_
        by_cases hxi : i = x
        · subst hxi; exact hanc y hxy
        · rw [getD_set_ne _ hxi] at hx
          exact hclo x y hx hxy
      have go : ∀ (φ' : Ren) (env' : Env) (h' : Heap) (a' : Act) (w' : World), a'.defers = [] → Rel P N φ' env' h' a'.tmps w' → Step φ h w φ' h' w' → DAL P N ops Q (σ1 ++ σ2) env' h' →
          wpAny P .any ops (fun ex a2 w2 => Post P N φ h w (Q ex) a2 w2) n (L.setIfInBounds i true) a' w' := by
        intro φ' env' h' a' w' hd' r' st p'
        exact wpAny_mono (fun _ _ _ hp => hp.trans st) _ _ _ _ (ih (σ1 ++ σ2) _ env' h' φ' a' w' hlen' hL' hmem' hlt' hclo' hp1 hd' r' p')
      have run : ∀ (K : Value → Heap → Prop), dstB N o.dst = true → gv ops env o = some true → AOp P o (ev P env) h K → (∀ v h', K v h' → DAL P N ops Q (σ1 ++ σ2) (env.put o.dst v) h') →
          wpOp P ops (fun ex a2 w2 => Post P N φ h w (Q ex) a2 w2) i (wpAny P .any ops (fun ex a2 w2 => Post P N φ h w (Q ex) a2 w2) n (L.setIfInBounds i true)) a w := by
        intro K hdst hg hop hk
        simp only [wpOp, ho, wanted_of r hg, if_true]
        refine .inl (hop φ a w ⟨r.sim, fun x _ => r.ev x⟩ _ _ fun c w' φ' h' v kv vr s st => ?_)
        exact go φ' _ h' _ w' (by rw [put_defers]; exact hd) ((r.step s st).put o.dst (dstB_lt hdst) vr) st (hk v h' kv)
      have skip : dstB N o.dst = true → gv ops env o = some false → DAL P N ops Q (σ1 ++ σ2) (env.put o.dst skipV) h →
          wpOp P ops (fun ex a2 w2 => Post P N φ h w (Q ex) a2 w2) i (wpAny P .any ops (fun ex a2 w2 => Post P N φ h w (Q ex) a2 w2) n (L.setIfInBounds i true)) a w := by
        intro hdst hg hk
        simp only [wpOp, ho, wanted_of r hg, Bool.false_eq_true, if_false]
        exact go φ _ h _ w (by rw [put_defers]; exact hd) (r.put o.dst (dstB_lt hdst) .skip) (Step.refl _ _ _) hk
      cases k with
      | R =>
        obtain ⟨o', ho', hdst, v, hv, pk⟩ := pf
        rw [ho] at ho'; cases ho'
        rcases hv with ⟨g1, g2⟩ | ⟨g1, rfl⟩
        · exact run _ hdst g1 (g2 h (Ext.refl h) (Nat.le_refl _)) fun v' h' ⟨e1, e2⟩ => by subst e1 e2; exact pk
        · exact skip hdst g1 pk
      | X =>
        obtain ⟨o', ho', hdst, hv⟩ := pf
        rw [ho] at ho'; cases ho'
        rcases hv with ⟨g1, g2⟩ | ⟨g1, g2⟩
        · exact run _ hdst g1 g2 fun v' h' ⟨_, e2⟩ => e2
        · exact skip hdst g1 g2
      | W =>
        obtain ⟨o', ho', hdst, hv⟩ := pf
        rw [ho] at ho'; cases ho'
        rcases hv with ⟨g1, g2⟩ | ⟨g1, g2⟩
        · exact run _ hdst g1 g2 fun v' h' e2 => e2
        · exact skip hdst g1 g2

/-- A region whose order is drawn. -/
theorem AWp.draw {id : Nat} {σ : List (Nat × Kd)} {env : Env} {h : Heap} (hm : P.follows .mixedOrders = true) (hb : drawB ops σ = true) (p : DAL P N ops Q σ env h) : AWp P N (.region id ops true) Q env h := by
  intro φ a w hd r
  simp only [drawB, Bool.and_eq_true] at hb
  obtain ⟨⟨⟨⟨⟨⟨b1, b2⟩, b3⟩, b4⟩, b5⟩, b6⟩, b7⟩ := hb
  have b1' : σ.length = ops.size := Nat.eq_of_beq_eq_true b1
  refine wp_region_any hm ?_
  have r' : Rel P N φ env h a.tmps w.drew := ⟨r.sim.drew, r.size, r.env⟩
  refine wpAny_mono (fun _ _ _ hp => hp.trans Step.drew) _ _ _ _ (any_order (Region.before ops) b5 b7 ?_ ops.size σ (Array.replicate ops.size false) env h φ a w.drew b1' (by simp) ?_ ?_ ?_ b6 hd r' p)
  · intro i j hij
    unfold ancB at hij
    rcases Nat.lt_or_ge j ops.size with hl | hl
    · exact hl
    · exfalso
      have hx : (Region.before ops).getD i 0 < 2 ^ ops.size := by
        rcases Nat.lt_or_ge i (Region.before ops).size with h1 | h1
        · have := Array.all_eq_true_iff_forall_mem.1 b4 ((Region.before ops)[i]) (by simp)
          rw [Array.getD_eq_getD_getElem?, Array.getElem?_eq_getElem h1]
          simpa [Nat.blt_eq] using this
        · rw [Array.getD_eq_getD_getElem?, Array.getElem?_eq_none h1]
          exact Nat.two_pow_pos _
      have := Nat.testBit_lt_two_pow (Nat.lt_of_lt_of_le hx (Nat.pow_le_pow_right (by omega) hl))
      rw [this] at hij
      cases hij
  · intro i hi
    have h1 : (Array.replicate ops.size false).getD i true = false := by
      simp [Array.getD_eq_getD_getElem?, hi]
    rw [h1]
    simp only [true_iff]
    have := List.all_eq_true.1 b2 i (List.mem_range.2 hi)
    obtain ⟨⟨j, k⟩, h2, h3⟩ := List.any_eq_true.1 this
    have : j = i := Nat.eq_of_beq_eq_true h3
    subst this
    exact ⟨k, h2⟩
  · intro s hs
    simpa [Nat.blt_eq] using List.all_eq_true.1 b3 s hs
  · intro i j hi
    exfalso
    by_cases hl : i < ops.size
    · simp [Array.getD_eq_getD_getElem?, hl] at hi
    · simp [Array.getD_eq_getD_getElem?, hl] at hi

/-! One step. -/
section steps
variable {i : Nat} {σ : List (Nat × Kd)} {env : Env} {h : Heap} {d : Tmp} {op : Op} {ty : TypeId} {pos : String} {aft : Array Edge} {g : Option (Nat × Bool)}
theorem DAL.r {v : Value} (ho : ops[i]? = some ⟨some d, op, ty, pos, aft, g⟩) (hd : Nat.blt d N = true) (hg : gv ops env ⟨some d, op, ty, pos, aft, g⟩ = some true) (hv : ∀ h', Ext h h' → h.next ≤ h'.next → AOp P ⟨some d, op, ty, pos, aft, g⟩ (ev P env) h' fun v' h'' => v' = v ∧ h'' = h')
    (k : DAL P N ops Q σ ((d, v) :: env) h) : DAL P N ops Q ((i, .R) :: σ) env h := ⟨_, ho, hd, v, .inl ⟨hg, hv⟩, k⟩
theorem DAL.skip {kd : Kd} (ho : ops[i]? = some ⟨some d, op, ty, pos, aft, g⟩) (hd : Nat.blt d N = true) (hg : gv ops env ⟨some d, op, ty, pos, aft, g⟩ = some false)
    (k : DAL P N ops Q σ ((d, skipV) :: env) h) : DAL P N ops Q ((i, kd) :: σ) env h := by
  cases kd
  · exact ⟨_, ho, hd, skipV, .inr ⟨hg, rfl⟩, k⟩
  · exact ⟨_, ho, hd, .inr ⟨hg, k⟩⟩
  · exact ⟨_, ho, hd, .inr ⟨hg, k⟩⟩
theorem DAL.x (ho : ops[i]? = some ⟨some d, op, ty, pos, aft, g⟩) (hd : Nat.blt d N = true) (hg : gv ops env ⟨some d, op, ty, pos, aft, g⟩ = some true) (hv : AOp P ⟨some d, op, ty, pos, aft, g⟩ (ev P env) h fun v h' => Ext h h' ∧ DAL P N ops Q σ ((d, v) :: env) h') :
    DAL P N ops Q ((i, .X) :: σ) env h := ⟨_, ho, hd, .inl ⟨hg, hv⟩⟩
theorem DAL.w (ho : ops[i]? = some ⟨some d, op, ty, pos, aft, g⟩) (hd : Nat.blt d N = true) (hg : gv ops env ⟨some d, op, ty, pos, aft, g⟩ = some true) (hv : AOp P ⟨some d, op, ty, pos, aft, g⟩ (ev P env) h fun v h' => DAL P N ops Q σ ((d, v) :: env) h') :
    DAL P N ops Q ((i, .W) :: σ) env h := ⟨_, ho, hd, .inl ⟨hg, hv⟩⟩
theorem DAL.w0 (ho : ops[i]? = some ⟨none, op, ty, pos, aft, g⟩) (hg : gv ops env ⟨none, op, ty, pos, aft, g⟩ = some true) (hv : AOp P ⟨none, op, ty, pos, aft, g⟩ (ev P env) h fun _ h' => DAL P N ops Q σ env h') :
    DAL P N ops Q ((i, .W) :: σ) env h := ⟨_, ho, rfl, .inl ⟨hg, hv⟩⟩
theorem DAL.heap {h' : Heap} (e : h' = h) (p : DAL P N ops Q σ env h) : DAL P N ops Q σ env h' := e ▸ p
theorem DAL.nil (k : Q .normal env h) : DAL P N ops Q [] env h := fun _ _ _ hd r => Post.now k hd r
end steps
end Go.Eng

/-
  The engine, part L: slices by what they read avs.
-/
namespace Go.Eng
open Go

variable {P : Program} {ρ : Operand → Value} {h : Heap} {K : Value → Heap → Prop} {dst : Option Tmp} {ty : TypeId} {pos : String} {aft : Array Edge} {g : Option (Nat × Bool)}

/-- A piece of a slice; the place of an element. -/
def subS (v : Value) (l m : Int) : Value :=
  match v with
  | .slice (some ⟨i, o, s⟩) _ c => .slice (some ⟨i, o + l.toNat * 1, s⟩) (m - l).toNat (c - l.toNat)
  | _ => .slice none 0 0
def ptrS (v : Value) (a : Int) : Value :=
  match v with
  | .slice (some ⟨i, o, _⟩) _ _ => .pointer (some ⟨i, o + a.toNat * 1, none⟩)
  | _ => undef
/-- The value v is a slice whose elements, of one cell each, are vs. -/
def RS (h : Heap) (v : Value) (vs : List Value) : Prop :=
  (v = .slice none 0 0 ∧ vs = []) ∨
  ∃ i o s c, v = .slice (some ⟨i, o, s⟩) vs.length c ∧ (s = none ∨ s = some 1) ∧ (vs ≠ [] → ∃ b, h.get i = some b ∧ o + vs.length ≤ b.cells.length ∧ (b.cells.drop o).take vs.length = vs)
/-- A slice of bytes. -/
def RB (h : Heap) (v : Value) (l : List UInt8) : Prop := RS h v (bv l)
/-- A slice of slices of bytes. -/
def RBB (h : Heap) (v : Value) (ll : List (List UInt8)) : Prop := ∃ vs, RS h v vs ∧ vs.length = ll.length ∧ ∀ (k : Nat) x l, vs[k]? = some x → ll[k]? = some l → RB h x l

theorem RS.ext {h h' : Heap} {v : Value} {vs : List Value} (r : RS h v vs) (hx : Ext h h') : RS h' v vs := by
  rcases r with r | ⟨i, o, s, c, h1, h2, h3⟩
  · exact .inl r
  · exact .inr ⟨i, o, s, c, h1, h2, fun hv => by obtain ⟨b, h4, h5⟩ := h3 hv; exact ⟨b, hx i b h4, h5⟩⟩
theorem RB.ext {h h' : Heap} {v : Value} {l : List UInt8} (r : RB h v l) (hx : Ext h h') : RB h' v l := RS.ext r hx
theorem RBB.ext {h h' : Heap} {v : Value} {l : List (List UInt8)} (r : RBB h v l) (hx : Ext h h') : RBB h' v l := by
  obtain ⟨vs, h1, h2, h3⟩ := r
  exact ⟨vs, h1.ext hx, h2, fun k x l hk hl => (h3 k x l hk hl).ext hx⟩
theorem RS.slice {v : Value} {vs : List Value} (r : RS h v vs) : ∃ a c, v = .slice a vs.length c := by
  rcases r with ⟨rfl, rfl⟩ | ⟨i, o, s, c, h1, _⟩
  · exact ⟨none, 0, rfl⟩
  · exact ⟨_, c, h1⟩
theorem RS.nil (h : Heap) : RS h (.slice none 0 0) [] := .inl ⟨rfl, rfl⟩
theorem RB.nil (h : Heap) : RB h (.slice none 0 0) [] := .inl ⟨rfl, rfl⟩
theorem RS.of {i o n c : Nat} {s : Option Nat} {b : Blk} {vs : List Value} (hi : h.get i = some b) (hs : s = none ∨ s = some 1) (hn : vs.length = n) (hl : o + n ≤ b.cells.length) (hv : (b.cells.drop o).take n = vs) : RS h (.slice (some ⟨i, o, s⟩) n c) vs := by
  subst hn
  exact .inr ⟨i, o, s, c, rfl, hs, fun _ => ⟨b, hi, hl, hv⟩⟩
theorem RS.own {i n c : Nat} {e : TypeId} {w : Bool} {vs : List Value} (hi : h.get i = some ⟨vs, e, w⟩) (hn : vs.length = n) : RS h (.slice (some ⟨i, 0, some 1⟩) n c) vs := by
  subst hn
  exact .inr ⟨i, 0, some 1, c, rfl, .inr rfl, fun _ => ⟨_, hi, by simp, by simp⟩⟩
theorem RS.src {v : Value} {vs : List Value} (r : RS h v vs) : Src h 1 v vs.length vs := by
  rcases r with ⟨rfl, rfl⟩ | ⟨i, o, s, c, rfl, hs, hb⟩
  · exact .nil
  · by_cases hv : vs = []
    · subst hv; exact .empty _ _
    · obtain ⟨b, h1, h2, h3⟩ := hb hv
      have := Src.slice (h := h) (sz := 1) i o s vs.length c b h1 (by omega)
      rw [Nat.mul_one, h3] at this
      exact this
theorem RB.src {v : Value} {l : List UInt8} (r : RB h v l) : Src h 1 v l.length (bv l) := by
  have := RS.src r
  rwa [bv_length] at this

theorem op_lenR {x : Operand} {t e : TypeId} {v : Value} {vs : List Value} [td : TyD P t (.slice e)] (r : RS h v vs) (hx : ρ x = v) (kk : K (.int .i64 vs.length) h) :
    AOp P ⟨dst, .call ⟨.builtin .len, #[x], #[t]⟩, ty, pos, aft, g⟩ ρ h K := by
  obtain ⟨a, c, e⟩ := r.slice
  exact op_lenS (hx.trans e) kk
theorem op_lenRB {x : Operand} {t e : TypeId} {v : Value} {l : List UInt8} [td : TyD P t (.slice e)] (r : RB h v l) (hx : ρ x = v) (kk : K (.int .i64 l.length) h) :
    AOp P ⟨dst, .call ⟨.builtin .len, #[x], #[t]⟩, ty, pos, aft, g⟩ ρ h K := op_lenR r hx (by rw [bv_length]; exact kk)
theorem op_lenRBB {x : Operand} {t e : TypeId} {v : Value} {l : List (List UInt8)} [td : TyD P t (.slice e)] (r : RBB h v l) (hx : ρ x = v) (kk : K (.int .i64 l.length) h) :
    AOp P ⟨dst, .call ⟨.builtin .len, #[x], #[t]⟩, ty, pos, aft, g⟩ ρ h K := by
  obtain ⟨vs, h1, h2, _⟩ := r
  exact op_lenR h1 hx (by rw [h2]; exact kk)

/-- A pointer to a cell that is known. -/
def PT (h : Heap) (p v : Value) : Prop := ∃ i o s b, p = .pointer (some ⟨i, o, s⟩) ∧ h.get i = some b ∧ b.cells[o]? = some v
theorem PT.ext {h h' : Heap} {p v : Value} (r : PT h p v) (hx : Ext h h') : PT h' p v := by
  obtain ⟨i, o, s, b, h1, h2, h3⟩ := r
  exact ⟨i, o, s, b, h1, hx i b h2, h3⟩
theorem op_indexD {t e : TypeId} {x y : Operand} {by_ : Nat} {z v u : Value} {k : IntKind} {a : Int} {vs : List Value} [td : TyD P t (.slice e)] [ti : TyI P e 1 by_ z] (r : RS h v vs) (hx : ρ x = v) (hy : ρ y = .int k a) (h0 : 0 ≤ a)
    (hu : vs[a.toNat]? = some u) (kk : PT h (ptrS v a) u → K (ptrS v a) h) : AOp P ⟨dst, .indexAddr t x y, ty, pos, aft, g⟩ ρ h K := by
  have hl := (List.getElem?_eq_some_iff.1 hu).1
  rcases r with ⟨rfl, rfl⟩ | ⟨i, o, s, c, rfl, hs, hb⟩
  · simp at hl
  · obtain ⟨b, h1, h2, h3⟩ := hb (by intro e; subst e; simp at hl)
    refine op_indexS hx hy h0 (by omega) (kk ⟨i, o + a.toNat * 1, none, b, rfl, h1, ?_⟩)
    rw [Nat.mul_one]
    have : ((b.cells.drop o).take vs.length)[a.toNat]? = some u := by rw [h3]; exact hu
    rw [List.getElem?_take_of_lt hl, List.getElem?_drop] at this
    exact this
theorem op_indexR {t e : TypeId} {x y : Operand} {by_ : Nat} {z v u : Value} {k : IntKind} {a : Int} {vs : List Value} [td : TyD P t (.slice e)] [ti : TyI P e 1 by_ z] (r : RS h v vs) (hx : ρ x = v) (hy : ρ y = .int k a) (h0 : 0 ≤ a)
    (hu : vs[a.toNat]? = some u) (kk : ∀ p, PT h p u → K p h) : AOp P ⟨dst, .indexAddr t x y, ty, pos, aft, g⟩ ρ h K := op_indexD r hx hy h0 hu (kk _)
theorem PT.of {v u : Value} {vs : List Value} {a : Int} (r : RS h v vs) (hu : vs[a.toNat]? = some u) : PT h (ptrS v a) u := by
  have hl := (List.getElem?_eq_some_iff.1 hu).1
  rcases r with ⟨rfl, rfl⟩ | ⟨i, o, s, c, rfl, hs, hb⟩
  · simp at hl
  · obtain ⟨b, h1, h2, h3⟩ := hb (by intro e; subst e; simp at hl)
    refine ⟨i, o + a.toNat * 1, none, b, rfl, h1, ?_⟩
    rw [Nat.mul_one]
    have : ((b.cells.drop o).take vs.length)[a.toNat]? = some u := by rw [h3]; exact hu
    rw [List.getElem?_take_of_lt hl, List.getElem?_drop] at this
    exact this
theorem op_loadR {t : TypeId} {x : Operand} {p v : Value} {d : TypeDesc} [td : TyD P t d] (r : PT h p v) (hx : ρ x = p) (ha : aggB d = false) (kk : K v h) : AOp P ⟨dst, .load t x, ty, pos, aft, g⟩ ρ h K := by
  obtain ⟨i, o, s, b, rfl, h1, h2⟩ := r
  exact op_load hx ha h1 h2 kk

theorem RS.sub {v : Value} {vs : List Value} {l m : Int} (r : RS h v vs) (h0 : 0 ≤ l) (h1 : l ≤ m) (h2 : m ≤ vs.length) : RS h (subS v l m) ((vs.take m.toNat).drop l.toNat) := by
  rcases r with ⟨rfl, rfl⟩ | ⟨i, o, s, c, rfl, hs, hb⟩
  · exact .inl ⟨rfl, by simp⟩
  · have hlen : ((vs.take m.toNat).drop l.toNat).length = (m - l).toNat := by simp; omega
    refine .inr ⟨i, o + l.toNat * 1, s, c - l.toNat, by rw [hlen]; rfl, hs, fun hne => ?_⟩
    have hv : vs ≠ [] := by intro e; subst e; simp at hne
    obtain ⟨b, q1, q2, q3⟩ := hb hv
    refine ⟨b, q1, by rw [hlen]; omega, ?_⟩
    rw [hlen, Nat.mul_one]
    have : (vs.take m.toNat).drop l.toNat = ((((b.cells.drop o).take vs.length).take m.toNat).drop l.toNat) := by rw [q3]
    rw [this, List.take_take, List.drop_take, List.drop_drop]
    congr 1
    omega
theorem op_sliceD {t e : TypeId} {x : Operand} {lo hi : Option Operand} {by_ : Nat} {z v : Value} {l m : Int} {vs : List Value} [td : TyD P t (.slice e)] [ti : TyI P e 1 by_ z] (r : RS h v vs) (hx : ρ x = v)
    (hl : bnd ρ lo 0 = some l) (hm : bnd ρ hi vs.length = some m) (h0 : 0 ≤ l) (h1 : l ≤ m) (h2 : m ≤ vs.length) (kk : K (subS v l m) h) : AOp P ⟨dst, .slice t x lo hi none, ty, pos, aft, g⟩ ρ h K := by
  rcases r with ⟨rfl, rfl⟩ | ⟨i, o, s, c, rfl, hs, hb⟩
  · simp only [List.length_nil] at h2 hm
    obtain rfl : l = 0 := by omega
    obtain rfl : m = 0 := by omega
    exact op_sliceNil hx hl hm kk
  · exact op_slice hx hl hm h0 h1 h2 hs kk
theorem RB.sub {v : Value} {bs : List UInt8} {l m : Int} (r : RB h v bs) (h0 : 0 ≤ l) (h1 : l ≤ m) (h2 : m ≤ bs.length) : RB h (subS v l m) ((bs.take m.toNat).drop l.toNat) := by
  have := RS.sub (l := l) (m := m) r h0 h1 (by rw [bv_length]; exact h2)
  rw [bv_take, bv_drop] at this
  exact this
theorem op_sliceDB {t e : TypeId} {x : Operand} {lo hi : Option Operand} {by_ : Nat} {z v : Value} {l m : Int} {bs : List UInt8} [td : TyD P t (.slice e)] [ti : TyI P e 1 by_ z] (r : RB h v bs) (hx : ρ x = v)
    (hl : bnd ρ lo 0 = some l) (hm : bnd ρ hi bs.length = some m) (h0 : 0 ≤ l) (h1 : l ≤ m) (h2 : m ≤ bs.length) (kk : K (subS v l m) h) : AOp P ⟨dst, .slice t x lo hi none, ty, pos, aft, g⟩ ρ h K :=
  op_sliceD r hx hl (by rw [bv_length]; exact hm) h0 h1 (by rw [bv_length]; exact h2) kk
theorem op_sliceR {t e : TypeId} {x : Operand} {lo hi : Option Operand} {by_ : Nat} {z v : Value} {l m : Int} {vs : List Value} [td : TyD P t (.slice e)] [ti : TyI P e 1 by_ z] (r : RS h v vs) (hx : ρ x = v)
    (hl : bnd ρ lo 0 = some l) (hm : bnd ρ hi vs.length = some m) (h0 : 0 ≤ l) (h1 : l ≤ m) (h2 : m ≤ vs.length) (kk : ∀ u, RS h u ((vs.take m.toNat).drop l.toNat) → K u h) : AOp P ⟨dst, .slice t x lo hi none, ty, pos, aft, g⟩ ρ h K :=
  op_sliceD r hx hl hm h0 h1 h2 (kk _ (r.sub h0 h1 h2))
theorem op_sliceRB {t e : TypeId} {x : Operand} {lo hi : Option Operand} {by_ : Nat} {z v : Value} {l m : Int} {bs : List UInt8} [td : TyD P t (.slice e)] [ti : TyI P e 1 by_ z] (r : RB h v bs) (hx : ρ x = v)
    (hl : bnd ρ lo 0 = some l) (hm : bnd ρ hi bs.length = some m) (h0 : 0 ≤ l) (h1 : l ≤ m) (h2 : m ≤ bs.length) (kk : ∀ u, RB h u ((bs.take m.toNat).drop l.toNat) → K u h) : AOp P ⟨dst, .slice t x lo hi none, ty, pos, aft, g⟩ ρ h K :=
  op_sliceR r hx hl (by rw [bv_length]; exact hm) h0 h1 (by rw [bv_length]; exact h2) fun u hu => kk u (by rw [bv_take, bv_drop] at hu; exact hu)

theorem op_bytesStrR {sT dT e : TypeId} {x : Operand} {v : Value} {l : List UInt8} [ts : TyD P sT (.slice e)] [te : TyD P e (.int .u8)] [td : TyD P dT .string] (r : RB h v l) (hx : ρ x = v) (kk : K (.string (bstr l)) h) : AOp P ⟨dst, .convert sT dT x, ty, pos, aft, g⟩ ρ h K := by
  rcases r with ⟨rfl, hl⟩ | ⟨i, o, s, c, rfl, hs, hb⟩
  · have : l = [] := by cases l with | nil => rfl | cons _ _ => simp [bv] at hl
    subst this
    exact op_nilStr hx kk
  · rw [bv_length] at hx hb
    by_cases hv : l = []
    · subst hv
      refine .of_pure kk fun φ ac w r => ?_
      obtain ⟨cap', a', e1, _⟩ := (hx ▸ r.ev x (by simp [Op.operands])).slice_inv
      refine ⟨.string (bstr []), ?_, .string _⟩
      have hr := run_convert_bytes_back (P := P) w sT dT e a' cap' [] ts.eq te.eq td.eq (by intro j hj; simp at hj)
      simp only [List.length_nil] at hr e1
      simp [execOp, e1, hr, bstr]
    · obtain ⟨b, h1, h2, h3⟩ := hb (by cases l with | nil => exact absurd rfl hv | cons _ _ => simp [bv])
      exact op_bytesStr hx h1 h2 h3 kk

theorem RS.one {v : Value} {vs : List Value} (r : RS h v vs) : oneB v = true ∧ v ≠ undef := by
  obtain ⟨a, c, e⟩ := r.slice
  subst e
  exact ⟨rfl, fun h => by cases h⟩
theorem fillRow {n : Nat} : ∀ (vs : List Value) (k : Nat) (cells : List Value), (∀ v ∈ vs, oneB v = true) → k + vs.length ≤ cells.length → n = cells.length →
    fillA (fun i => some (i * 1, 1)) cells ((List.range' k vs.length).zip vs) = some (splice cells k vs)
  | [], k, cells, _, _, _ => by simp [fillA, splice]
  | v :: vs, k, cells, h1, h2, h3 => by
    have hc : v.cells = #[v] := by
      have := h1 v (by simp)
      cases v <;> first | rfl | (simp [oneB] at this)
    simp only [List.length_cons] at h2
    simp only [List.length_cons, List.range'_succ, List.zip_cons_cons, fillA, hc, Nat.mul_one]
    have hne : ¬ ((decide ((#[v] : Array Value).size ≠ 1) || decide (k + (#[v] : Array Value).size > cells.length)) = true) := by
      simp only [List.size_toArray, List.length_cons, List.length_nil]
      simp
      omega
    rw [if_neg hne]
    have ih := fillRow vs (k + 1) (splice cells k [v]) (fun u hu => h1 u (by simp [hu])) (by rw [length_splice (by simp; omega)]; omega) (h3.trans (length_splice (by simp; omega)).symm)
    simp only [Nat.mul_one] at ih
    rw [ih]
    congr 1
    apply List.ext_getElem?
    intro j
    rw [splice_get _ _ _ (by rw [length_splice (by simp; omega)]; omega), splice_get _ _ _ (by simp; omega), splice_get _ _ _ (by simp only [List.length_cons]; omega)]
    by_cases e1 : j = k
    · subst e1
      rw [if_neg (by omega), if_pos (by simp), if_pos (by simp)]
      simp
    · by_cases e2 : k + 1 ≤ j ∧ j < k + 1 + vs.length
      · rw [if_pos e2, if_pos (by simp; omega)]
        rw [show j - k = (j - (k + 1)) + 1 from by omega]
        simp
      · rw [if_neg e2, if_neg (by simp; omega), if_neg (by simp; omega)]
theorem splice_all (cells vs : List Value) (hl : vs.length = cells.length) : splice cells 0 vs = vs := by
  simp [splice, hl]
/-- A slice's literal whose parts are all there, in their order. -/
theorem op_row {t e by_ : Nat} {z : Value} {len : Nat} {parts : Array (Nat × Operand)} (vs : List Value) [td : TyD P t (.slice e)] [ti : TyI P e 1 by_ z] (hz : oneB z = true) (hl : Nat.ble len 16777216 = true) (hp : parts.toList.map (fun p => (p.1, ρ p.2)) = (List.range' 0 vs.length).zip vs) (hlen : vs.length = len)
    (h1 : ∀ v ∈ vs, oneB v = true) (kk : K (.slice (some ⟨h.next, 0, some 1⟩) len len) (h.alloc ⟨vs, e, true⟩)) : AOp P ⟨dst, .buildSlice t len parts, ty, pos, aft, g⟩ ρ h K := by
  refine op_buildSlice (out := vs) hz (Nat.le_of_ble_eq_true hl) ?_ ?_ hlen kk
  · intro p hpm hu
    have hm : (p.1, ρ p.2) ∈ parts.toList.map (fun p => (p.1, ρ p.2)) := List.mem_map.2 ⟨p, hpm, rfl⟩
    rw [hp] at hm
    have hv := (List.of_mem_zip hm).2
    rw [hu] at hv
    have := h1 _ hv
    cases this
  · rw [hp]
    have hrow := fillRow (n := len) vs 0 (List.replicate len z) h1 (by simp; omega) (by simp)
    rw [hrow, splice_all _ _ (by simp; omega)]
/-- A slice of bytes avs one of its own type: nothing turns. -/
theorem op_convSame {t e : TypeId} {x : Operand} {i o n c : Nat} {s : Option Nat} {b : Blk} [td : TyD P t (.slice e)] [te : TyD P e (.int .u8)] (hx : ρ x = .slice (some ⟨i, o, s⟩) n c) (hn : Nat.blt 0 n = true) (hi : h.get i = some b) (ho : b.own = true) (kk : K (.slice (some ⟨i, o, s⟩) n c) h) (hbe : b.elem = e := by rfl) :
    AOp P ⟨dst, .convert t t x, ty, pos, aft, g⟩ ρ h K :=
  .of_run fun φ ac w r => by
    have hv := hx ▸ r.ev x (by simp [Op.operands])
    obtain ⟨cap', a', e1, hlt, q1, q2, q3, q4, q5, q6⟩ := hv.slice_inv
    have hn0 : 0 < n := by simpa [Nat.blt_eq] using hn
    obtain rfl := q4.resolve_right (by omega)
    obtain ⟨arr, fr, a1, a2, a3, a4, a5⟩ := r.sim.owned hi ho
    have hsh : w.shape? (φ i).b = some (b.elem, arr.size) := by simp [World.shape?, a1]
    have hrun : (execOp ac.eval ⟨dst, .convert t t x, ty, pos, aft, g⟩).run P w = .ok (.value (ac.eval x)) (w.freeze ⟨(φ i).b, arr.size, none⟩ 1) := by
      have hm : (markStringish ⟨(φ i).b, (φ i).o + o, none⟩).run P w = .ok () (w.freeze ⟨(φ i).b, arr.size, none⟩ 1) := by
        simp [markStringish, hsh]
      simp [execOp, e1, convert, td.run, te.run, hm]
    have hheap : ∀ k : Nat, (w.freeze ⟨(φ i).b, arr.size, none⟩ 1).heap[k]? = if k = (φ i).b then some (.cells arr b.elem (if fr.1 == fr.2 then (arr.size, arr.size + 1) else (min fr.1 arr.size, max fr.2 (arr.size + 1)))) else w.heap[k]? := by
      intro k
      simp only [World.freeze, Nat.one_ne_zero, if_false, Array.getElem?_modify]
      by_cases hk : k = (φ i).b
      · subst hk
        rw [if_pos rfl, if_pos rfl, a1]
        obtain ⟨lo, hi'⟩ := fr
        rfl
      · rw [if_neg (fun e => hk e.symm), if_neg hk]
    obtain ⟨s1, s2⟩ := r.sim.write hi ho a1 (w' := w.freeze ⟨(φ i).b, arr.size, none⟩ 1) (arr' := arr) rfl (by
      split
      · exact .inr ⟨Nat.le_refl _, by rw [hbe]; exact te.eq⟩
      · rename_i hne
        have hne' : fr.1 ≠ fr.2 := by simpa using hne
        rcases a3 with a3 | a3
        · exact absurd a3 hne'
        · right
          have a3 := a3.1
          exact ⟨by show arr.size ≤ min fr.1 arr.size; omega, by rw [hbe]; exact te.eq⟩) hheap (by simp [World.freeze]) (by simp [World.freeze]) (by simp [World.freeze]) b.cells a4 a5
    have hb : h.set i ⟨b.cells, b.elem, true⟩ = h := by
      have : (⟨b.cells, b.elem, true⟩ : Blk) = b := by cases b; simp_all
      rw [this]
      cases h with
      | mk gt nx ob =>
        simp only [Heap.set, Heap.mk.injEq, and_true]
        funext j
        by_cases hj : j = i
        · subst hj; simp only [if_true]; exact hi.symm
        · simp [hj]
    rw [hb] at s1 s2
    exact ⟨_, _, φ, h, _, hrun, kk, hv, s1, s2⟩

/-- Slices of bytes, one behind the other. -/
def RBs (h : Heap) : List Value → List (List UInt8) → Prop
  | [], [] => True
  | v :: vs, l :: ll => RB h v l ∧ RBs h vs ll
  | _, _ => False
theorem RBs.at {h : Heap} : ∀ {vs : List Value} {ll : List (List UInt8)}, RBs h vs ll → vs.length = ll.length ∧ ∀ (k : Nat) x l, vs[k]? = some x → ll[k]? = some l → RB h x l
  | [], [], _ => ⟨rfl, fun k x l hk => by simp at hk⟩
  | v :: vs, l :: ll, ⟨h1, h2⟩ => by
    obtain ⟨e, h3⟩ := RBs.at h2
    refine ⟨by simp [e], fun k x l' hk hl => ?_⟩
    cases k with
    | zero => simp at hk hl; subst hk hl; exact h1
    | succ k => exact h3 k x l' (by simpa using hk) (by simpa using hl)
  | [], _ :: _, h => h.elim
  | _ :: _, [], h => h.elim
theorem RBB.row {h : Heap} {i n c : Nat} {e : TypeId} {w : Bool} {vs : List Value} {ll : List (List UInt8)} (hg : h.get i = some ⟨vs, e, w⟩) (hn : vs.length = n) (r : RBs h vs ll) : RBB h (.slice (some ⟨i, 0, some 1⟩) n c) ll :=
  ⟨vs, RS.own hg hn, r.at.1, r.at.2⟩
theorem RBB.nil (h : Heap) : RBB h (.slice none 0 0) [] := ⟨[], RS.nil h, rfl, fun k x l hk => by simp at hk⟩
theorem bv_ones (l : List UInt8) : ∀ v ∈ bv l, oneB v = true := List.all_eq_true.1 (bv_one l)

/-! From a world to an abstract heap: what comes in is read, never written. -/
structure RoB where
  cells : List Value
  at_ : Addr
def roHeap (G : Nat) (bs : List RoB) : Heap := ⟨fun i => if i < G then none else (bs[i - G]?).bind fun b => if b.cells.isEmpty then none else some ⟨b.cells, 0, false⟩, G + bs.length, fun _ => none⟩
def roRen (G : Nat) (bs : List RoB) : Ren := fun i => if i < G then ⟨i, 0, 0⟩ else match bs[i - G]? with
  | some b => ⟨b.at_.block, b.at_.off, 0⟩
  | none => ⟨0, 0, 0⟩
def roOk (G : Nat) (bs : List RoB) (W : World) : Prop := ∀ b ∈ bs, b.at_.spot = none ∧ ∀ (k : Nat) v, b.cells[k]? = some v → ∃ c, W.cell? (b.at_.add k) = some c ∧ VRel (roRen G bs) (G + bs.length) v c
theorem roSim {bs : List RoB} {W : World} (hok : roOk P.globals.size bs W) : Sim P (roRen P.globals.size bs) (roHeap P.globals.size bs) W := by
  have key : ∀ i b, (roHeap P.globals.size bs).get i = some b → ∃ rb, P.globals.size ≤ i ∧ bs[i - P.globals.size]? = some rb ∧ b = ⟨rb.cells, 0, false⟩ ∧ rb.cells ≠ [] := by
    intro i b hb
    have : (if i < P.globals.size then none else (bs[i - P.globals.size]?).bind fun b => if b.cells.isEmpty then none else some (⟨b.cells, 0, false⟩ : Blk)) = some b := hb
    split at this
    · cases this
    · cases hq : bs[i - P.globals.size]? with
      | none => rw [hq] at this; cases this
      | some rb =>
        rw [hq] at this
        simp only [Option.bind_some] at this
        split at this
        · cases this
        · rename_i hne
          cases this
          exact ⟨rb, by omega, rfl, rfl, by simpa using hne⟩
  have hren : ∀ i rb, P.globals.size ≤ i → bs[i - P.globals.size]? = some rb → roRen P.globals.size bs i = ⟨rb.at_.block, rb.at_.off, 0⟩ := by
    intro i rb hi hq
    simp only [roRen]
    rw [if_neg (by omega), hq]
  have hcell : ∀ (rb : RoB), rb ∈ bs → ∀ (k : Nat) v, rb.cells[k]? = some v → ∃ c, W.cell? ⟨rb.at_.block, rb.at_.off + k, none⟩ = some c ∧ VRel (roRen P.globals.size bs) (P.globals.size + bs.length) v c := by
    intro rb hm k v hk
    obtain ⟨h1, h2⟩ := hok rb hm
    obtain ⟨c, h3, h4⟩ := h2 k v hk
    refine ⟨c, ?_, h4⟩
    obtain ⟨⟨bl, of_, sp⟩⟩ : ∃ a, a = rb.at_ := ⟨_, rfl⟩
    rw [show (⟨rb.at_.block, rb.at_.off + k, none⟩ : Addr) = rb.at_.add k from by
      cases ha : rb.at_ with
      | mk bl of_ sp =>
        rw [ha] at h1
        simp only at h1
        subst h1
        rw [Addr.add_lit]]
    exact h3
  refine ⟨⟨?_, fun _ _ => rfl⟩, ?_, ?_, ?_, ?_, (fun i o hi => by cases hi), (fun i j o hi => by cases hi)⟩
  · intro i hi
    have h1 : P.globals.size + bs.length ≤ i := hi
    show (if i < P.globals.size then none else _) = none
    rw [if_neg (by omega), List.getElem?_eq_none (by omega)]
    rfl
  · intro i b hb
    obtain ⟨rb, h1, h2, rfl, h4⟩ := key i b hb
    simp only [BRel, Bool.false_eq_true, if_false]
    intro k v hk
    rw [hren i rb h1 h2]
    exact hcell rb (List.mem_of_getElem? h2) k v hk
  · intro i b hb
    obtain ⟨rb, h1, h2, rfl, h4⟩ := key i b hb
    rw [hren i rb h1 h2]
    obtain ⟨c, hc, _⟩ := hcell rb (List.mem_of_getElem? h2) 0 _ (List.getElem?_eq_getElem (by
      rcases Nat.eq_zero_or_pos rb.cells.length with h5 | h5
      · exact absurd (List.eq_nil_of_length_eq_zero h5) h4
      · exact h5))
    have := World.block_lt_of_cell? W _ hc
    exact this
  · intro i j b hb ho
    obtain ⟨rb, h1, h2, rfl, h4⟩ := key i b hb
    cases ho
  · intro gl hg
    refine ⟨?_, ?_⟩
    · simp [roRen, hg]
    · show gl < P.globals.size + bs.length
      omega

/-- A law: it comes back true, and nothing that was there has turned. -/
theorem law_calls {f : FuncId} {bs : List RoB} {W : World} {args cargs : List Value} (hok : roOk P.globals.size bs W) (hargs : VRels (roRen P.globals.size bs) (P.globals.size + bs.length) args cargs)
    (p : ACalls P f args (roHeap P.globals.size bs) fun v _ => v = .bool true) : Calls P f cargs.toArray W fun e W' => e = .returned (.bool true) ∧ Go.RowKit.Below W.heap.size W W' :=
  (p _ W cargs (roSim hok) hargs).mono fun e W' hr => by
    cases e with
    | returned c =>
      obtain ⟨v, h', φ', rfl, hv, _, st⟩ := hr
      refine ⟨by rw [hv.bool_inv], st.os, st.tape, st.output, st.size, fun k hk => st.frame k hk ?_⟩
      rintro (⟨i, b, hb, ho, _⟩ | ⟨i, o, hb, _⟩)
      rotate_left
      · cases hb
      have : (if i < P.globals.size then none else (bs[i - P.globals.size]?).bind fun b => if b.cells.isEmpty then none else some (⟨b.cells, 0, false⟩ : Blk)) = some b := hb
      split at this
      · cases this
      · cases hq : bs[i - P.globals.size]? with
        | none => rw [hq] at this; cases this
        | some rb =>
          rw [hq] at this
          simp only [Option.bind_some] at this
          split at this
          · cases this
          · cases this; cases ho
    | panicked c => exact hr.elim
    | outgrown => exact hr.elim
end Go.Eng

/-
  The engine, part M: arguments of a law, from the world to the abstract heap.
-/
namespace Go.Eng
open Go

/-- A slice of integers that came in: nil, or a row of 'cap' cells. -/
def IsRow (k : IntKind) (w : World) (a : Option Addr) (len cap : Nat) (zs : List Int) : Prop :=
  (a = none ∧ len = 0 ∧ cap = 0 ∧ zs = []) ∨
  ∃ x, a = some x ∧ len ≤ cap ∧ cap ≤ maxLen ∧ zs.length = cap ∧ (∀ i, i < zs.length → w.cell? (x.add i) = some (.int k (zs.getD i 0))) ∧ ∀ n ∈ zs, (Lit.int k n).wf = true

def atOf (a : Option Addr) (cap : Nat) : Addr := if cap = 0 then ⟨0, 0, none⟩ else a.getD ⟨0, 0, none⟩
def absS (a : Option Addr) (i len cap : Nat) : Value :=
  match a with
  | none => .slice none 0 0
  | some _ => .slice (some ⟨i, 0, none⟩) len (if cap = len then len else len + 1)
/-- Numbers avs bytes. -/
def toB (zs : List Int) : List UInt8 := zs.map fun z => UInt8.ofNat z.toNat
/-- Numbers avs values. -/
def iv (k : IntKind) (zs : List Int) : List Value := zs.map fun z => .int k z
theorem bv_toB {zs : List Int} (h : ∀ n ∈ zs, 0 ≤ n ∧ n ≤ 255) : bv (toB zs) = iv .u8 zs := by
  simp only [bv, toB, iv, List.map_map]
  apply List.map_congr_left
  intro n hn
  have := h n hn
  simp only [Function.comp, Value.int.injEq, true_and]
  rw [UInt8.toNat_ofNat']
  omega
theorem wf_u8 {n : Int} (h : (Lit.int .u8 n).wf = true) : 0 ≤ n ∧ n ≤ 255 := by
  have := h
  simp only [Lit.wf, IntKind.min, IntKind.max, IntKind.bits, IntKind.signed] at this
  simp at this
  omega
theorem wf_u32 {n : Int} (h : (Lit.int .u32 n).wf = true) : 0 ≤ n ∧ n ≤ 4294967295 := by
  have := h
  simp only [Lit.wf, IntKind.min, IntKind.max, IntKind.bits, IntKind.signed] at this
  simp at this
  omega
theorem wf_i64 {n : Int} (h : (Lit.int .i64 n).wf = true) : -9223372036854775808 ≤ n ∧ n ≤ 9223372036854775807 := by
  have := h
  simp only [Lit.wf, IntKind.min, IntKind.max, IntKind.bits, IntKind.signed] at this
  simp at this
  omega

section
variable {k : IntKind} {W : World} {a : Option Addr} {len cap : Nat} {zs : List Int} {G : Nat} {bs : List RoB} {j : Nat}
theorem IsRow.len_le (r : IsRow k W a len cap zs) : len ≤ cap ∧ cap ≤ maxLen ∧ zs.length = cap := by
  rcases r with ⟨rfl, rfl, rfl, rfl⟩ | ⟨x, rfl, h1, h2, h3, _⟩
  · simp [maxLen]
  · exact ⟨h1, h2, h3⟩
theorem IsRow.rob (r : IsRow k W a len cap zs) : (atOf a cap).spot = none ∧ ∀ (m : Nat) v, (iv k (zs.take len))[m]? = some v → ∃ c, W.cell? ((atOf a cap).add m) = some c ∧ VRel (roRen G bs) (G + bs.length) v c := by
  rcases r with ⟨rfl, rfl, rfl, rfl⟩ | ⟨x, rfl, h1, h2, h3, h4, h5⟩
  · exact ⟨rfl, fun m v hm => by simp [iv] at hm⟩
  · by_cases hc : cap = 0
    · have : len = 0 := by omega
      subst this
      exact ⟨by simp [atOf, hc], fun m v hm => by simp [iv] at hm⟩
    · have hx : atOf (some x) cap = x := by simp [atOf, hc]
      rw [hx]
      refine ⟨?_, fun m v hm => ?_⟩
      · have h0 := h4 0 (by omega)
        have : x.add 0 = x := by simp [Addr.add]
        rw [this] at h0
        cases hs : x.spot with
        | none => rfl
        | some s =>
          exfalso
          unfold World.cell? at h0
          split at h0
          · simp [hs] at h0
          · cases h0
      · have hm' := (List.getElem?_eq_some_iff.1 hm).1
        simp only [iv, List.length_map, List.length_take] at hm'
        refine ⟨v, ?_, ?_⟩
        · rw [h4 m (by omega)]
          simp only [iv, List.getElem?_map, List.getElem?_take_of_lt (show m < len by omega)] at hm
          rw [List.getElem?_eq_getElem (show m < zs.length by omega)] at hm
          simp only [Option.map_some, Option.some.injEq] at hm
          rw [← hm]
          simp [List.getD_eq_getElem?_getD, List.getElem?_eq_getElem (show m < zs.length by omega)]
        · simp only [iv, List.getElem?_map] at hm
          cases hq : (zs.take len)[m]? with
          | none => rw [hq] at hm; cases hm
          | some z => rw [hq] at hm; simp at hm; subst hm; exact .int _ _
theorem IsRow.vrel (r : IsRow k W a len cap zs) {cells : List Value} (hj : bs[j]? = some ⟨cells, atOf a cap⟩) : VRel (roRen G bs) (G + bs.length) (absS a (G + j) len cap) (.slice a len cap) := by
  have hjl := (List.getElem?_eq_some_iff.1 hj).1
  rcases r with ⟨rfl, rfl, rfl, rfl⟩ | ⟨x, rfl, h1, h2, h3, h4, h5⟩
  · exact .nilSlice
  · refine .slice _ _ _ _ _ _ _ (by omega) ?_ h1 ?_ ?_ h2 (by intro t ht; cases ht)
    · split <;> omega
    · simp only [maxLen] at h1 h2
      split
      · exact ⟨fun _ => by omega, fun e => by omega⟩
      · exact ⟨fun e => by omega, fun e => by omega⟩
    · by_cases hc : cap = 0
      · exact .inr hc
      · left
        have hren : roRen G bs (G + j) = ⟨x.block, x.off, 0⟩ := by
          simp only [roRen]
          rw [if_neg (by omega), show G + j - G = j from by omega, hj]
          simp [atOf, hc]
        rw [hren]
        have hs : x.spot = none := by
          have h0 := h4 0 (by omega)
          have : x.add 0 = x := by simp [Addr.add]
          rw [this] at h0
          cases hs : x.spot with
          | none => rfl
          | some s =>
            exfalso
            unfold World.cell? at h0
            split at h0
            · simp [hs] at h0
            · cases h0
        cases x
        simp only at hs
        subst hs
        rfl
theorem roGet {cells : List Value} {at_ : Addr} (hj : bs[j]? = some ⟨cells, at_⟩) (hne : cells ≠ []) : (roHeap G bs).get (G + j) = some ⟨cells, 0, false⟩ := by
  show (if G + j < G then none else (bs[G + j - G]?).bind fun b => if b.cells.isEmpty then none else some (⟨b.cells, 0, false⟩ : Blk)) = _
  rw [if_neg (by omega), show G + j - G = j from by omega, hj]
  simp [hne]
theorem IsRow.rs (r : IsRow k W a len cap zs) (hj : bs[j]? = some ⟨iv k (zs.take len), atOf a cap⟩) : RS (roHeap G bs) (absS a (G + j) len cap) (iv k (zs.take len)) := by
  have hl := r.len_le
  rcases r with ⟨rfl, rfl, rfl, rfl⟩ | ⟨x, rfl, h1, h2, h3, h4, h5⟩
  · exact .inl ⟨rfl, rfl⟩
  · have hlen : (iv k (zs.take len)).length = len := by simp [iv]; omega
    refine .inr ⟨G + j, 0, none, if cap = len then len else len + 1, by rw [hlen]; rfl, .inl rfl, fun hne => ?_⟩
    exact ⟨_, roGet hj hne, by simp, by simp⟩
theorem IsRow.bytes (r : IsRow .u8 W a len cap zs) : ∀ n ∈ zs, 0 ≤ n ∧ n ≤ 255 := by
  rcases r with ⟨rfl, rfl, rfl, rfl⟩ | ⟨x, rfl, h1, h2, h3, h4, h5⟩
  · simp
  · exact fun n hn => wf_u8 (h5 n hn)
theorem IsRow.rb (r : IsRow .u8 W a len cap zs) (hj : bs[j]? = some ⟨iv .u8 (zs.take len), atOf a cap⟩) : RB (roHeap G bs) (absS a (G + j) len cap) (toB (zs.take len)) := by
  unfold RB
  rw [bv_toB (fun n hn => r.bytes n (List.mem_of_mem_take hn))]
  exact r.rs hj
theorem IsRow.toB_length (r : IsRow k W a len cap zs) : (toB (zs.take len)).length = len := by
  have := r.len_le
  simp [toB]; omega
end
end Go.Eng

/-
  The engine, part N: slices that the call makes and lets grow.
-/
namespace Go.Eng
open Go

variable {P : Program} {ρ : Operand → Value} {h : Heap} {K : Value → Heap → Prop} {dst : Option Tmp} {ty : TypeId} {pos : String} {aft : Array Edge} {g : Option (Nat × Bool)}

/-- A slice of the call's own, from block number B on, of elements of one cell: its cells are vs, and nothing is behind them. -/
def OS (B : Nat) (h : Heap) (e : TypeId) (v : Value) (vs : List Value) : Prop :=
  (v = .slice none 0 0 ∧ vs = []) ∨ ∃ i c, B ≤ i ∧ v = .slice (some ⟨i, 0, some 1⟩) vs.length c ∧ h.get i = some ⟨vs, e, true⟩
theorem OS.rs {B : Nat} {e : TypeId} {v : Value} {vs : List Value} (r : OS B h e v vs) : RS h v vs := by
  rcases r with ⟨rfl, rfl⟩ | ⟨i, c, _, rfl, hi⟩
  · exact RS.nil h
  · exact RS.own hi rfl
theorem OS.nil (B : Nat) (h : Heap) (e : TypeId) : OS B h e (.slice none 0 0) [] := .inl ⟨rfl, rfl⟩
theorem OS.new {B : Nat} {e : TypeId} {vs : List Value} {n c : Nat} (hB : B ≤ h.next) (hn : vs.length = n) : OS B (h.alloc ⟨vs, e, true⟩) e (.slice (some ⟨h.next, 0, some 1⟩) n c) vs := by
  subst hn
  exact .inr ⟨h.next, c, hB, rfl, Heap.alloc_new _ _⟩
/-- What does not lie in v's block stays. -/
structure Keeps (v : Value) (h h' : Heap) : Prop where
  c : ∀ j b, h.get j = some b → (∀ s n c, v ≠ .slice (some ⟨j, 0, s⟩) n c) → h'.get j = some b
  o : ∀ j b, h.obj j = some b → h'.obj j = some b
instance (v : Value) (h h' : Heap) : CoeFun (Keeps v h h') (fun _ => ∀ j b, h.get j = some b → (∀ s n c, v ≠ .slice (some ⟨j, 0, s⟩) n c) → h'.get j = some b) := ⟨Keeps.c⟩
theorem Keeps.ext {B : Nat} {e : TypeId} {v : Value} {vs : List Value} {h0 h' : Heap} (k : Keeps v h h') (r : OS B h e v vs) (wf0 : WF h0) (hB : h0.next ≤ B) (hx : Ext h0 h) : Ext h0 h' := by
  refine ⟨fun j b hj => ?_, fun j o hj => k.o j o (hx.o j o hj)⟩
  refine k.c j b (hx.c j b hj) fun s n c hv => ?_
  have hlt := wf0.lt hj
  rcases r with ⟨rfl, _⟩ | ⟨i, c', hi, rfl, _⟩
  · cases hv
  · cases hv; omega
theorem OS.keep {B B' : Nat} {e e' : TypeId} {u v : Value} {us vs : List Value} {h' : Heap} (r : OS B h e u us) (k : Keeps v h h') (hne : ∀ i s n c s' n' c', u = .slice (some ⟨i, 0, s⟩) n c → v ≠ .slice (some ⟨i, 0, s'⟩) n' c') (_ : OS B' h e' v vs) : OS B h' e u us := by
  rcases r with ⟨rfl, rfl⟩ | ⟨i, c, h1, rfl, h2⟩
  · exact .inl ⟨rfl, rfl⟩
  · exact .inr ⟨i, c, h1, rfl, k i _ h2 fun s n c' => hne i _ _ _ s n c' rfl⟩
theorem OS.alloc {B : Nat} {e : TypeId} {v : Value} {vs : List Value} (r : OS B h e v vs) (wf : WF h) (b : Blk) : OS B (h.alloc b) e v vs := by
  rcases r with ⟨rfl, rfl⟩ | ⟨i, c, h1, rfl, h2⟩
  · exact .inl ⟨rfl, rfl⟩
  · exact .inr ⟨i, c, h1, rfl, wf.ext b i _ h2⟩
theorem OS.ext {B : Nat} {e : TypeId} {v : Value} {vs : List Value} {h' : Heap} (r : OS B h e v vs) (hx : Ext h h') : OS B h' e v vs := by
  rcases r with ⟨rfl, rfl⟩ | ⟨i, c, h1, rfl, h2⟩
  · exact .inl ⟨rfl, rfl⟩
  · exact .inr ⟨i, c, h1, rfl, hx i _ h2⟩

/-- append to a slice of the call's own. -/
theorem op_appendO {t t2 e : TypeId} {d2 : TypeDesc} {x y : Operand} {by_ B m : Nat} {z u v : Value} {vs news : List Value} [td : TyD P t (.slice e)] [t2d : TyD P t2 d2] [ti : TyI P e 1 by_ z] (hd2 : appB d2 = true) (wf : WF h) (hB : B ≤ h.next)
    (r : OS B h e u vs) (hx : ρ x = u) (hy : ρ y = v) (hs : Src h 1 v m news) (hm : news.length = m) (hone : news.all oneB = true) (h1 : vs.length + m ≤ maxLen) (h2 : (vs.length + m) * by_ ≤ 140737488355328)
    (kk : ∀ u' h', OS B h' e u' (vs ++ news) → Keeps u h h' → WF h' → h.next ≤ h'.next → K u' h') : AOp P ⟨dst, .call ⟨.builtin .append, #[x, y], #[t, t2]⟩, ty, pos, aft, g⟩ ρ h K := by
  rcases r with ⟨rfl, rfl⟩ | ⟨i, c, hBi, rfl, hi⟩
  · refine op_appendNil (z := z) hd2 hx hy hs (by simpa using h1) (by simpa using h2) (fun hm0 => ?_) (fun hm0 => ?_)
    · have : news = [] := List.eq_nil_of_length_eq_zero (by omega)
      subst this
      exact kk _ _ (.inl ⟨rfl, rfl⟩) ⟨fun j b hj _ => hj, fun j b hj => hj⟩ wf (Nat.le_refl _)
    · exact kk _ _ (.inr ⟨h.next, m + 1, hB, by simp [hm], by simp [Heap.alloc_new]⟩) ⟨fun j b hj _ => (wf.ext _).c j b hj, fun j b hj => hj⟩ (wf.alloc _) (by simp [Heap.alloc])
  · refine op_append (z := z) hd2 hx hy hi rfl rfl (by simp) hs hone h1 h2 ?_
    refine kk _ _ (.inr ⟨h.next, vs.length + m + 1, hB, by simp [hm], Heap.kill_alloc_new _ _ _⟩) ⟨fun j b hj hne => ?_, fun j b hj => hj⟩ ((wf.kill i).alloc _) (by simp [Heap.alloc, Heap.kill])
    have := wf.lt hj
    rw [Heap.kill_alloc_old (by omega) (fun e => hne (some 1) vs.length c (by rw [e]))]
    exact hj
end Go.Eng

/-
  The engine, part W: appends of bytes, strings of bytes.
-/
namespace Go.Eng
open Go

section
variable {P : Program} {ρ : Operand → Value} {h : Heap} {K : Value → Heap → Prop} {dst : Option Tmp} {ty : TypeId} {pos : String} {aft : Array Edge} {g : Option (Nat × Bool)}
/-- append of one or more to a slice of the call's own: the new row lies in a new block. -/
theorem op_appendF {t t2 e : TypeId} {d2 : TypeDesc} {x y : Operand} {by_ B m : Nat} {z u v : Value} {vs news : List Value} [td : TyD P t (.slice e)] [t2d : TyD P t2 d2] [ti : TyI P e 1 by_ z] (hd2 : appB d2 = true) (wf : WF h) (_hB : B ≤ h.next)
    (r : OS B h e u vs) (hx : ρ x = u) (hy : ρ y = v) (hs : Src h 1 v m news) (_hm : news.length = m) (hm0 : 0 < m) (hone : news.all oneB = true) (h1 : vs.length + m ≤ maxLen) (h2 : (vs.length + m) * by_ ≤ 140737488355328)
    (kk : ∀ c h', h'.get h.next = some ⟨vs ++ news, e, true⟩ → Keeps u h h' → WF h' → h.next ≤ h'.next → K (.slice (some ⟨h.next, 0, some 1⟩) (vs.length + m) c) h') : AOp P ⟨dst, .call ⟨.builtin .append, #[x, y], #[t, t2]⟩, ty, pos, aft, g⟩ ρ h K := by
  rcases r with ⟨rfl, rfl⟩ | ⟨i, c, hBi, rfl, hi⟩
  · refine op_appendNil (z := z) hd2 hx hy hs (by simpa using h1) (by simpa using h2) (fun hm0 => by omega) (fun _ => ?_)
    have := kk (m + 1) (h.alloc ⟨news, e, true⟩) (by simp [Heap.alloc_new]) ⟨fun j b hj _ => (wf.ext _).c j b hj, fun j b hj => hj⟩ (wf.alloc _) (by simp [Heap.alloc])
    simpa using this
  · refine op_append (z := z) hd2 hx hy hi rfl rfl (by simp) hs hone h1 h2 ?_
    refine kk _ _ (Heap.kill_alloc_new _ _ _) ⟨fun j b hj hne => ?_, fun j b hj => hj⟩ ((wf.kill i).alloc _) (by simp [Heap.alloc, Heap.kill])
    have := wf.lt hj
    rw [Heap.kill_alloc_old (by omega) (fun e => hne (some 1) vs.length c (by rw [e]))]
    exact hj
/-- A value whose block is not the one of that number. -/
def Off (v : Value) (j : Nat) : Prop := ∀ s n c, v ≠ .slice (some ⟨j, 0, s⟩) n c
theorem Off.nil (j : Nat) (n c : Nat) : Off (.slice none n c) j := fun s n c e => by cases e
theorem Off.of {i j n c : Nat} {s : Option Nat} (h : i ≠ j) : Off (.slice (some ⟨i, 0, s⟩) n c) j := fun s n c e => by cases e; exact h rfl
theorem OS.lt {B : Nat} {e : TypeId} {v : Value} {vs : List Value} {j : Nat} (r : OS B h e v vs) (wf : WF h) (hj : h.next ≤ j) : Off v j := by
  rcases r with ⟨rfl, _⟩ | ⟨i, c, _, rfl, hi⟩
  · exact Off.nil _ _ _
  · exact Off.of (by have := wf.lt hi; omega)
theorem OS.stay {B : Nat} {e : TypeId} {u v : Value} {vs : List Value} {h' : Heap} (r : OS B h e v vs) (k : Keeps u h h') (ho : ∀ i s n c, v = .slice (some ⟨i, 0, s⟩) n c → Off u i) : OS B h' e v vs := by
  rcases r with ⟨rfl, rfl⟩ | ⟨i, c, h1, rfl, h2⟩
  · exact .inl ⟨rfl, rfl⟩
  · exact .inr ⟨i, c, h1, rfl, k i _ h2 (ho i _ _ _ rfl)⟩
/-- A row of rows of bytes that grows, beside a row that grows: all of the call's own, and apart. -/
structure Grows (B : Nat) (ea er eb : TypeId) (H : Heap) (av lv : Value) (avs : List Value) (ps : List (List UInt8)) : Prop where
  at_ : OS B H ea av avs
  rows : ∃ vs, OS B H er lv vs ∧ vs.length = ps.length ∧ ∀ (k : Nat) (x : Value) (p : List UInt8), vs[k]? = some x → ps[k]? = some p → ∃ i c, x = .slice (some ⟨i, 0, some 1⟩) p.length c ∧ H.get i = some ⟨bv p, eb, true⟩ ∧ Off av i ∧ Off lv i
  apart : ∀ i s n c, lv = .slice (some ⟨i, 0, s⟩) n c → Off av i
section
variable {B : Nat} {ea er eb : TypeId} {H H' : Heap} {av lv : Value} {avs : List Value} {ps : List (List UInt8)}
theorem Grows.nil (B : Nat) (ea er eb : TypeId) (H : Heap) : Grows B ea er eb H (.slice none 0 0) (.slice none 0 0) [] [] :=
  ⟨OS.nil _ _ _, ⟨[], OS.nil _ _ _, rfl, fun k x p h => by simp at h⟩, fun i s n c e => by cases e⟩
theorem Grows.ext (g : Grows B ea er eb H av lv avs ps) (hx : Ext H H') : Grows B ea er eb H' av lv avs ps := by
  obtain ⟨h1, ⟨vs, h2, h3, h4⟩, h5⟩ := g
  refine ⟨h1.ext hx, ⟨vs, h2.ext hx, h3, fun k x p e1 e2 => ?_⟩, h5⟩
  obtain ⟨i, c, q1, q2, q3⟩ := h4 k x p e1 e2
  exact ⟨i, c, q1, hx _ _ q2, q3⟩
theorem Grows.pushA (g : Grows B ea er eb H av lv avs ps) (wf : WF H) (hB : B ≤ H.next) {n c : Nat} {news : List Value} (hn : n = (avs ++ news).length) (hk : Keeps av H H') (hg : H'.get H.next = some ⟨avs ++ news, ea, true⟩) : Grows B ea er eb H' (.slice (some ⟨H.next, 0, some 1⟩) n c) lv (avs ++ news) ps := by
  obtain ⟨h1, ⟨vs, h2, h3, h4⟩, h5⟩ := g
  subst hn
  refine ⟨.inr ⟨_, c, hB, rfl, hg⟩, ⟨vs, h2.stay hk h5, h3, fun k x p e1 e2 => ?_⟩, fun i s n c' e => ?_⟩
  · obtain ⟨i, c', q1, q2, q3, q4⟩ := h4 k x p e1 e2
    have := wf.lt q2
    exact ⟨i, c', q1, hk _ _ q2 q3, Off.of (by omega), q4⟩
  · rcases h2 with ⟨rfl, _⟩ | ⟨i', c2, _, rfl, h6⟩
    · cases e
    · cases e
      have := wf.lt h6
      exact Off.of (by omega)
theorem Grows.pushR (g : Grows B ea er eb H av lv avs ps) (wf : WF H) (hB : B ≤ H.next) {vs : List Value} {p : List UInt8} {i n c c2 : Nat} (hvs : OS B H er lv vs) (hn : n = vs.length + 1) (hk : Keeps lv H H')
    (hg : H'.get H.next = some ⟨vs ++ [.slice (some ⟨i, 0, some 1⟩) p.length c2], er, true⟩) (hi : H.get i = some ⟨bv p, eb, true⟩) (ha : Off av i) (hl : Off lv i) : Grows B ea er eb H' av (.slice (some ⟨H.next, 0, some 1⟩) n c) avs (ps ++ [p]) := by
  obtain ⟨h1, ⟨vs', h2, h3, h4⟩, h5⟩ := g
  have hvv : vs' = vs := by
    rcases h2 with ⟨e1, e2⟩ | ⟨i', c', _, e1, e2⟩
    · rcases hvs with ⟨_, f2⟩ | ⟨i2, c2, _, f1, f2⟩
      · rw [e2, f2]
      · rw [e1] at f1; cases f1
    · rcases hvs with ⟨f1, f2⟩ | ⟨i2, c2, _, f1, f2⟩
      · rw [e1] at f1; cases f1
      · rw [e1] at f1
        injection f1 with q1 _ _
        injection q1 with q1
        injection q1 with q1 _ _
        subst q1
        rw [e2] at f2
        injection f2 with f2
        injection f2
  subst hvv hn
  have hoff : ∀ j, (∃ b, H.get j = some b) → Off (.slice (some ⟨H.next, 0, some 1⟩) (vs'.length + 1) c) j := by
    rintro j ⟨b, hb⟩
    have := wf.lt hb
    exact Off.of (by omega)
  refine ⟨h1.stay hk ?_, ⟨_, .inr ⟨_, c, hB, by rw [List.length_append]; rfl, hg⟩, by simp [h3], fun k x q e1 e2 => ?_⟩, fun j s n c' e => ?_⟩
  · intro j s n c' e s2 n2 c3 e2
    exact h5 j s2 n2 c3 e2 s n c' e
  · by_cases hkl : k < vs'.length
    · rw [List.getElem?_append_left hkl] at e1
      rw [List.getElem?_append_left (by omega)] at e2
      obtain ⟨j, c', q1, q2, q3, q4⟩ := h4 k x q e1 e2
      exact ⟨j, c', q1, hk _ _ q2 q4, q3, hoff j ⟨_, q2⟩⟩
    · have hlt := (List.getElem?_eq_some_iff.1 e1).1
      rw [List.length_append] at hlt
      have hkk : k = vs'.length := by simp at hlt; omega
      subst hkk
      rw [List.getElem?_append_right (Nat.le_refl _), Nat.sub_self] at e1
      rw [List.getElem?_append_right (by omega), show vs'.length - ps.length = 0 from by omega] at e2
      simp at e1 e2
      subst e1 e2
      exact ⟨i, c2, rfl, hk _ _ hi hl, ha, hoff i ⟨_, hi⟩⟩
  · cases e
    rcases h1 with ⟨rfl, _⟩ | ⟨i', c', _, rfl, h6⟩
    · exact Off.nil _ _ _
    · have := wf.lt h6
      exact Off.of (by omega)
theorem Grows.rbb (g : Grows B ea er eb H av lv avs ps) : RBB H lv ps := by
  obtain ⟨_, ⟨vs, h2, h3, h4⟩, _⟩ := g
  refine ⟨vs, h2.rs, h3, fun k x p e1 e2 => ?_⟩
  obtain ⟨i, c, rfl, q2, _⟩ := h4 k x p e1 e2
  exact RS.own q2 (bv_length _)
end
theorem OS.ne {B : Nat} {e : TypeId} {v : Value} {vs : List Value} (r : OS B h e v vs) (hn : vs.length ≠ 0) : ∃ i c, B ≤ i ∧ v = .slice (some ⟨i, 0, some 1⟩) vs.length c ∧ h.get i = some ⟨vs, e, true⟩ := by
  rcases r with ⟨_, rfl⟩ | r
  · exact absurd rfl hn
  · exact r
theorem OS.rb {B : Nat} {e : TypeId} {v : Value} {l : List UInt8} (r : OS B h e v (bv l)) : RB h v l := r.rs
/-- Bytes behind nothing: a copy. -/
theorem op_appN {t t2 e : TypeId} {d2 : TypeDesc} {x y : Operand} {B : Nat} {z v : Value} {b : List UInt8} [td : TyD P t (.slice e)] [t2d : TyD P t2 d2] [ti : TyI P e 1 1 z] (hd2 : appB d2 = true) (wf : WF h) (hB : B ≤ h.next)
    (hx : ρ x = .slice none 0 0) (hy : ρ y = v) (hs : RB h v b) (hl : b.length ≤ 1000000000) (kk : ∀ u' h', OS B h' e u' (bv b) → Ext h h' → WF h' → h.next ≤ h'.next → K u' h') : AOp P ⟨dst, .call ⟨.builtin .append, #[x, y], #[t, t2]⟩, ty, pos, aft, g⟩ ρ h K := by
  refine op_appendO (z := z) (B := B) (e := e) hd2 wf hB (OS.nil _ _ _) hx hy hs.src (bv_length _) (bv_one _) (by simp only [List.length_nil, maxLen]; omega) (by simp only [List.length_nil]; omega) ?_
  intro u' h' ho hk wf' hn
  rw [List.nil_append] at ho
  exact kk u' h' ho (hk.ext (OS.nil h.next _ e) wf (Nat.le_refl _) (Ext.refl _)) wf' hn
/-- Bytes, one or more, behind nothing: a copy in a new block. -/
theorem op_appNF {t t2 e : TypeId} {d2 : TypeDesc} {x y : Operand} {z v : Value} {b : List UInt8} [td : TyD P t (.slice e)] [t2d : TyD P t2 d2] [ti : TyI P e 1 1 z] (hd2 : appB d2 = true) (wf : WF h)
    (hx : ρ x = .slice none 0 0) (hy : ρ y = v) (hs : RB h v b) (h0 : 0 < b.length) (hl : b.length ≤ 1000000000) (kk : ∀ c h', h'.get h.next = some ⟨bv b, e, true⟩ → Ext h h' → WF h' → h.next ≤ h'.next → K (.slice (some ⟨h.next, 0, some 1⟩) b.length c) h') : AOp P ⟨dst, .call ⟨.builtin .append, #[x, y], #[t, t2]⟩, ty, pos, aft, g⟩ ρ h K := by
  refine op_appendF (z := z) (B := h.next) (e := e) hd2 wf (Nat.le_refl _) (OS.nil _ _ _) hx hy hs.src (bv_length _) h0 (bv_one _) (by simp only [List.length_nil, maxLen]; omega) (by simp only [List.length_nil]; omega) ?_
  intro c h' hg hk wf' hn
  rw [List.nil_append] at hg
  rw [show ([] : List Value).length + b.length = b.length from Nat.zero_add _]
  exact kk c h' hg (hk.ext (OS.nil h.next _ e) wf (Nat.le_refl _) (Ext.refl _)) wf' hn
/-- Bytes behind bytes of the call's own. -/
theorem op_appB {h0 : Heap} {t t2 e : TypeId} {d2 : TypeDesc} {x y : Operand} {B : Nat} {z u v : Value} {a b : List UInt8} [td : TyD P t (.slice e)] [t2d : TyD P t2 d2] [ti : TyI P e 1 1 z] (hd2 : appB d2 = true) (wf : WF h) (hB : B ≤ h.next)
    (wf0 : WF h0) (h0B : h0.next ≤ B) (hx0 : Ext h0 h) (r : OS B h e u (bv a)) (hx : ρ x = u) (hy : ρ y = v) (hs : RB h v b) (hl : a.length + b.length ≤ 1000000000)
    (kk : ∀ u' h', OS B h' e u' (bv (a ++ b)) → Ext h0 h' → WF h' → h.next ≤ h'.next → K u' h') : AOp P ⟨dst, .call ⟨.builtin .append, #[x, y], #[t, t2]⟩, ty, pos, aft, g⟩ ρ h K := by
  refine op_appendO (z := z) (B := B) (e := e) hd2 wf hB r hx hy hs.src (bv_length _) (bv_one _) (by rw [bv_length]; simp only [maxLen]; omega) (by rw [bv_length]; omega) ?_
  intro u' h' ho hk wf' hn
  rw [show bv a ++ bv b = bv (a ++ b) from (by simp [bv])] at ho
  exact kk u' h' ho (hk.ext r wf0 h0B hx0) wf' hn
theorem bstr_app (a b : List UInt8) : bstr a ++ bstr b = bstr (a ++ b) := by
  apply ByteArray.ext
  simp [bstr]
theorem bstr_toList (l : List UInt8) : (bstr l).toList = l := ByteArray.toList_mk l
theorem op_sEq {t t' : TypeId} {x y : Operand} {a b : List UInt8} (hx : ρ x = .string (bstr a)) (hy : ρ y = .string (bstr b)) (kk : K (.bool (a == b)) h) : AOp P ⟨dst, .binOp .eql t x y t', ty, pos, aft, g⟩ ρ h K :=
  op_strB hx hy (c := a == b) (by simp only [strB, bstr_toList]) kk
theorem op_sEqT {t t' : TypeId} {x y : Operand} {a b : List UInt8} (hx : ρ x = .string (bstr a)) (hy : ρ y = .string (bstr b)) (he : a = b) (kk : K (.bool true) h) : AOp P ⟨dst, .binOp .eql t x y t', ty, pos, aft, g⟩ ρ h K :=
  op_strB hx hy (c := true) (by simp only [strB]; rw [he]; simp) kk
theorem op_sNeF {t t' : TypeId} {x y : Operand} {a b : List UInt8} (hx : ρ x = .string (bstr a)) (hy : ρ y = .string (bstr b)) (he : a = b) (kk : K (.bool false) h) : AOp P ⟨dst, .binOp .neq t x y t', ty, pos, aft, g⟩ ρ h K :=
  op_strB hx hy (c := false) (by simp only [strB]; rw [he]; simp) kk
theorem op_sNeT {t t' : TypeId} {x y : Operand} {a b : List UInt8} (hx : ρ x = .string (bstr a)) (hy : ρ y = .string (bstr b)) (he : ¬ a = b) (kk : K (.bool true) h) : AOp P ⟨dst, .binOp .neq t x y t', ty, pos, aft, g⟩ ρ h K :=
  op_strB hx hy (c := true) (by simp only [strB, bstr_toList]; rw [show (a == b) = false from by simpa using he]; rfl) kk
theorem op_sNe {t t' : TypeId} {x y : Operand} {a b : List UInt8} (hx : ρ x = .string (bstr a)) (hy : ρ y = .string (bstr b)) (kk : K (.bool (!(a == b))) h) : AOp P ⟨dst, .binOp .neq t x y t', ty, pos, aft, g⟩ ρ h K :=
  op_strB hx hy (c := !(a == b)) (by simp only [strB, bstr_toList]) kk
theorem op_sCat {t t' : TypeId} {x y : Operand} {a b : List UInt8} (hx : ρ x = .string (bstr a)) (hy : ρ y = .string (bstr b)) (hs : a.length + b.length ≤ maxLen) (kk : K (.string (bstr (a ++ b))) h) : AOp P ⟨dst, .binOp .add t x y t', ty, pos, aft, g⟩ ρ h K :=
  op_strAdd hx hy (by simpa [bstr, ByteArray.size] using hs) (by rw [bstr_app]; exact kk)
end
end Go.Eng

/-
  The engine, part X: a function against nil; a result that lies in one cell.
-/
namespace Go.Eng
open Go

section
variable {P : Program} {ρ : Operand → Value} {h : Heap} {K : Value → Heap → Prop} {dst : Option Tmp} {ty : TypeId} {pos : String} {aft : Array Edge} {g : Option (Nat × Bool)}
theorem run_equalIn_funcNil {t : TypeId} {ps rs : Array TypeId} {vr : Bool} [ti : TyD P t (.func ps rs vr)] (fn : Fn) (f c : Array Value) (w : World) (d : Nat) : (Op.equalIn (d + 1) t (.func fn f c) .nilFunc).run P w = .ok false w := by
  simp [Op.equalIn, ti.run]
theorem op_eqFuncNil {t t' : TypeId} {ps rs : Array TypeId} {vr : Bool} {x y : Operand} {fn : Fn} {f c : Array Value} [ti : TyD P t (.func ps rs vr)] (hx : ρ x = .func fn f c) (hy : ρ y = .nilFunc) (kk : K (.bool false) h) : AOp P ⟨dst, .binOp .eql t x y t', ty, pos, aft, g⟩ ρ h K :=
  .of_pure kk fun φ ac w r => by
    obtain ⟨f', c', e1, _⟩ := (hx ▸ r.ev x (by simp [Op.operands])).func_inv
    have e2 := (hy ▸ r.ev y (by simp [Op.operands])).nilFunc_inv
    have e3 : (Op.equal t (.func fn f' c') .nilFunc).run P w = .ok false w := run_equalIn_funcNil fn f' c' w 9999
    exact ⟨_, by simp [execOp, e1, e2, eqGuard, binOp, e3], .bool _⟩
theorem op_boolEqT {t t' : TypeId} {x y : Operand} {a b : Bool} [ti : TyD P t .bool] (hx : ρ x = .bool a) (hy : ρ y = .bool b) (he : a = b) (kk : K (.bool true) h) : AOp P ⟨dst, .binOp .eql t x y t', ty, pos, aft, g⟩ ρ h K :=
  op_boolEq hx hy (by rw [show (a == b) = true from by rw [he]; exact beq_self_eq_true b]; exact kk)
theorem op_boolNeF {t t' : TypeId} {x y : Operand} {a b : Bool} [ti : TyD P t .bool] (hx : ρ x = .bool a) (hy : ρ y = .bool b) (he : a = b) (kk : K (.bool false) h) : AOp P ⟨dst, .binOp .neq t x y t', ty, pos, aft, g⟩ ρ h K :=
  op_boolNe hx hy (by rw [show (a != b) = false from by rw [he]; exact bne_self_eq_false b]; exact kk)
/-- A result that lies in one cell. -/
theorem ResV.cell {fn : Func} {env : Env} {a : Tmp} {t : TypeId} {i o : Nat} {s : Option Nat} {b : Blk} {d : TypeDesc} {v : Value} [td : TyD P t d] (hr : fn.results = #[.cell a t]) (hx : env.get a = .pointer (some ⟨i, o, s⟩)) (ha : aggB d = false)
    (hi : h.get i = some b) (hv : b.cells[o]? = some v) : ResV P fn env h v := by
  intro N φ tmps w r
  obtain ⟨_, _, e1⟩ := (hx ▸ r.env a).ptr_inv
  obtain ⟨c, hc, hr2⟩ := r.sim.cell hi hv
  refine ⟨c, ?_, hr2⟩
  simp only [results, hr]
  simp only [List.mapM_toArray, List.mapM_cons, List.mapM_nil, Sem.run_bind, Sem.run_map, Sem.run_pure, e1]
  simp [asAddr, loadVar, td.isAgg, ha, hc]
end
/-- An operation of which it is not known whether it is asked for; its value is not looked at. -/
theorem AL.both {P : Program} {N : Nat} {ops : Array Oper} {rest : List Oper} {Q : Exit → Env → Heap → Prop} {env : Env} {h : Heap} {d : Tmp} {op : Op} {ty : TypeId} {pos : String} {aft : Array Edge} {g : Option (Nat × Bool)} (hd : Nat.blt d N = true)
    (p : AOp P ⟨some d, op, ty, pos, aft, g⟩ (ev P env) h fun _ h' => h' = h) (q : AL P N ops rest Q ((d, undef) :: env) h) : AL P N ops (⟨some d, op, ty, pos, aft, g⟩ :: rest) Q env h := by
  intro φ a w hdf r
  simp only [wpList]
  split
  · refine .inl (p φ a w ⟨r.sim, fun x _ => r.ev x⟩ _ _ fun c w' φ' h' v k _ s st => ?_)
    subst k
    exact wpList_mono (fun _ _ _ hp => hp.trans st) _ _ _ (q φ' _ w' (by rw [put_defers]; exact hdf) ((r.step s st).put (some d) (dstB_lt hd) (.und _)))
  · exact q φ _ w (by rw [put_defers]; exact hdf) (r.put (some d) (dstB_lt hd) (.und _))
end Go.Eng

/-
  The engine, part Y: two rows that grow side by side; a byte's bit.
-/
namespace Go.Eng
open Go

/-- A value that is nothing, or lies in the block of that number. -/
def Fresh (n : Nat) (v : Value) : Prop := v = .slice none 0 0 ∨ ∃ l c, v = .slice (some ⟨n, 0, some 1⟩) l c
theorem Fresh.off {n i : Nat} {v : Value} (f : Fresh n v) (h : i < n) : Off v i := by
  rcases f with rfl | ⟨l, c, rfl⟩
  · exact Off.nil _ _ _
  · exact Off.of (by omega)
section
variable {P : Program} {ρ : Operand → Value} {h : Heap} {K : Value → Heap → Prop} {dst : Option Tmp} {ty : TypeId} {pos : String} {aft : Array Edge} {g : Option (Nat × Bool)}
/-- append to a slice of the call's own: what comes is nothing, or lies in a new block. -/
theorem op_appendG {t t2 e : TypeId} {d2 : TypeDesc} {x y : Operand} {by_ B m : Nat} {z u v : Value} {vs news : List Value} [td : TyD P t (.slice e)] [t2d : TyD P t2 d2] [ti : TyI P e 1 by_ z] (hd2 : appB d2 = true) (wf : WF h) (hB : B ≤ h.next)
    (r : OS B h e u vs) (hx : ρ x = u) (hy : ρ y = v) (hs : Src h 1 v m news) (hm : news.length = m) (hone : news.all oneB = true) (h1 : vs.length + m ≤ maxLen) (h2 : (vs.length + m) * by_ ≤ 140737488355328)
    (kk : ∀ u' h', OS B h' e u' (vs ++ news) → Fresh h.next u' → Keeps u h h' → WF h' → h.next ≤ h'.next → K u' h') : AOp P ⟨dst, .call ⟨.builtin .append, #[x, y], #[t, t2]⟩, ty, pos, aft, g⟩ ρ h K := by
  rcases r with ⟨rfl, rfl⟩ | ⟨i, c, hBi, rfl, hi⟩
  · refine op_appendNil (z := z) hd2 hx hy hs (by simpa using h1) (by simpa using h2) (fun hm0 => ?_) (fun hm0 => ?_)
    · have : news = [] := List.eq_nil_of_length_eq_zero (by omega)
      subst this
      exact kk _ _ (.inl ⟨rfl, rfl⟩) (.inl rfl) ⟨fun j b hj _ => hj, fun j b hj => hj⟩ wf (Nat.le_refl _)
    · exact kk _ _ (.inr ⟨h.next, m + 1, hB, by simp [hm], by simp [Heap.alloc_new]⟩) (.inr ⟨_, _, rfl⟩) ⟨fun j b hj _ => (wf.ext _).c j b hj, fun j b hj => hj⟩ (wf.alloc _) (by simp [Heap.alloc])
  · refine op_append (z := z) hd2 hx hy hi rfl rfl (by simp) hs hone h1 h2 ?_
    refine kk _ _ (.inr ⟨h.next, vs.length + m + 1, hB, by simp [hm], Heap.kill_alloc_new _ _ _⟩) (.inr ⟨_, _, rfl⟩) ⟨fun j b hj hne => ?_, fun j b hj => hj⟩ ((wf.kill i).alloc _) (by simp [Heap.alloc, Heap.kill])
    have := wf.lt hj
    rw [Heap.kill_alloc_old (by omega) (fun e => hne (some 1) vs.length c (by rw [e]))]
    exact hj
/-- Two rows of the call's own, apart. -/
structure Two (B : Nat) (ea eb : TypeId) (H : Heap) (u v : Value) (us vs : List Value) : Prop where
  a : OS B H ea u us
  b : OS B H eb v vs
  ap : ∀ i s n c, v = .slice (some ⟨i, 0, s⟩) n c → Off u i
section
variable {B : Nat} {ea eb : TypeId} {H H' : Heap} {u v u' v' : Value} {us vs us' vs' : List Value}
theorem Two.nil (B : Nat) (ea eb : TypeId) (H : Heap) : Two B ea eb H (.slice none 0 0) (.slice none 0 0) [] [] := ⟨OS.nil _ _ _, OS.nil _ _ _, fun i s n c e => by cases e⟩
theorem Two.ext (t : Two B ea eb H u v us vs) (hx : Ext H H') : Two B ea eb H' u v us vs := ⟨t.a.ext hx, t.b.ext hx, t.ap⟩
theorem Two.pushA (t : Two B ea eb H u v us vs) (wf : WF H) (o : OS B H' ea u' us') (f : Fresh H.next u') (k : Keeps u H H') : Two B ea eb H' u' v us' vs := by
  refine ⟨o, t.b.stay k t.ap, fun i s n c e => ?_⟩
  rcases t.b with ⟨rfl, _⟩ | ⟨j, c2, _, rfl, hj⟩
  · cases e
  · cases e
    exact f.off (wf.lt hj)
theorem Two.pushB (t : Two B ea eb H u v us vs) (wf : WF H) (o : OS B H' eb v' vs') (f : Fresh H.next v') (k : Keeps v H H') : Two B ea eb H' u v' us vs' := by
  refine ⟨t.a.stay k (fun i s n c e s2 n2 c2 e2 => t.ap i s2 n2 c2 e2 s n c e), o, fun i s n c e => ?_⟩
  rcases f with rfl | ⟨l, c2, rfl⟩
  · cases e
  · cases e
    exact t.a.lt wf (Nat.le_refl _)
end
/-- A number's last three bits. -/
theorem op_and7 {t t' : TypeId} {x y : Operand} {a : Int} (s : Nat) (hs : s = (BitVec.ofInt 64 a).toNat % 8) (hx : ρ x = .int .i64 a) (hy : ρ y = .int .i64 7) (kk : K (.int .i64 (s : Nat)) h) : AOp P ⟨dst, .binOp .and t x y t', ty, pos, aft, g⟩ ρ h K := by
  refine op_int hx hy (v := .int .i64 (s : Nat)) ?_ kk
  simp only [binI, if_true]
  have e1 : (BitVec.ofInt IntKind.i64.bits 7).toNat = 2 ^ 3 - 1 := rfl
  have e2 : (BitVec.ofInt IntKind.i64.bits a &&& BitVec.ofInt IntKind.i64.bits 7).toNat = s := by
    rw [BitVec.toNat_and, e1, Nat.and_two_pow_sub_one_eq_mod, hs]
    rfl
  rw [e2, IntKind.wrap_i64]
  have hs2 : s < 8 := by omega
  refine congrArg some (congrArg (Value.int .i64) ?_)
  omega
theorem op_convU64 {s d : TypeId} {x : Operand} {k ks : IntKind} {a : Int} [ts : TyD P s (.int ks)] [td : TyD P d (.int .u64)] (hx : ρ x = .int k a) (hr : 0 ≤ a ∧ a ≤ 18446744073709551615) (kk : K (.int .u64 a) h) :
    AOp P ⟨dst, .convert s d x, ty, pos, aft, g⟩ ρ h K :=
  op_convI hx (by rw [show IntKind.u64.wrap a = a from by rw [IntKind.wrap_u64]; omega]; exact kk)
theorem op_shl8b {t t' : TypeId} {x y : Operand} {k : IntKind} {c : Int} (n : Nat) (hc : c = (n : Int)) (hn : n < 8) (hx : ρ x = .int .u8 1) (hy : ρ y = .int k c) (kk : K (.int .u8 ((UInt8.ofNat (1 <<< n)).toNat : Int)) h) : AOp P ⟨dst, .binOp .shl t x y t', ty, pos, aft, g⟩ ρ h K := by
  subst hc
  refine op_int hx hy (v := .int .u8 ((UInt8.ofNat (1 <<< n)).toNat : Int)) ?_ kk
  match n, hn with
  | 0, _ | 1, _ | 2, _ | 3, _ | 4, _ | 5, _ | 6, _ | 7, _ => rfl
end
end Go.Eng

/-
  The engine, part Map: objects that are no cells; maps whose keys are strings.
-/
namespace Go.Eng
open Go
open Go.ChangeMaps (setBlock)

theorem Heap.allocO_new (h : Heap) (o : AObj) : (h.allocO o).obj h.next = some o := by simp [Heap.allocO]
theorem Heap.allocO_old {h : Heap} {o : AObj} {i : Nat} (hi : i ≠ h.next) : (h.allocO o).obj i = h.obj i := by simp [Heap.allocO, hi]
theorem Heap.setO_at (h : Heap) (i : Nat) (o : AObj) : (h.setO i o).obj i = some o := by simp [Heap.setO]
theorem Heap.setO_other {h : Heap} {i j : Nat} {o : AObj} (hj : j ≠ i) : (h.setO i o).obj j = h.obj j := by simp [Heap.setO, hj]
theorem WF.allocO {h : Heap} (wf : WF h) (o : AObj) : WF (h.allocO o) := by
  refine ⟨fun i hi => ?_, fun i hi => ?_⟩
  · have h1 : h.next + 1 ≤ i := hi
    exact wf.c i (by omega)
  · have h1 : h.next + 1 ≤ i := hi
    rw [Heap.allocO_old (by omega)]
    exact wf.o i (by omega)
theorem WF.extO {h : Heap} (wf : WF h) (o : AObj) : Ext h (h.allocO o) := by
  refine ⟨fun _ _ hi => hi, fun i c hi => ?_⟩
  have := wf.ltO hi
  rw [Heap.allocO_old (by omega)]
  exact hi
theorem WF.setO {h : Heap} (wf : WF h) {i : Nat} (hi : i < h.next) (o : AObj) : WF (h.setO i o) := by
  refine ⟨fun j hj => wf.c j hj, fun j hj => ?_⟩
  have h1 : h.next ≤ j := hj
  rw [Heap.setO_other (by omega)]
  exact wf.o j h1
theorem WF.ext_setO {h h1 : Heap} (wf : WF h) (hx : Ext h h1) {j : Nat} (hj : h.next ≤ j) (o : AObj) : Ext h (h1.setO j o) := by
  refine ⟨fun i c hi => hx.c i c hi, fun i c hi => ?_⟩
  have h2 := wf.ltO hi
  rw [Heap.setO_other (by omega)]
  exact hx.o i c hi

section
variable {P : Program} {φ : Ren} {h : Heap} {w : World}
theorem Sim.allocO (s : Sim P φ h w) (o : AObj) (ob : Obj) (hr : ORel (Ren.put φ h.next ⟨w.heap.size, 0, 0⟩) (h.next + 1) h.next o (w.alloc ob)) :
    Sim P (Ren.put φ h.next ⟨w.heap.size, 0, 0⟩) (h.allocO o) (w.alloc ob) ∧ Step φ h w (Ren.put φ h.next ⟨w.heap.size, 0, 0⟩) (h.allocO o) (w.alloc ob) := by
  have hheap : ∀ k : Nat, (w.alloc ob).heap[k]? = if k = w.heap.size then some ob else w.heap[k]? := fun k => heap_push w _ k
  have hold : ∀ i b, (h.allocO o).obj i = some b → i ≠ h.next → h.obj i = some b := by
    intro i b hb hne
    rwa [Heap.allocO_old hne] at hb
  constructor
  · refine ⟨s.next.allocO o, ?_, ?_, ?_, ?_, ?_, ?_⟩
    · intro i b hb
      refine (s.blk i b hb).world Ren.put_lt (s.lt hb) (by simp [Heap.allocO]) ?_
      rw [hheap, if_neg (by have := s.low i b hb; omega)]
    · intro i b hb
      rw [Ren.put_lt i (s.lt hb)]
      have := s.low i b hb
      simp; omega
    · intro i j b hb ho hj he
      cases hxj : (h.allocO o).get j with
      | none => exact absurd hxj hj
      | some bj =>
        rw [Ren.put_lt i (s.lt hb), Ren.put_lt j (s.lt hxj)] at he
        exact s.apart i j b hb ho hj he
    · intro g hg
      obtain ⟨h1, h2⟩ := s.glob g hg
      exact ⟨by rw [Ren.put_lt g h2]; exact h1, by simp only [Heap.allocO]; omega⟩
    · intro i x hi
      by_cases hin : i = h.next
      · subst hin
        rw [Heap.allocO_new] at hi
        cases hi
        exact hr
      · have hi' := hold i x hi hin
        refine (s.objs i x hi').world Ren.put_lt (s.ltO hi') (by simp [Heap.allocO]) ?_
        rw [hheap, if_neg (by have := s.lowO hi'; omega)]
    · intro i j x hi hj he
      cases hxj : (h.allocO o).obj j with
      | none => exact absurd hxj hj
      | some y =>
        by_cases hin : i = h.next
        · by_cases hjn : j = h.next
          · omega
          · exfalso
            have hj' := hold j y hxj hjn
            rw [hin, Ren.put_at, Ren.put_lt j (s.ltO hj')] at he
            have := s.lowO hj'
            simp at he; omega
        · have hi' := hold i x hi hin
          rw [Ren.put_lt i (s.ltO hi')] at he
          by_cases hjn : j = h.next
          · exfalso
            rw [hjn, Ren.put_at] at he
            have := s.lowO hi'
            simp at he; omega
          · have hj' := hold j y hxj hjn
            rw [Ren.put_lt j (s.ltO hj')] at he
            exact s.apartO i j x hi' (by rw [hj']; simp) he
  · refine ⟨by simp [Heap.allocO], Ren.put_lt, rfl, rfl, rfl, by simp, fun k hk _ => by rw [hheap, if_neg (by omega)], ?_⟩
    rintro k (⟨i, b, h1, h2, h3⟩ | ⟨i, x, h1, h3⟩)
    · rw [Ren.put_lt i (s.lt h1)] at h3
      exact .inl (.inl ⟨i, b, h1, h2, h3⟩)
    · by_cases hin : i = h.next
      · subst hin
        rw [Ren.put_at] at h3
        exact .inr (by simp at h3; omega)
      · have hi' := hold i x h1 hin
        rw [Ren.put_lt i (s.ltO hi')] at h3
        exact .inl (.inr ⟨i, x, hi', h3⟩)
theorem Sim.setO (s : Sim P φ h w) {i : Nat} {o o' : AObj} (hi : h.obj i = some o) (ob : Obj) {w' : World} (hw : ∀ k : Nat, w'.heap[k]? = if k = (φ i).b then some ob else w.heap[k]?) (hsz : w'.heap.size = w.heap.size)
    (hos : w'.os = w.os) (htape : w'.tape = w.tape) (hout : w'.output = w.output) (hr : ORel φ h.next i o' w') : Sim P φ (h.setO i o') w' ∧ Step φ h w φ (h.setO i o') w' := by
  obtain ⟨x, x1, _, x2⟩ := (s.objs i o hi).obj
  have hown : ∀ j b, h.get j = some b → b.own = true → (φ j).b ≠ (φ i).b := by
    intro j b hj hbo he
    obtain ⟨arr, fr, q1, _⟩ := s.owned hj hbo
    rw [he, x1] at q1
    exact x2 _ _ _ (Option.some.inj q1)
  constructor
  · refine ⟨s.next.setO (s.ltO hi) o', ?_, ?_, ?_, s.glob, ?_, ?_⟩
    · intro j b hj
      by_cases he : (φ j).b = (φ i).b
      · have hno : ¬ b.own = true := fun hbo => hown j b hj hbo he
        have hb := s.blk j b hj
        unfold BRel at hb ⊢
        rw [if_neg hno] at hb ⊢
        intro k v hk
        obtain ⟨c, hc, _⟩ := hb k v hk
        obtain ⟨y, y1, y2⟩ := cells_of_cell hc
        exfalso
        have y3 : w.heap[(φ j).b]? = some y := y1
        rw [he, x1] at y3
        cases y3
        cases x with
        | cells arr e f => exact x2 arr e f rfl
        | _ => cases y2
      · refine (s.blk j b hj).world (fun _ _ => rfl) (s.lt hj) (Nat.le_refl _) ?_
        rw [hw, if_neg he]
    · intro j b hj
      rw [hsz]
      exact s.low j b hj
    · exact s.apart
    · intro j y hj
      by_cases hji : j = i
      · subst hji
        rw [Heap.setO_at] at hj
        cases hj
        exact hr
      · rw [Heap.setO_other hji] at hj
        refine (s.objs j y hj).world (fun _ _ => rfl) (s.ltO hj) (Nat.le_refl _) ?_
        rw [hw, if_neg]
        intro he
        exact hji (s.apartO i j o hi (by rw [hj]; simp) he)
    · intro j k y hj hk he
      have key : ∀ m, (h.setO i o').obj m ≠ none → ∃ z, h.obj m = some z := by
        intro m hm
        by_cases hmi : m = i
        · subst hmi; exact ⟨o, hi⟩
        · rw [Heap.setO_other hmi] at hm
          cases hx : h.obj m with
          | none => exact absurd hx hm
          | some z => exact ⟨z, rfl⟩
      obtain ⟨z, hz⟩ := key j (by rw [hj]; simp)
      obtain ⟨z2, hz2⟩ := key k hk
      exact s.apartO j k z hz (by rw [hz2]; simp) he
  · refine ⟨Nat.le_refl _, fun _ _ => rfl, hos, htape, hout, by omega, ?_, ?_⟩
    · intro k hk hno
      rw [hw, if_neg]
      intro he
      exact hno (.inr ⟨i, o, hi, he.symm⟩)
    · rintro k (⟨j, b, h1, h2, h3⟩ | ⟨j, y, h1, h3⟩)
      · exact .inl (.inl ⟨j, b, h1, h2, h3⟩)
      · by_cases hji : j = i
        · subst hji; exact .inl (.inr ⟨j, o, hi, h3⟩)
        · rw [Heap.setO_other hji] at h1
          exact .inl (.inr ⟨j, y, h1, h3⟩)
theorem setBlock_heap {w : World} {b : Nat} {o : Obj} (hb : b < w.heap.size) (k : Nat) : (setBlock w b o).heap[k]? = if k = b then some o else w.heap[k]? := by
  show (w.heap.setIfInBounds b o)[k]? = _
  rw [Array.getElem?_setIfInBounds]
  by_cases he : b = k
  · subst he; simp [hb]
  · rw [if_neg he, if_neg (fun e => he e.symm)]
theorem run_setObjB {w : World} {r : Nat} {x : Obj} (hr : w.heap[r]? = some x) (hx : ∀ c e f, x ≠ .cells c e f) (o' : Obj) : (setObj r o').run P w = .ok () (setBlock w r o') := by
  cases x with
  | cells c e f => exact absurd rfl (hx c e f)
  | _ => simp [setObj, Sem.run, hr, setBlock]
end

/-! Maps whose keys are strings. -/
abbrev KV := List (List UInt8 × Value × Nat)
def ents (l : KV) : List AEnt := l.map fun e => ⟨.string (bstr e.1), e.2.1, e.2.2⟩
inductive ELs (φ : Ren) (n : Nat) : KV → List MapEntry → Prop
  | nil : ELs φ n [] []
  | cons {k : List UInt8} {v : Value} {b : Nat} {l : KV} {c : MapEntry} {cs : List MapEntry} (hk : c.key = .string (bstr k)) (hv : VRel φ n v c.val) (hb : c.born = b) (t : ELs φ n l cs) : ELs φ n ((k, v, b) :: l) (c :: cs)
theorem ELs.of {φ : Ren} {n : Nat} : ∀ {l : KV} {cs : List MapEntry}, (ents l).length = cs.length → (∀ (k : Nat) e c, (ents l)[k]? = some e → cs[k]? = some c → ERel φ n e c) → ELs φ n l cs
  | [], [], _, _ => .nil
  | [], _ :: _, h, _ => by simp [ents] at h
  | _ :: _, [], h, _ => by simp [ents] at h
  | (k, v, b) :: l, c :: cs, h, hr => by
    obtain ⟨q1, q2, q3⟩ := hr 0 _ _ rfl rfl
    exact .cons q1.string_inv q2 q3 (ELs.of (by simpa [ents] using h) (fun j e d he hd => hr (j + 1) e d he hd))
theorem ELs.to {φ : Ren} {n : Nat} {l : KV} {cs : List MapEntry} (r : ELs φ n l cs) : (ents l).length = cs.length ∧ ∀ (k : Nat) e c, (ents l)[k]? = some e → cs[k]? = some c → ERel φ n e c := by
  induction r with
  | nil => exact ⟨rfl, fun k e c he => by simp [ents] at he⟩
  | cons hk hv hb t ih =>
    refine ⟨by have := ih.1; simp [ents] at this ⊢; exact this, fun k e c he hc => ?_⟩
    cases k with
    | zero =>
      simp [ents] at he hc
      subst he hc
      exact ⟨by rw [hk]; exact .string _, hv, hb⟩
    | succ k => exact ih.2 k e c (by simpa [ents] using he) (by simpa using hc)
def getS {α : Type} (l : List (List UInt8 × α × Nat)) (s : List UInt8) : Option α := (l.find? (fun e => e.1 == s)).map fun e => e.2.1
def putS {α : Type} : List (List UInt8 × α × Nat) → List UInt8 → α → Nat → List (List UInt8 × α × Nat)
  | [], s, v, c => [(s, v, c)]
  | (k, u, b) :: l, s, v, c => if k == s then (k, v, b) :: l else (k, u, b) :: putS l s v c
def delS {α : Type} : List (List UInt8 × α × Nat) → List UInt8 → List (List UInt8 × α × Nat)
  | [], _ => []
  | (k, u, b) :: l, s => if k == s then l else (k, u, b) :: delS l s
def hasS {α : Type} (l : List (List UInt8 × α × Nat)) (s : List UInt8) : Bool := l.any fun e => e.1 == s
theorem bstr_beq (a b : List UInt8) : (bstr a == bstr b) = (a == b) := by
  rw [beq_toListBytes, bstr_toList, bstr_toList]
/-- What seeking finds. -/
theorem findNow_spec {φ : Ren} {n : Nat} {s : List UInt8} {l : KV} {cs : List MapEntry} (r : ELs φ n l cs) : ∀ i, (Instr.findNow .string (.string (bstr s)) cs i = some none ∧ getS l s = none ∧ hasS l s = false ∧ delS l s = l ∧ ∀ v c, putS l s v c = l ++ [(s, v, c)]) ∨
    ∃ j u cv, Instr.findNow .string (.string (bstr s)) cs i = some (some (i + j, cv)) ∧ getS l s = some u ∧ VRel φ n u cv ∧ hasS l s = true ∧ j < cs.length ∧ (∃ c, cs[j]? = some c ∧ c.key = .string (bstr s)) ∧ ELs φ n (delS l s) (cs.eraseIdx j) ∧
      ∀ v cv' c, VRel φ n v cv' → ELs φ n (putS l s v c) (cs.modify j fun e => { e with key := .string (bstr s), val := cv' }) := by
  induction r with
  | nil => exact fun i => .inl ⟨rfl, rfl, rfl, rfl, fun _ _ => rfl⟩
  | @cons k v b l c cs hk hv hb t ih =>
    intro i
    by_cases he : k = s
    · subst he
      have hb1 : (k == k) = true := beq_self_eq_true k
      refine .inr ⟨0, v, c.val, ?_, ?_, hv, ?_, by simp, ⟨c, rfl, hk⟩, ?_, fun v' cv' c' hv' => ?_⟩
      · simp [Instr.findNow, Instr.sameNow, hk, bstr_beq]
      · simp [getS]
      · simp [hasS]
      · simp only [delS, hb1, if_true, List.eraseIdx_zero, List.tail_cons]; exact t
      · simp only [putS, hb1, if_true, List.modify_zero_cons]
        exact .cons rfl hv' hb t
    · have hb1 : (k == s) = false := beq_eq_false_iff_ne.2 he
      have hb2 : (s == k) = false := beq_eq_false_iff_ne.2 (fun e => he e.symm)
      have hn : Instr.findNow .string (.string (bstr s)) (c :: cs) i = Instr.findNow .string (.string (bstr s)) cs (i + 1) := by
        simp only [Instr.findNow, Instr.sameNow, hk, bstr_beq, hb2]
      rcases ih (i + 1) with ⟨h1, h2, h3, h4, h5⟩ | ⟨j, u, cv, h1, h2, h3, h4, h5, h6, h7, h8⟩
      · refine .inl ⟨by rw [hn, h1], ?_, ?_, ?_, fun v' c' => ?_⟩
        · simpa [getS, hb1] using h2
        · simpa [hasS, hb1] using h3
        · simp [delS, hb1, h4]
        · simp [putS, hb1, h5]
      · refine .inr ⟨j + 1, u, cv, by rw [hn, h1]; congr 3; omega, ?_, h3, ?_, by simpa using h5, ?_, ?_, fun v' cv' c' hv' => ?_⟩
        · simpa [getS, hb1] using h2
        · simpa [hasS, hb1] using h4
        · obtain ⟨d, d1, d2⟩ := h6; exact ⟨d, by simpa using d1, d2⟩
        · simp only [delS, hb1, Bool.false_eq_true, if_false, List.eraseIdx_cons_succ]
          exact .cons hk hv hb h7
        · simp only [putS, hb1, Bool.false_eq_true, if_false, List.modify_succ_cons]
          exact .cons hk hv hb (h8 v' cv' c' hv')
theorem ELs.push {φ : Ren} {n : Nat} {l : KV} {cs : List MapEntry} (r : ELs φ n l cs) {s : List UInt8} {v cv : Value} {b : Nat} (hv : VRel φ n v cv) : ELs φ n (l ++ [(s, v, b)]) (cs ++ [{ key := .string (bstr s), val := cv, born := b }]) := by
  induction r with
  | nil => exact .cons rfl hv rfl .nil
  | cons hk hv' hb t ih => exact .cons hk hv' hb ih
theorem ELs.mono {φ φ' : Ren} {n n' : Nat} (ha : ∀ i, i < n → φ' i = φ i) (hn : n ≤ n') {l : KV} {cs : List MapEntry} (r : ELs φ n l cs) : ELs φ' n' l cs := by
  induction r with
  | nil => exact .nil
  | cons hk hv hb t ih => exact .cons hk (hv.mono ha hn) hb ih

section ops
variable {P : Program} {ρ : Operand → Value} {h : Heap} {K : Value → Heap → Prop} {dst : Option Tmp} {ty : TypeId} {pos : String} {aft : Array Edge} {g : Option (Nat × Bool)}
theorem mapOf {φ : Ren} {w : World} {i : Nat} {l : KV} {clock : Nat} (s : Sim P φ h w) (hi : h.obj i = some (.map (ents l) clock)) : ∃ cs : Array MapEntry, w.heap[(φ i).b]? = some (.map cs clock) ∧ ELs φ h.next l cs.toList := by
  obtain ⟨cs, h1, h2, h3⟩ := s.objs i _ hi
  exact ⟨cs, h1, ELs.of (by simpa using h2) (fun k e c he hc => h3 k e c he (by simpa using hc))⟩
theorem ORel.ofMap {φ : Ren} {n i : Nat} {l : KV} {clock : Nat} {w : World} {cs : Array MapEntry} (hw : w.heap[(φ i).b]? = some (.map cs clock)) (r : ELs φ n l cs.toList) : ORel φ n i (.map (ents l) clock) w :=
  ⟨cs, hw, by simpa using r.to.1, fun k e c he hc => r.to.2 k e c he (by simpa using hc)⟩
theorem run_checkKeyS {kt : TypeId} [tk : TyD P kt .string] (b : Bool) (s : List UInt8) (w : World) : (Instr.checkKey b 10000 kt (.string (bstr s))).run P w = .ok () w := by
  have key : ∀ n, (Instr.checkKey b (n + 1) kt (.string (bstr s))).run P w = .ok () w := fun n => by simp [Instr.checkKey, tk.run]
  exact key 9999
theorem run_findKeyS {kt : TypeId} [tk : TyD P kt .string] (s : List UInt8) (cs : List MapEntry) (w : World) {r : Option (Nat × Value)} (hr : Instr.findNow .string (.string (bstr s)) cs 0 = some r) : (Instr.findKey kt (.string (bstr s)) cs).run P w = .ok r w := by
  simp [Instr.findKey, tk.run, hr]
theorem run_getObjM {w : World} {r : Nat} {cs : Array MapEntry} {k : Nat} (hr : w.heap[r]? = some (.map cs k)) : (getObj r).run P w = .ok (.map cs k) w := by
  simp [getObj, Sem.run, hr]
/-- A new map. -/
theorem op_makeMap {t : TypeId} (kk : K (.map (some h.next)) (h.allocO (.map (ents []) 0))) : AOp P ⟨dst, .makeMap t none, ty, pos, aft, g⟩ ρ h K :=
  .of_run fun φ ac w r => by
    obtain ⟨s1, s2⟩ := r.sim.allocO (.map (ents []) 0) (.map #[] 0) (ORel.ofMap (cs := #[]) (by rw [Ren.put_at]; exact (heap_push w _ _).trans (if_pos rfl)) .nil)
    refine ⟨.map (some w.heap.size), w.alloc (.map #[] 0), _, _, _, ?_, kk, ?_, s1, s2⟩
    · simp [execOp, Instr.makeMap]
    · have := VRel.map (φ := Ren.put φ h.next ⟨w.heap.size, 0, 0⟩) (n := h.next + 1) h.next (by omega)
      rw [Ren.put_at] at this
      exact this
/-- A look: what is there, or nothing. -/
theorem op_lookup {t kt et : TypeId} {x y : Operand} {i esz eb clock : Nat} {z : Value} {s : List UInt8} {l : KV} [td : TyD P t (.map kt et)] [tk : TyD P kt .string] [te : TyI P et esz eb z] (hx : ρ x = .map (some i)) (hy : ρ y = .string (bstr s)) (hi : h.obj i = some (.map (ents l) clock)) (hz : plainV z = true)
    (kk : K ((getS l s).getD z) h) : AOp P ⟨dst, .lookup t x y false, ty, pos, aft, g⟩ ρ h K :=
  .of_pure kk fun φ ac w r => by
    obtain ⟨_, e1⟩ := (hx ▸ r.ev x (by simp [Op.operands])).map_inv
    have e2 := (hy ▸ r.ev y (by simp [Op.operands])).string_inv
    obtain ⟨cs, q1, q2⟩ := mapOf r.sim hi
    have hrun : ∀ r', Instr.findNow .string (.string (bstr s)) cs.toList 0 = some r' → (Instr.lookup t (.map (some (φ i).b)) (.string (bstr s)) false).run P w = .ok (match r' with | some (_, v) => v | none => z) w := by
      intro r' hr'
      cases r' with
      | none => simp [Instr.lookup, td.run, run_getObjM q1, run_checkKeyS, run_findKeyS _ _ _ hr', te.zero]
      | some p => simp [Instr.lookup, td.run, run_getObjM q1, run_checkKeyS, run_findKeyS _ _ _ hr']
    rcases findNow_spec (s := s) q2 0 with ⟨h1, h2, _⟩ | ⟨j, u, cv, h1, h2, h3, _⟩
    · exact ⟨z, by simp [execOp, e1, e2, hrun _ h1], by rw [h2]; exact .of_plain hz⟩
    · exact ⟨cv, by simp [execOp, e1, e2, hrun _ h1], by rw [h2]; exact h3⟩
theorem op_lookupOk {t kt et : TypeId} {x y : Operand} {i esz eb clock : Nat} {z : Value} {s : List UInt8} {l : KV} [td : TyD P t (.map kt et)] [tk : TyD P kt .string] [te : TyI P et esz eb z] (hx : ρ x = .map (some i)) (hy : ρ y = .string (bstr s)) (hi : h.obj i = some (.map (ents l) clock)) (hz : plainV z = true)
    (kk : K (.tuple #[(getS l s).getD z, .bool (getS l s).isSome]) h) : AOp P ⟨dst, .lookup t x y true, ty, pos, aft, g⟩ ρ h K :=
  .of_pure kk fun φ ac w r => by
    obtain ⟨_, e1⟩ := (hx ▸ r.ev x (by simp [Op.operands])).map_inv
    have e2 := (hy ▸ r.ev y (by simp [Op.operands])).string_inv
    obtain ⟨cs, q1, q2⟩ := mapOf r.sim hi
    have hrun : ∀ r', Instr.findNow .string (.string (bstr s)) cs.toList 0 = some r' → (Instr.lookup t (.map (some (φ i).b)) (.string (bstr s)) true).run P w = .ok (.tuple #[match r' with | some (_, v) => v | none => z, .bool r'.isSome]) w := by
      intro r' hr'
      cases r' with
      | none => simp [Instr.lookup, td.run, run_getObjM q1, run_checkKeyS, run_findKeyS _ _ _ hr', te.zero]
      | some p => simp [Instr.lookup, td.run, run_getObjM q1, run_checkKeyS, run_findKeyS _ _ _ hr']
    rcases findNow_spec (s := s) q2 0 with ⟨h1, h2, _⟩ | ⟨j, u, cv, h1, h2, h3, _⟩
    · exact ⟨_, by simp [execOp, e1, e2, hrun _ h1]; rfl, by rw [h2]; exact .tuple2 (.of_plain hz) (.bool _)⟩
    · exact ⟨_, by simp [execOp, e1, e2, hrun _ h1]; rfl, by rw [h2]; exact .tuple2 h3 (.bool _)⟩
/-- How many entries. -/
theorem op_lenMap {t kt et : TypeId} {x : Operand} {i clock : Nat} {l : KV} [td : TyD P t (.map kt et)] (hx : ρ x = .map (some i)) (hi : h.obj i = some (.map (ents l) clock)) (kk : K (.int .i64 (l.length : Nat)) h) :
    AOp P ⟨dst, .call ⟨.builtin .len, #[x], #[t]⟩, ty, pos, aft, g⟩ ρ h K :=
  .of_pure kk fun φ ac w r => by
    obtain ⟨_, e1⟩ := (hx ▸ r.ev x (by simp [Op.operands, Call.operands])).map_inv
    obtain ⟨cs, q1, q2⟩ := mapOf r.sim hi
    have hl : l.length = cs.size := by have := q2.to.1; simpa [ents] using this
    refine ⟨.int .i64 (l.length : Nat), ?_, .int _ _⟩
    have hrun : (Builtin.len_ #[t] ty #[.map (some (φ i).b)]).run P w = .ok (.int .i64 (l.length : Nat)) w := by
      simp [Builtin.len_, td.run, run_getObjM q1, hl, goInt]
    simp [execOp, resolve, invoke, builtin, e1, hrun]
/-- A map against nil. -/
theorem op_neMapNil {t t' kt et : TypeId} {x y : Operand} {m : Option Nat} [td : TyD P t (.map kt et)] (hx : ρ x = .map m) (hy : ρ y = .map none) (kk : K (.bool m.isSome) h) : AOp P ⟨dst, .binOp .neq t x y t', ty, pos, aft, g⟩ ρ h K :=
  .of_pure kk fun φ ac w r => by
    have h1 := hx ▸ r.ev x (by simp [Op.operands])
    have e2 := (hy ▸ r.ev y (by simp [Op.operands])).nilMap_inv
    have he : ∃ m' : Option Nat, ac.eval x = .map m' ∧ m'.isNone = !m.isSome := by
      cases m with
      | none => exact ⟨none, h1.nilMap_inv, rfl⟩
      | some i => exact ⟨_, h1.map_inv.2, rfl⟩
    obtain ⟨m', e1, e3⟩ := he
    refine ⟨.bool m.isSome, ?_, .bool _⟩
    simp [execOp, e1, e2, eqGuard, binOp, run_equal_map_nil (P := P) w t kt et m' td.eq, e3]
/-- An entry, laid or turned. -/
theorem op_mapUpdate {t kt et : TypeId} {x y v : Operand} {i clock : Nat} {u : Value} {s : List UInt8} {l : KV} [td : TyD P t (.map kt et)] [tk : TyD P kt .string] (hx : ρ x = .map (some i)) (hy : ρ y = .string (bstr s)) (hv : ρ v = u) (hi : h.obj i = some (.map (ents l) clock))
    (kk : K undef (h.setO i (.map (ents (putS l s u clock)) (if hasS l s then clock else clock + 1)))) : AOp P ⟨dst, .mapUpdate t x y v, ty, pos, aft, g⟩ ρ h K :=
  .of_skip fun φ ac w r => by
    obtain ⟨_, e1⟩ := (hx ▸ r.ev x (by simp [Op.operands])).map_inv
    have e2 := (hy ▸ r.ev y (by simp [Op.operands])).string_inv
    have hvr := hv ▸ r.ev v (by simp [Op.operands])
    obtain ⟨cs, q1, q2⟩ := mapOf r.sim hi
    have hlow := r.sim.lowO hi
    rcases findNow_spec (s := s) q2 0 with ⟨h1, h2, h3, h4, h5⟩ | ⟨j, u', cv, h1, h2, h3, h4, h6, ⟨d, d1, d2⟩, h7, h8⟩
    · rw [h5, h3] at kk
      obtain ⟨s1, s2⟩ := r.sim.setO hi (o' := .map (ents (l ++ [(s, u, clock)])) (clock + 1)) (.map (cs.push { key := .string (bstr s), val := ac.eval v, born := clock }) (clock + 1)) (w' := setBlock w (φ i).b (.map (cs.push { key := .string (bstr s), val := ac.eval v, born := clock }) (clock + 1)))
        (setBlock_heap hlow) (by simp [setBlock]) rfl rfl rfl (ORel.ofMap (cs := cs.push { key := .string (bstr s), val := ac.eval v, born := clock }) (by rw [setBlock_heap hlow, if_pos rfl]) (by rw [Array.toList_push]; exact q2.push hvr))
      refine ⟨_, φ, _, ?_, kk, s1, s2⟩
      have hrun : (Instr.mapUpdate t (.map (some (φ i).b)) (.string (bstr s)) (ac.eval v)).run P w = .ok () (setBlock w (φ i).b (.map (cs.push { key := .string (bstr s), val := ac.eval v, born := clock }) (clock + 1))) := by
        simp [Instr.mapUpdate, td.run, run_getObjM q1, run_checkKeyS, run_findKeyS _ _ _ h1, run_setObjB q1 (fun _ _ _ => by simp)]
      simp [execOp, e1, e2, hrun]
    · rw [h4] at kk
      simp only [if_true] at kk
      have hcsj : cs[j]? = some d := by simpa using d1
      obtain ⟨s1, s2⟩ := r.sim.setO hi (o' := .map (ents (putS l s u clock)) clock) (.map (cs.modify j fun e => { e with key := .string (bstr s), val := ac.eval v }) clock) (w' := setBlock w (φ i).b (.map (cs.modify j fun e => { e with key := .string (bstr s), val := ac.eval v }) clock))
        (setBlock_heap hlow) (by simp [setBlock]) rfl rfl rfl (ORel.ofMap (cs := cs.modify j fun e => { e with key := .string (bstr s), val := ac.eval v }) (by rw [setBlock_heap hlow, if_pos rfl]) (by rw [Array.toList_modify]; exact h8 u _ clock hvr))
      refine ⟨_, φ, _, ?_, kk, s1, s2⟩
      have hkey : (Instr.keyThatStays (.string (bstr s)) (.string (bstr s))).run P w = .ok (.string (bstr s)) w := by simp [Instr.keyThatStays, Instr.sameBits, bstr_beq]
      have hrun : (Instr.mapUpdate t (.map (some (φ i).b)) (.string (bstr s)) (ac.eval v)).run P w = .ok () (setBlock w (φ i).b (.map (cs.modify j fun e => { e with key := .string (bstr s), val := ac.eval v }) clock)) := by
        simp [Instr.mapUpdate, td.run, run_getObjM q1, run_checkKeyS, run_findKeyS _ _ _ h1, run_setObjB q1 (fun _ _ _ => by simp), hcsj, d2, hkey]
      simp [execOp, e1, e2, hrun]
end ops
end Go.Eng

/-
  The engine, part MapB: an entry struck; walks over maps and strings.
-/
namespace Go.Eng
open Go
open Go.ChangeMaps (setBlock)

section ops
variable {P : Program} {ρ : Operand → Value} {h : Heap} {K : Value → Heap → Prop} {dst : Option Tmp} {ty : TypeId} {pos : String} {aft : Array Edge} {g : Option (Nat × Bool)}
theorem ELs.born_mem {φ : Ren} {n : Nat} {l : KV} {cs : List MapEntry} (r : ELs φ n l cs) : ∀ c ∈ cs, ∃ e ∈ l, c.key = .string (bstr e.1) ∧ VRel φ n e.2.1 c.val ∧ c.born = e.2.2 := by
  induction r with
  | nil => intro c hc; cases hc
  | @cons k v b l c cs hk hv hb t ih =>
    intro d hd
    rcases List.mem_cons.1 hd with rfl | hd
    · exact ⟨(k, v, b), by simp, hk, hv, hb⟩
    · obtain ⟨e, h1, h2⟩ := ih d hd
      exact ⟨e, by simp [h1], h2⟩
theorem ELs.mem_born {φ : Ren} {n : Nat} {l : KV} {cs : List MapEntry} (r : ELs φ n l cs) : ∀ e ∈ l, ∃ c ∈ cs, c.key = .string (bstr e.1) ∧ VRel φ n e.2.1 c.val ∧ c.born = e.2.2 := by
  induction r with
  | nil => intro c hc; cases hc
  | @cons k v b l c cs hk hv hb t ih =>
    intro d hd
    rcases List.mem_cons.1 hd with rfl | hd
    · exact ⟨c, by simp, hk, hv, hb⟩
    · obtain ⟨e, h1, h2⟩ := ih d hd
      exact ⟨e, by simp [h1], h2⟩
theorem ELs.borns {φ : Ren} {n : Nat} {l : KV} {cs : List MapEntry} (r : ELs φ n l cs) : cs.map (·.born) = l.map (·.2.2) := by
  induction r with
  | nil => rfl
  | cons hk hv hb t ih => simp [hb, ih]
/-- An entry struck. -/
theorem op_delete {t kt et kt' : TypeId} {x y : Operand} {i clock : Nat} {s : List UInt8} {l : KV} [td : TyD P t (.map kt et)] [tk : TyD P kt .string] (hx : ρ x = .map (some i)) (hy : ρ y = .string (bstr s)) (hi : h.obj i = some (.map (ents l) clock))
    (kk : K (.tuple #[]) (h.setO i (.map (ents (delS l s)) clock))) : AOp P ⟨dst, .call ⟨.builtin .delete, #[x, y], #[t, kt']⟩, ty, pos, aft, g⟩ ρ h K :=
  .of_run fun φ ac w r => by
    obtain ⟨_, e1⟩ := (hx ▸ r.ev x (by simp [Op.operands, Call.operands])).map_inv
    have e2 := (hy ▸ r.ev y (by simp [Op.operands, Call.operands])).string_inv
    obtain ⟨cs, q1, q2⟩ := mapOf r.sim hi
    have hlow := r.sim.lowO hi
    have fin : ∀ cs' : Array MapEntry, ELs φ h.next (delS l s) cs'.toList → (Builtin.delete_ #[t, kt'] ty #[.map (some (φ i).b), .string (bstr s)]).run P w = .ok (.tuple #[]) (setBlock w (φ i).b (.map cs' clock)) →
        ∃ c w' φ' h' v, (execOp ac.eval ⟨dst, .call ⟨.builtin .delete, #[x, y], #[t, kt']⟩, ty, pos, aft, g⟩).run P w = .ok (.value c) w' ∧ K v h' ∧ VRel φ' h'.next v c ∧ Sim P φ' h' w' ∧ Step φ h w φ' h' w' := by
      intro cs' hE hrun
      obtain ⟨s1, s2⟩ := r.sim.setO hi (o' := .map (ents (delS l s)) clock) (.map cs' clock) (w' := setBlock w (φ i).b (.map cs' clock)) (setBlock_heap hlow) (by simp [setBlock]) rfl rfl rfl (ORel.ofMap (cs := cs') (by rw [setBlock_heap hlow, if_pos rfl]) hE)
      exact ⟨.tuple #[], _, φ, _, .tuple #[], by simp [execOp, resolve, invoke, builtin, e1, e2, hrun], kk, .und _, s1, s2⟩
    rcases findNow_spec (s := s) q2 0 with ⟨h1, h2, h3, h4, h5⟩ | ⟨j, u', cv, h1, h2, h3, h4, h6, ⟨d, d1, d2⟩, h7, h8⟩
    · refine fin cs (by rw [h4]; exact q2) ?_
      simp [Builtin.delete_, td.run, run_getObjM q1, run_checkKeyS, run_findKeyS _ _ _ h1, run_setObjB q1 (fun _ _ _ => by simp)]
    · refine fin (cs.eraseIdxIfInBounds j) ?_ ?_
      · have he : (cs.eraseIdxIfInBounds j).toList = cs.toList.eraseIdx j := by
          rw [Array.eraseIdxIfInBounds]
          split
          · simp
          · rename_i hn
            exact absurd (by simpa using h6) hn
        rw [he]
        exact h7
      · simp [Builtin.delete_, td.run, run_getObjM q1, run_checkKeyS, run_findKeyS _ _ _ h1, run_setObjB q1 (fun _ _ _ => by simp)]
/-- A walk over a map begins. -/
theorem op_rangeMap {t kt et : TypeId} {x : Operand} {i clock : Nat} {l : KV} [td : TyD P t (.map kt et)] (hx : ρ x = .map (some i)) (hi : h.obj i = some (.map (ents l) clock))
    (kk : K (.pointer (some ⟨h.next, 0, none⟩)) (h.allocO (.mapIter (some i) clock [] clock))) : AOp P ⟨dst, .range t x, ty, pos, aft, g⟩ ρ h K :=
  .of_run fun φ ac w r => by
    obtain ⟨hil, e1⟩ := (hx ▸ r.ev x (by simp [Op.operands])).map_inv
    obtain ⟨cs, q1, q2⟩ := mapOf r.sim hi
    have hri : (Ren.put φ h.next ⟨w.heap.size, 0, 0⟩ i).b = (φ i).b := by rw [Ren.put_lt i hil]
    obtain ⟨s1, s2⟩ := r.sim.allocO (.mapIter (some i) clock [] clock) (.mapIter (some (φ i).b) clock #[] clock) ⟨by
      rw [Ren.put_at, Option.map_some, hri]
      exact (heap_push w _ _).trans (if_pos rfl), by rw [Ren.put_at], fun j hj => by cases hj; omega⟩
    refine ⟨.pointer (some ⟨w.heap.size, 0, none⟩), w.alloc (.mapIter (some (φ i).b) clock #[] clock), _, _, _, ?_, kk, ?_, s1, s2⟩
    · have := run_range_map (P := P) w t kt et (φ i).b cs clock td.eq q1
      simp [execOp, e1, this]
    · have := VRel.ptr (φ := Ren.put φ h.next ⟨w.heap.size, 0, 0⟩) (n := h.next + 1) h.next 0 (by omega)
      rw [Ren.put_at] at this
      exact this
theorem iterOf {φ : Ren} {w : World} {it : Nat} {m : Option Nat} {since c0 : Nat} {seen : List Nat} (s : Sim P φ h w) (hi : h.obj it = some (.mapIter m since seen c0)) :
    w.heap[(φ it).b]? = some (.mapIter (m.map fun j => (φ j).b) since seen.toArray c0) ∧ (φ it).o = 0 ∧ ∀ j, m = some j → j < h.next := s.objs it _ hi
/-- A walk's step: nothing is left, or any of what is left. -/
theorem op_nextMap {x : Operand} {it m since c0 clock : Nat} {sp : Option Nat} {seen : List Nat} {l : KV} (hx : ρ x = .pointer (some ⟨it, 0, sp⟩)) (hit : h.obj it = some (.mapIter (some m) since seen c0)) (hm : h.obj m = some (.map (ents l) clock))
    (hold : ∀ e ∈ l, e.2.2 < since) (hsc : since ≤ c0) (kend : (∀ e ∈ l, e.2.2 ∈ seen) → K (.tuple #[.bool false]) h)
    (kk : ∀ e ∈ l, e.2.2 ∉ seen → K (.tuple #[.bool true, .string (bstr e.1), e.2.1]) (h.setO it (.mapIter (some m) since (seen ++ [e.2.2]) clock))) : AOp P ⟨dst, .next x false, ty, pos, aft, g⟩ ρ h K :=
  .of_run fun φ ac w r => by
    obtain ⟨_, hil, e1⟩ := (hx ▸ r.ev x (by simp [Op.operands])).ptr_inv
    obtain ⟨q1, q0, qm⟩ := iterOf r.sim hit
    obtain ⟨cs, p1, p2⟩ := mapOf r.sim hm
    rw [q0] at e1
    have hold' : ∀ c ∈ cs.toList, c.born < since := by
      intro c hc
      obtain ⟨e, he, _, _, hb⟩ := p2.born_mem c hc
      rw [hb]
      exact hold e he
    rcases run_next_at (P := P) w ty (φ it).b (φ m).b since c0 seen.toArray cs clock q1 p1 hold' hsc with ⟨hz, hrun⟩ | ⟨c, hc, w1, hw1, hrun⟩
    · refine ⟨.tuple #[.bool false], w, φ, h, .tuple #[.bool false], by simp [execOp, e1, hrun], kend ?_, .tuple _ _ rfl (fun k a b ha hb => by rw [ha] at hb; cases hb; exact .of_scalar (by cases k <;> simp at ha; subst ha; rfl)), r.sim, Step.refl _ _ _⟩
      intro e he
      obtain ⟨c, hc, _, _, hb⟩ := p2.mem_born e he
      have := all_seen cs seen.toArray hz c hc
      rw [hb] at this
      simpa using this
    · obtain ⟨hc1, hc2⟩ := mem_left hc
      obtain ⟨e, he, hk, hv, hb⟩ := p2.born_mem c hc1
      have hns : e.2.2 ∉ seen := by
        intro hs
        rw [hb] at hc2
        simp at hc2
        exact hc2 hs
      have hsim : Sim P φ h w1 ∧ Step φ h w φ h w1 := by
        rcases hw1 with rfl | rfl
        · exact ⟨r.sim, Step.refl _ _ _⟩
        · exact ⟨r.sim.drew, Step.drew⟩
      have hlow := hsim.1.lowO hit
      obtain ⟨s1, s2⟩ := hsim.1.setO hit (o' := .mapIter (some m) since (seen ++ [e.2.2]) clock) (.mapIter (some (φ m).b) since (seen.toArray.push c.born) clock) (w' := setBlock w1 (φ it).b (.mapIter (some (φ m).b) since (seen.toArray.push c.born) clock))
        (setBlock_heap hlow) (by simp [setBlock]) rfl rfl rfl ⟨by rw [setBlock_heap hlow, if_pos rfl, hb]; simp, q0, qm⟩
      refine ⟨_, _, φ, _, _, by simp [execOp, e1, hrun]; rfl, kk e he hns, ?_, s1, hsim.2.trans s2⟩
      refine .tuple _ _ rfl fun k a b ha hb' => ?_
      match k with
      | 0 => simp at ha hb'; subst ha hb'; exact .bool _
      | 1 => simp at ha hb'; subst ha hb'; rw [hk]; exact .string _
      | 2 => simp at ha hb'; subst ha hb'; exact hv
      | k + 3 => simp at ha
/-- The entry of a walk's last step. -/
theorem op_entryMap {x : Operand} {it m since clock b : Nat} {sp : Option Nat} {seen : List Nat} {l : KV} {e : List UInt8 × Value × Nat} (hx : ρ x = .pointer (some ⟨it, 0, sp⟩)) (hit : h.obj it = some (.mapIter (some m) since (seen ++ [b]) clock)) (hm : h.obj m = some (.map (ents l) clock))
    (he : e ∈ l) (hb : e.2.2 = b) (hn : (l.map (·.2.2)).Nodup) (kk : K (.tuple #[.string (bstr e.1), e.2.1]) h) : AOp P ⟨dst, .entry x, ty, pos, aft, g⟩ ρ h K :=
  .of_pure kk fun φ ac w r => by
    obtain ⟨_, hil, e1⟩ := (hx ▸ r.ev x (by simp [Op.operands])).ptr_inv
    obtain ⟨q1, q0, qm⟩ := iterOf r.sim hit
    obtain ⟨cs, p1, p2⟩ := mapOf r.sim hm
    rw [q0] at e1
    obtain ⟨c, hc, hk, hv, hcb⟩ := p2.mem_born e he
    have q1' : w.heap[(φ it).b]? = some (.mapIter (some (φ m).b) since (seen.toArray.push c.born) clock) := by rw [q1, hcb, hb]; simp
    have hrun := run_entry_at (P := P) w (φ it).b (φ m).b since seen.toArray cs clock c q1' p1 hc (by rw [p2.borns]; exact hn)
    refine ⟨.tuple #[c.key, c.val], by simp [execOp, e1, hrun], ?_⟩
    rw [hk]
    exact .tuple2 (.string _) hv
/-- A walk over a string begins. -/
theorem op_rangeStr {t : TypeId} {x : Operand} {s : List UInt8} [td : TyD P t .string] (hx : ρ x = .string (bstr s)) (kk : K (.pointer (some ⟨h.next, 0, none⟩)) (h.allocO (.strIter (bstr s) 0))) : AOp P ⟨dst, .range t x, ty, pos, aft, g⟩ ρ h K :=
  .of_run fun φ ac w r => by
    have e1 := (hx ▸ r.ev x (by simp [Op.operands])).string_inv
    obtain ⟨s1, s2⟩ := r.sim.allocO (.strIter (bstr s) 0) (.stringIter (bstr s) 0) ⟨by rw [Ren.put_at]; exact (heap_push w _ _).trans (if_pos rfl), by rw [Ren.put_at]⟩
    refine ⟨.pointer (some ⟨w.heap.size, 0, none⟩), w.alloc (.stringIter (bstr s) 0), _, _, _, ?_, kk, ?_, s1, s2⟩
    · simp [execOp, e1, Instr.range, td.run]
    · have := VRel.ptr (φ := Ren.put φ h.next ⟨w.heap.size, 0, 0⟩) (n := h.next + 1) h.next 0 (by omega)
      rw [Ren.put_at] at this
      exact this
theorem op_nextStr {x : Operand} {it p : Nat} {sp : Option Nat} {s : List UInt8} (hx : ρ x = .pointer (some ⟨it, 0, sp⟩)) (hit : h.obj it = some (.strIter (bstr s) p))
    (kend : s.length ≤ p → K (.tuple #[.bool false]) h)
    (kk : ∀ (b : UInt8) (c d : Nat), s[p]? = some b → (b.toNat < 128 → c = b.toNat ∧ d = 1) → (128 ≤ b.toNat → 128 ≤ c ∧ 1 ≤ d) → c ≤ 2147483647 → K (.tuple #[.bool true, .int .i64 (p : Nat), .int .i32 (c : Nat)]) (h.setO it (.strIter (bstr s) (p + d)))) : AOp P ⟨dst, .next x true, ty, pos, aft, g⟩ ρ h K :=
  .of_run fun φ ac w r => by
    obtain ⟨_, hil, e1⟩ := (hx ▸ r.ev x (by simp [Op.operands])).ptr_inv
    obtain ⟨q1, q0⟩ : w.heap[(φ it).b]? = some (.stringIter (bstr s) p) ∧ (φ it).o = 0 := r.sim.objs it _ hit
    rw [q0] at e1
    have hsz : (bstr s).size = s.length := by simp [bstr, ByteArray.size]
    by_cases hp : p < (bstr s).size
    · have hrun := Lib.run_next_any_at (P := P) w (φ it).b (bstr s) p ty q1 hp
      have hlow := r.sim.lowO hit
      obtain ⟨s1, s2⟩ := r.sim.setO hit (o' := .strIter (bstr s) (p + (Utf8.decode (bstr s) p).2)) (.stringIter (bstr s) (p + (Utf8.decode (bstr s) p).2)) (w' := w.iterAt (φ it).b (bstr s) (p + (Utf8.decode (bstr s) p).2))
        (fun k => setBlock_heap (o := .stringIter (bstr s) (p + (Utf8.decode (bstr s) p).2)) hlow k) (by simp [World.iterAt]) rfl rfl rfl ⟨by rw [show (w.iterAt (φ it).b (bstr s) (p + (Utf8.decode (bstr s) p).2)).heap[(φ it).b]? = _ from setBlock_heap (o := .stringIter (bstr s) (p + (Utf8.decode (bstr s) p).2)) hlow (φ it).b, if_pos rfl], q0⟩
      have hb : s[p]? = some ((bstr s)[p]'hp) := by
        rw [List.getElem?_eq_getElem (by omega)]
        rfl
      refine ⟨_, _, φ, _, _, by simp [execOp, e1, hrun]; rfl, kk _ (Utf8.decode (bstr s) p).1 (Utf8.decode (bstr s) p).2 hb (fun ha => by rw [decode_ascii _ _ hp ha]; exact ⟨rfl, rfl⟩) (fun ha => decode_high _ _ hp ha) (decode_le _ _), ?_, s1, s2⟩
      refine .tuple _ _ rfl fun k a b ha hb' => ?_
      rw [ha] at hb'
      cases hb'
      match k with
      | 0 => simp at ha; subst ha; exact .bool _
      | 1 => simp at ha; subst ha; exact .int _ _
      | 2 => simp at ha; subst ha; exact .int _ _
      | k + 3 => simp at ha
    · have hrun := Lib.run_next_end_at (P := P) w (φ it).b (bstr s) p ty q1 hp
      exact ⟨.tuple #[.bool false], w, φ, h, .tuple #[.bool false], by simp [execOp, e1, hrun], kend (by omega), .tuple _ _ rfl (fun k a b ha hb => by rw [ha] at hb; cases hb; exact .of_scalar (by cases k <;> simp at ha; subst ha; rfl)), r.sim, Step.refl _ _ _⟩
end ops
end Go.Eng

/-
  The engine, part Z: pointers against nil; strings of bytes, by their lists.
-/
namespace Go.Eng
open Go

section
variable {P : Program} {ρ : Operand → Value} {h : Heap} {K : Value → Heap → Prop} {dst : Option Tmp} {ty : TypeId} {pos : String} {aft : Array Edge} {g : Option (Nat × Bool)}
theorem run_equalIn_ptrNil {t e : TypeId} [ti : TyD P t (.pointer e)] (p : Option Addr) (w : World) (d : Nat) : (Op.equalIn (d + 1) t (.pointer p) (.pointer none)).run P w = .ok p.isNone w := by
  cases p <;> simp [Op.equalIn, ti.run]
/-- A pointer against nil. -/
theorem op_nePtrNil {t t' e : TypeId} {x y : Operand} {m : Option Addr} [td : TyD P t (.pointer e)] (hx : ρ x = .pointer m) (hy : ρ y = .pointer none) (kk : K (.bool m.isSome) h) : AOp P ⟨dst, .binOp .neq t x y t', ty, pos, aft, g⟩ ρ h K :=
  .of_pure kk fun φ ac w r => by
    have h1 := hx ▸ r.ev x (by simp [Op.operands])
    have e2 := (hy ▸ r.ev y (by simp [Op.operands])).nilPtr_inv
    have he : ∃ m' : Option Addr, ac.eval x = .pointer m' ∧ m'.isNone = !m.isSome := by
      cases m with
      | none => exact ⟨none, h1.nilPtr_inv, rfl⟩
      | some a => obtain ⟨i, o, s⟩ := a; exact ⟨_, h1.ptr_inv.2.2, rfl⟩
    obtain ⟨m', e1, e3⟩ := he
    have e4 : (Op.equal t (.pointer m') (.pointer none)).run P w = .ok m'.isNone w := run_equalIn_ptrNil m' w 9999
    exact ⟨.bool m.isSome, by simp [execOp, e1, e2, eqGuard, binOp, e4, e3], .bool _⟩
theorem op_eqPtrNil {t t' e : TypeId} {x y : Operand} {m : Option Addr} [td : TyD P t (.pointer e)] (hx : ρ x = .pointer m) (hy : ρ y = .pointer none) (kk : K (.bool m.isNone) h) : AOp P ⟨dst, .binOp .eql t x y t', ty, pos, aft, g⟩ ρ h K :=
  .of_pure kk fun φ ac w r => by
    have h1 := hx ▸ r.ev x (by simp [Op.operands])
    have e2 := (hy ▸ r.ev y (by simp [Op.operands])).nilPtr_inv
    have he : ∃ m' : Option Addr, ac.eval x = .pointer m' ∧ m'.isNone = m.isNone := by
      cases m with
      | none => exact ⟨none, h1.nilPtr_inv, rfl⟩
      | some a => obtain ⟨i, o, s⟩ := a; exact ⟨_, h1.ptr_inv.2.2, rfl⟩
    obtain ⟨m', e1, e3⟩ := he
    have e4 : (Op.equal t (.pointer m') (.pointer none)).run P w = .ok m'.isNone w := run_equalIn_ptrNil m' w 9999
    exact ⟨.bool m.isNone, by simp [execOp, e1, e2, eqGuard, binOp, e4, e3], .bool _⟩
theorem bstr_size (l : List UInt8) : (bstr l).size = l.length := by simp [bstr, ByteArray.size]
theorem op_lenSB {x : Operand} {t : TypeId} {l : List UInt8} [td : TyD P t .string] (hx : ρ x = .string (bstr l)) (kk : K (.int .i64 (l.length : Nat)) h) : AOp P ⟨dst, .call ⟨.builtin .len, #[x], #[t]⟩, ty, pos, aft, g⟩ ρ h K :=
  op_lenStr hx (by rw [bstr_size]; exact kk)
/-- A closed string against one. -/
theorem op_sEqC {t t' : TypeId} {x y : Operand} {a : List UInt8} (b : List UInt8) {c : ByteArray} (hb : bstr b = c) (hx : ρ x = .string (bstr a)) (hy : ρ y = .string c) (kk : K (.bool (a == b)) h) : AOp P ⟨dst, .binOp .eql t x y t', ty, pos, aft, g⟩ ρ h K :=
  op_sEq hx (hb ▸ hy) kk
theorem op_sLss {t t' : TypeId} {x y : Operand} {a b : List UInt8} (hx : ρ x = .string (bstr a)) (hy : ρ y = .string (bstr b)) (kk : K (.bool (Op.bytesLess a b)) h) : AOp P ⟨dst, .binOp .lss t x y t', ty, pos, aft, g⟩ ρ h K :=
  op_strB hx hy (c := Op.bytesLess a b) (by simp only [strB, bstr_toList]) kk
end
/-- A field's place. -/
class FAd (P : Program) (t : TypeId) (f : Nat) (off : outParam Nat) : Prop where
  ex : ∃ fs fld sz by_ z, P.underlying t = some (.struct fs) ∧ fs[f]? = some fld ∧ TyI P fld.type sz by_ z ∧ (sz == 0) = false ∧ fld.offset = off
theorem FAd.mk' {P : Program} {t ft : TypeId} {f off sz by_ : Nat} {z : Value} {fs : Array Field} {fld : Field} (hd : P.underlying t = some (.struct fs)) (hf : fs[f]? = some fld) [ti : TyI P ft sz by_ z] (ht : fld.type = ft) (hz : (sz == 0) = false) (ho : fld.offset = off) : FAd P t f off :=
  ⟨fs, fld, sz, by_, z, hd, hf, ht ▸ ti, hz, ho⟩
section
variable {P : Program} {ρ : Operand → Value} {h : Heap} {K : Value → Heap → Prop} {dst : Option Tmp} {ty : TypeId} {pos : String} {aft : Array Edge} {g : Option (Nat × Bool)}
theorem op_fa {t : TypeId} {x : Operand} {f i o off : Nat} {s : Option Nat} [fa : FAd P t f off] (hx : ρ x = .pointer (some ⟨i, o, s⟩)) (kk : K (.pointer (some ⟨i, o + off, none⟩)) h) : AOp P ⟨dst, .fieldAddr t x f, ty, pos, aft, g⟩ ρ h K := by
  obtain ⟨fs, fld, sz, by_, z, h1, h2, h3, h4, rfl⟩ := fa.ex
  haveI : TyD P t (.struct fs) := ⟨h1⟩
  haveI := h3
  exact op_fieldAddr h2 h4 hx kk
end
/-- A struct's places. -/
class StD (P : Program) (t : TypeId) (places : outParam (List (Nat × Nat))) : Prop where
  ex : ∃ fs : List Field, P.underlying t = some (.struct fs.toArray) ∧ fs.map (fun f => (P.info? f.type).map fun i => (f.offset, i.size)) = places.map some
theorem mapM_fields {P : Program} : ∀ {fs : List Field} {places : List (Nat × Nat)}, fs.map (fun f => (P.info? f.type).map fun i => (f.offset, i.size)) = places.map some → ∀ w : World, (fs.mapM fun f => (do pure (f.offset, ← sizeOf f.type) : Sem (Nat × Nat))).run P w = .ok places w
  | [], [], _, w => by simp
  | [], _ :: _, h, _ => by simp at h
  | _ :: _, [], h, _ => by simp at h
  | f :: fs, p :: places, h, w => by
    simp only [List.map_cons, List.cons.injEq] at h
    obtain ⟨h1, h2⟩ := h
    have ih := mapM_fields h2 w
    cases hi : P.info? f.type with
    | none => rw [hi] at h1; cases h1
    | some i =>
      rw [hi] at h1
      simp only [Option.map_some, Option.some.injEq] at h1
      have hs : (sizeOf f.type).run P w = .ok i.size w := by simp [sizeOf, typeInfo, hi]
      rw [List.mapM_cons]
      simp only [Sem.run_bind, hs, Result.andThen_ok, Sem.run_pure, h1, ih]
def nuB : Value → Bool
  | .tuple _ => false
  | _ => true
theorem nuB_ne {v : Value} (h : nuB v = true) : v ≠ undef := by
  rintro rfl; cases h
section
variable {P : Program} {ρ : Operand → Value} {h : Heap} {K : Value → Heap → Prop} {dst : Option Tmp} {ty : TypeId} {pos : String} {aft : Array Edge} {g : Option (Nat × Bool)}
/-- A struct's literal. -/
theorem op_buildS {t sz by_ : Nat} {z : Value} {parts : Array (Nat × Operand)} {places : List (Nat × Nat)} {out : List Value} [st : StD P t places] [ti : TyI P t sz by_ z]
    (hu : (parts.toList.all fun p => nuB (ρ p.2)) = true) (hf : fillA (places[·]?) z.cells.toList (parts.toList.map fun p => (p.1, ρ p.2)) = some out) (kk : K (.agg out.toArray) h) : AOp P ⟨dst, .build t parts, ty, pos, aft, g⟩ ρ h K := by
  obtain ⟨fs, h1, h2⟩ := st.ex
  haveI : TyD P t (.struct fs.toArray) := ⟨h1⟩
  refine op_build (fs := fs.toArray) (places := places) (fun w => ?_) (fun p hp => nuB_ne (List.all_eq_true.1 hu p hp)) hf kk
  rw [List.mapM_toArray]
  simp only [Sem.run_map, mapM_fields h2 w]
  rfl
end
/-! A call that leaves behind just what is told: the rest is let go. -/
def OBdd (n : Nat) : AObj → Prop
  | .map es _ => ∀ e ∈ es, Bdd n e.key ∧ Bdd n e.val
  | .mapIter m _ _ _ => ∀ j, m = some j → j < n
  | .strIter _ _ => True
section
variable {P : Program} {φ φ' : Ren} {h h' ht : Heap} {w w' : World}
theorem Sim.bdd (s : Sim P φ h w) {i : Nat} {b : Blk} (hi : h.get i = some b) : ∀ v ∈ b.cells, Bdd h.next v := by
  intro v hv
  obtain ⟨k, hk⟩ := List.getElem?_of_mem hv
  obtain ⟨c, _, hr⟩ := s.cell hi hk
  exact ⟨φ, c, hr⟩
theorem Sim.obdd (s : Sim P φ h w) {i : Nat} {o : AObj} (hi : h.obj i = some o) : OBdd h.next o := by
  have r := s.objs i o hi
  cases o with
  | map es clock =>
    obtain ⟨cs, _, h2, h3⟩ := r
    intro e he
    obtain ⟨k, hk⟩ := List.getElem?_of_mem he
    have hkl : k < cs.size := by rw [← h2]; exact (List.getElem?_eq_some_iff.1 hk).1
    obtain ⟨q1, q2, _⟩ := h3 k e _ hk (Array.getElem?_eq_getElem hkl)
    exact ⟨⟨φ, _, q1⟩, ⟨φ, _, q2⟩⟩
  | mapIter m since seen stepped => exact r.2.2
  | strIter st pos => trivial
theorem Sim.resetTo (s0 : Sim P φ h w) (s : Sim P φ' h' w') (hn : ht.next = h.next) (wft : WF ht) (hx : Ext ht h') (hb : ∀ i b, ht.get i = some b → h.get i = some b ∨ ∀ v ∈ b.cells, Bdd h.next v) (hbo : ∀ i o, ht.obj i = some o → h.obj i = some o ∨ OBdd h.next o) : Sim P φ' ht w' where
  next := wft
  blk i b hi := by
    have hbd : ∀ v ∈ b.cells, Bdd h.next v := (hb i b hi).elim (fun e => s0.bdd e) id
    have r := s.blk i b (hx.c i b hi)
    unfold BRel at r ⊢
    rw [hn]
    by_cases ho : b.own = true
    · simp only [ho, if_true] at r ⊢
      obtain ⟨arr, fr, h1, h2, h3, h4, h5⟩ := r
      refine ⟨arr, fr, h1, h2, h3, h4, fun k v hk => ?_⟩
      obtain ⟨c, hc, hv⟩ := h5 k v hk
      obtain ⟨φ0, c0, hv0⟩ := hbd v (List.mem_of_getElem? hk)
      exact ⟨c, hc, hv.lower hv0⟩
    · simp only [ho, if_false, Bool.false_eq_true] at r ⊢
      intro k v hk
      obtain ⟨c, hc, hv⟩ := r k v hk
      obtain ⟨φ0, c0, hv0⟩ := hbd v (List.mem_of_getElem? hk)
      exact ⟨c, hc, hv.lower hv0⟩
  low i b hi := s.low i b (hx.c i b hi)
  apart i j b hi ho hj he := by
    cases hxj : ht.get j with
    | none => exact absurd hxj hj
    | some bj => exact s.apart i j b (hx.c i b hi) ho (by rw [hx.c j bj hxj]; simp) he
  glob g hg := ⟨(s.glob g hg).1, by rw [hn]; exact (s0.glob g hg).2⟩
  objs i o hi := by
    have hbd : OBdd h.next o := (hbo i o hi).elim (fun e => s0.obdd e) id
    have r := s.objs i o (hx.o i o hi)
    rw [hn]
    cases o with
    | map es clock =>
      obtain ⟨cs, h1, h2, h3⟩ := r
      refine ⟨cs, h1, h2, fun k e c he hc => ?_⟩
      obtain ⟨q1, q2, q3⟩ := h3 k e c he hc
      obtain ⟨⟨_, _, b1⟩, ⟨_, _, b2⟩⟩ := hbd e (List.mem_of_getElem? he)
      exact ⟨q1.lower b1, q2.lower b2, q3⟩
    | mapIter m since seen stepped => exact ⟨r.1, r.2.1, hbd⟩
    | strIter st pos => exact r
  apartO i j o hi hj he := by
    cases hxj : ht.obj j with
    | none => exact absurd hxj hj
    | some oj => exact s.apartO i j o (hx.o i o hi) (by rw [hx.o j oj hxj]; simp) he
theorem Step.resetTo (t : Step φ h w φ' h' w') (hn : ht.next = h.next) (hx : Ext ht h') : Step φ h w φ' ht w' where
  next := by omega
  agree := t.agree
  os := t.os
  tape := t.tape
  output := t.output
  size := t.size
  frame := t.frame
  own k hk := t.own k (by
    rcases hk with ⟨i, b, h1, h2, h3⟩ | ⟨i, o, h1, h3⟩
    · exact .inl ⟨i, b, hx.c i b h1, h2, h3⟩
    · exact .inr ⟨i, o, hx.o i o h1, h3⟩)
theorem ACalls.resetTo {f : FuncId} {args : List Value} {Q : Value → Heap → Prop} (p : ACalls P f args h fun v h' => Bdd h.next v ∧ ∃ ht, ht.next = h.next ∧ WF ht ∧ Ext ht h' ∧ (∀ i b, ht.get i = some b → h.get i = some b ∨ ∀ v ∈ b.cells, Bdd h.next v) ∧ (∀ i o, ht.obj i = some o → h.obj i = some o ∨ OBdd h.next o) ∧ Q v ht) :
    ACalls P f args h Q :=
  fun φ w cargs s va => (p φ w cargs s va).mono fun e w' hr => by
    cases e with
    | returned c =>
      obtain ⟨v, h', φ', ⟨⟨φ0, c0, hb⟩, ht, hn, wft, hx, q1, q2, q⟩, r1, r2, r3⟩ := hr
      exact ⟨v, ht, φ', q, by rw [hn]; exact r1.lower hb, s.resetTo r2 hn wft hx q1 q2, r3.resetTo hn hx⟩
    | _ => exact hr
end
/-- A row of strings. -/
def sv (ll : List (List UInt8)) : List Value := ll.map fun s => .string (bstr s)
theorem sv_length (ll : List (List UInt8)) : (sv ll).length = ll.length := by simp [sv]
theorem sv_get {ll : List (List UInt8)} {k : Nat} {s : List UInt8} (h : ll[k]? = some s) : (sv ll)[k]? = some (.string (bstr s)) := by simp [sv, h]
theorem sv_append (a b : List (List UInt8)) : sv (a ++ b) = sv a ++ sv b := by simp [sv]
end Go.Eng

/-
  The engine, part O: an argument that is a slice of slices of integers.
-/
namespace Go.Eng
open Go

/-- A slice of rows that came in. -/
def IsRows (k : IntKind) (W : World) (a : Option Addr) (len cap : Nat) (A : Nat → Option Addr) (L C : Nat → Nat) (Z : Nat → List Int) : Prop :=
  (a = none ∧ len = 0 ∧ cap = 0) ∨
  ∃ x, a = some x ∧ len ≤ cap ∧ cap ≤ maxLen ∧ ∀ r, r < cap → W.cell? (x.add r) = some (.slice (A r) (L r) (C r)) ∧ IsRow k W (A r) (L r) (C r) (Z r)

section
variable {k : IntKind} {W : World} {a : Option Addr} {len cap : Nat} {A : Nat → Option Addr} {L C : Nat → Nat} {Z : Nat → List Int} {G : Nat} {bs : List RoB} {j0 j1 : Nat}
/-- The outer row's cells. -/
def outer (G j1 : Nat) (len : Nat) (A : Nat → Option Addr) (L C : Nat → Nat) : List Value := (List.range len).map fun r => absS (A r) (G + (j1 + r)) (L r) (C r)
/-- The inner rows' blocks. -/
def inner (k : IntKind) (len : Nat) (A : Nat → Option Addr) (L C : Nat → Nat) (Z : Nat → List Int) : List RoB := (List.range len).map fun r => ⟨iv k ((Z r).take (L r)), atOf (A r) (C r)⟩
theorem outer_length : (outer G j1 len A L C).length = len := by simp [outer]
theorem outer_get {r : Nat} {v : Value} (h : (outer G j1 len A L C)[r]? = some v) : r < len ∧ v = absS (A r) (G + (j1 + r)) (L r) (C r) := by
  have hr := (List.getElem?_eq_some_iff.1 h).1
  rw [outer_length] at hr
  simp only [outer, List.getElem?_map, List.getElem?_range hr, Option.map_some, Option.some.injEq] at h
  exact ⟨hr, h.symm⟩
theorem inner_get {r : Nat} (h : r < len) : (inner k len A L C Z)[r]? = some ⟨iv k ((Z r).take (L r)), atOf (A r) (C r)⟩ := by
  simp [inner, h]
theorem IsRows.len_le (q : IsRows k W a len cap A L C Z) : len ≤ cap ∧ cap ≤ maxLen := by
  rcases q with ⟨rfl, rfl, rfl⟩ | ⟨x, rfl, h1, h2, _⟩
  · simp [maxLen]
  · exact ⟨h1, h2⟩
theorem IsRows.row (q : IsRows k W a len cap A L C Z) {r : Nat} (hr : r < len) : IsRow k W (A r) (L r) (C r) (Z r) := by
  rcases q with ⟨rfl, rfl, rfl⟩ | ⟨x, rfl, h1, h2, h3⟩
  · omega
  · exact (h3 r (by omega)).2
theorem spot_of {x : Addr} {v : Value} (h0 : W.cell? (x.add 0) = some v) : x.spot = none := by
  have : x.add 0 = x := by simp [Addr.add]
  rw [this] at h0
  cases hs : x.spot with
  | none => rfl
  | some s =>
    exfalso
    unfold World.cell? at h0
    split at h0
    · simp [hs] at h0
    · cases h0
theorem IsRows.rob (q : IsRows k W a len cap A L C Z) (hb : ∀ r, r < len → bs[j1 + r]? = some ⟨iv k ((Z r).take (L r)), atOf (A r) (C r)⟩) :
    (atOf a cap).spot = none ∧ ∀ (m : Nat) v, (outer G j1 len A L C)[m]? = some v → ∃ c, W.cell? ((atOf a cap).add m) = some c ∧ VRel (roRen G bs) (G + bs.length) v c := by
  rcases q with ⟨rfl, rfl, rfl⟩ | ⟨x, rfl, h1, h2, h3⟩
  · exact ⟨rfl, fun m v hm => by simp [outer] at hm⟩
  · by_cases hc : cap = 0
    · have : len = 0 := by omega
      subst this
      exact ⟨by simp [atOf, hc], fun m v hm => by simp [outer] at hm⟩
    · have hx : atOf (some x) cap = x := by simp [atOf, hc]
      rw [hx]
      refine ⟨spot_of (h3 0 (by omega)).1, fun m v hm => ?_⟩
      obtain ⟨hml, rfl⟩ := outer_get hm
      exact ⟨_, (h3 m (by omega)).1, (h3 m (by omega)).2.vrel (hb m hml)⟩
theorem IsRows.vrel (q : IsRows k W a len cap A L C Z) {cells : List Value} (hj : bs[j0]? = some ⟨cells, atOf a cap⟩) : VRel (roRen G bs) (G + bs.length) (absS a (G + j0) len cap) (.slice a len cap) := by
  have hjl := (List.getElem?_eq_some_iff.1 hj).1
  rcases q with ⟨rfl, rfl, rfl⟩ | ⟨x, rfl, h1, h2, h3⟩
  · exact .nilSlice
  · refine .slice _ _ _ _ _ _ _ (by omega) ?_ h1 ?_ ?_ h2 (by intro t ht; cases ht)
    · split <;> omega
    · simp only [maxLen] at h1 h2
      split
      · exact ⟨fun _ => by omega, fun e => by omega⟩
      · exact ⟨fun e => by omega, fun e => by omega⟩
    · by_cases hc : cap = 0
      · exact .inr hc
      · left
        have hren : roRen G bs (G + j0) = ⟨x.block, x.off, 0⟩ := by
          simp only [roRen]
          rw [if_neg (by omega), show G + j0 - G = j0 from by omega, hj]
          simp [atOf, hc]
        rw [hren]
        have hs : x.spot = none := spot_of (h3 0 (by omega)).1
        cases x
        simp only at hs
        subst hs
        rfl
theorem IsRows.rbb (q : IsRows .u8 W a len cap A L C Z) (hj : bs[j0]? = some ⟨outer G j1 len A L C, atOf a cap⟩) (hb : ∀ r, r < len → bs[j1 + r]? = some ⟨iv .u8 ((Z r).take (L r)), atOf (A r) (C r)⟩) :
    RBB (roHeap G bs) (absS a (G + j0) len cap) ((List.range len).map fun r => toB ((Z r).take (L r))) := by
  refine ⟨outer G j1 len A L C, ?_, by simp [outer], fun r u l hu hl => ?_⟩
  · rcases q with ⟨rfl, rfl, rfl⟩ | ⟨x, rfl, h1, h2, h3⟩
    · exact .inl ⟨rfl, rfl⟩
    · refine .inr ⟨G + j0, 0, none, if cap = len then len else len + 1, by rw [outer_length]; rfl, .inl rfl, fun hne => ?_⟩
      exact ⟨_, roGet hj hne, by simp, by simp⟩
  · obtain ⟨hr, rfl⟩ := outer_get hu
    simp only [List.getElem?_map, List.getElem?_range hr, Option.map_some, Option.some.injEq] at hl
    subst hl
    exact (q.row hr).rb (hb r hr)
end
end Go.Eng
