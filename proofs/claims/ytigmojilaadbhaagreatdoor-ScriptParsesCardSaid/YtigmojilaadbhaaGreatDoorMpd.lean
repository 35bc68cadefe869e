/-
  Texts of one claim, merged: 8 parts.
-/
import Derived.Test.YtigmojilaadbhaaGreatDoorMpc
import Derived.ProofKit
import Derived.Deep.Matrix
import Derived.Deep.Slices
import Derived.ChangeArms
import Derived.ChangeOld
import Derived.OpenShut
import Derived.SizedLaws
import Derived.Carry
set_option maxHeartbeats 16000000
/- . -/
namespace Go.Eng
open Go
variable {P : Program} {ρ : Operand → Value} {h : Heap} {K : Value → Heap → Prop} {dst : Option Tmp} {ty : TypeId} {pos : String} {aft : Array Edge} {g : Option (Nat × Bool)}
class FnC (P : Program) (f : FuncId) : Prop where
 ex : ∃ fn, P.funcs[f]? = some fn ∧ fn.body.isSome = true ∧ (fn.name == "runtime.NumGoroutine") = false
theorem VRels.map {φ : Ren} {n : Nat} : ∀ {args : List Operand} {r1 r2 : Operand → Value}, (∀ x ∈ args, VRel φ n (r1 x) (r2 x)) → VRels φ n (args.map r1) (args.map r2)
 | [], _, _, _ => .nil
 | x :: args, _, _, hr => .cons (hr x (by simp)) (VRels.map fun y hy => hr y (by simp [hy]))
theorem VRels.ofArr {φ : Ren} {n : Nat} {f f' : Array Value} (h1 : f.size = f'.size) (h3 : ∀ (k : Nat) x y, f[k]? = some x → f'[k]? = some y → VRel φ n x y) : VRels φ n f.toList f'.toList :=
 .of (by simpa using h1) (fun j x y hx hy => h3 j x y (by simpa using hx) (by simpa using hy))
theorem qat {x : Operand} {f : FuncId} {fi ca : Array Value} {args : Array Operand} {aT : Array TypeId} [fc : FnC P f] {evs : List Value} (hx : ρ x = .func (.func f) fi ca) (he : fi.toList ++ (args.toList.map ρ ++ ca.toList) = evs)
  (c : ACalls P f evs h K) : AOp P ⟨dst, .call ⟨.value x, args, aT⟩, ty, pos, aft, g⟩ ρ h K := by
 intro φ a w r next Qc kk
 have hv := hx ▸ r.ev x (by simp [Op.operands, Call.operands])
 obtain ⟨f', d', e1, s1, s2, q1, q2⟩ := hv.func_inv
 obtain ⟨fn, hf, hb, hn⟩ := fc.ex
 have hargs : VRels φ h.next evs (f'.toList ++ (args.toList.map a.eval ++ d'.toList)) := by
  rw [← he]
  exact (VRels.ofArr s1 q1).append ((VRels.map fun y hy => r.ev y (by simp [Op.operands, Call.operands]; exact .inr (by simpa using hy))).append (VRels.ofArr s2 q2))
 have hc := c φ w _ r.sim hargs
 have hbn : fn.body.isNone = false := by
  cases hbb : fn.body with
  | none => rw [hbb] at hb; cases hb
  | some _ => rfl
 have hrun : (execOp a.eval ⟨dst, .call ⟨.value x, args, aT⟩, ty, pos, aft, g⟩).run P w = .ok (.enter f (f'.toList ++ (args.toList.map a.eval ++ d'.toList)).toArray) w := by
  have harr : (f' ++ args.map a.eval ++ d') = (f'.toList ++ (args.toList.map a.eval ++ d'.toList)).toArray := by
   apply Array.ext'
   simp
  simp only [execOp, resolve, e1, Deferred.ofValue, Sem.run_bind, Sem.run_pure, Result.andThen_ok, invoke, callFunc, run_program, hf, hn, hbn, Bk, if_false]
  rw [harr]
 unfold Oper.wp
 rw [hrun]
 refine hc.mono fun e w' hr => ?_
 cases e with
 | returned cv =>
  obtain ⟨v, h', φ', k, v1, v2, v3⟩ := hr
  exact kk cv w' φ' h' v k v1 v2 v3
 | panicked ch => exact hr.elim
 | outgrown => exact hr.elim
theorem qa2 {fn : Fn} {f c : Array Operand} {f' c' : List Value} (hf : f.toList.map ρ = f') (hc : c.toList.map ρ = c') (kk : K (.func fn f'.toArray c'.toArray) h) :
  AOp P ⟨dst, .makeFunc fn f c, ty, pos, aft, g⟩ ρ h K :=
 .of_pure kk fun φ ac w r => by
  refine ⟨.func fn (f.map ac.eval) (c.map ac.eval), by simp [execOp, Instr.makeFunc], ?_⟩
  subst hf hc
  refine .func _ _ _ _ _ (by simp) (by simp) ?_ ?_
  ·
   intro k x y hx hy
   simp only [Cy, Bm, Dp, Array.getElem?_map] at hx hy
   cases hq : f[k]? with
   | none => simp [hq] at hx
   | some o =>
    simp [hq] at hx hy
    subst hx hy
    exact r.ev o (by simp [Op.operands]; exact .inl (By hq))
  ·
   intro k x y hx hy
   simp only [Cy, Bm, Dp, Array.getElem?_map] at hx hy
   cases hq : c[k]? with
   | none => simp [hq] at hx
   | some o =>
    simp [hq] at hx hy
    subst hx hy
    exact r.ev o (by simp [Op.operands]; exact .inr (By hq))
def ifaceB : TypeDesc → Bool
 | .interface _ => true
 | _ => false
def fillA (place : Nat → Option (Nat × Nat)) (cells : List Value) : List (Nat × Value) → Option (List Value)
 | [] => some cells
 | (i, v) :: rest =>
  match place i with
  | none => none
  | some (off, size) => if v.cells.size ≠ size || off + v.cells.size > cells.length then none else fillA place (splice cells off v.cells.toList) rest
theorem zipFold (cs : List Value) : ∀ (k : Nat) (off : Nat) (arr : Array Value), ((cs.zipIdx k).foldl (fun (a : Array Value) (p : Value × Nat) => a.setIfInBounds (off + p.2) p.1) arr).toList = if off + k + cs.length ≤ arr.size then splice arr.toList (off + k) cs else ((cs.zipIdx k).foldl (fun (a : Array Value) (p : Value × Nat) => a.setIfInBounds (off + p.2) p.1) arr).toList := by
 induction cs with
 | nil => intro k off arr; simp [splice]
 | cons v cs ih =>
  intro k off arr
  split
  ·
   rename_i hl
   simp only [Ad] at hl
   simp only [List.zipIdx_cons, List.foldl_cons]
   rw [ih (k + 1) off, Ah (by simp; omega)]
   simp only [Array.toList_setIfInBounds]
   apply Eg
   intro j
   rw [qbo _ _ _ (by simp; omega), qbo _ _ _ (by simp; omega)]
   simp only [Ad]
   by_cases h1 : j = off + k
   ·
    subst h1
    rw [Ac (by omega), Ah (by omega), List.getElem?_set_self (by simp; omega)]
    simp
   ·
    by_cases h2 : off + (k + 1) ≤ j ∧ j < off + (k + 1) + cs.length
    ·
     rw [Ah h2, Ah (by omega)]
     rw [show j - (off + k) = (j - (off + (k + 1))) + 1 from by omega]
     simp
    ·
     rw [Ac h2, Ac (by omega)]
     rw [List.getElem?_set_ne (by omega)]
  ·
   rfl
theorem zipFold0 (cs : Array Value) (off : Nat) (arr : Array Value) (hl : off + cs.size ≤ arr.size) : (cs.zipIdx.foldl (fun (a : Array Value) (p : Value × Nat) => a.setIfInBounds (off + p.2) p.1) arr).toList = splice arr.toList off cs.toList := by
 have := zipFold cs.toList 0 off arr
 rw [Ah (by simpa using hl)] at this
 rw [← Array.foldl_toList]
 simpa using this
theorem VRels.splice {φ : Ren} {n : Nat} {xs cs vs ds : List Value} (a : VRels φ n xs cs) (b : VRels φ n vs ds) (o : Nat) (hl : o + vs.length ≤ xs.length) : VRels φ n (Eng.splice xs o vs) (Eng.splice cs o ds) := by
 have h1 := a.length
 have h2 := b.length
 refine .of (by rw [qbc hl, qbc (by omega), h1]) fun j x y hx hy => ?_
 rw [qbo _ _ _ hl] at hx
 rw [qbo _ _ _ (by omega)] at hy
 by_cases hin : o ≤ j ∧ j < o + vs.length
 ·
  rw [Ah hin] at hx
  rw [Ah (by omega)] at hy
  obtain ⟨c, hc, hv⟩ := b.get hx
  rw [hy] at hc; cases hc; exact hv
 ·
  rw [Ac hin] at hx
  rw [Ac (by omega)] at hy
  obtain ⟨c, hc, hv⟩ := a.get hx
  rw [hy] at hc; cases hc; exact hv
theorem qdf {φ : Ren} {n : Nat} (place : Nat → Option (Nat × Nat)) (ac : Act) : ∀ (parts : List (Nat × Operand)) (cells out : List Value) (arr : Array Value), VRels φ n cells arr.toList →
  (∀ p ∈ parts, VRel φ n (ρ p.2) (ac.eval p.2)) → (∀ p ∈ parts, ρ p.2 ≠ undef) → fillA place cells (parts.map fun p => (p.1, ρ p.2)) = some out →
  ∃ arr', Instr.fill place arr (parts.map fun p => (p.1, ac.eval p.2)) = some arr' ∧ VRels φ n out arr'.toList
 | [], cells, out, arr, hr, _, _, hf => by
  simp [fillA] at hf
  subst hf
  exact ⟨arr, rfl, hr⟩
 | (i, x) :: parts, cells, out, arr, hr, hv, hu, hf => by
  simp only [Bq, fillA] at hf
  split at hf
  ·
   cases hf
  ·
   rename_i off size hp
   split at hf
   ·
    cases hf
   ·
    rename_i hc
    simp only [ne_eq, decide_not, Cw, Cm, Cf, decide_eq_false_iff_not, decide_eq_true_eq, not_or, Classical.not_not, Nat.not_lt] at hc
    have hx := (hv (i, x) (by simp)).cells (hu (i, x) (by simp))
    have hlen := hx.length
    simp only [Array.length_toList] at hlen
    have hcl := hr.length
    simp only [Array.length_toList] at hcl
    obtain ⟨arr', h1, h2⟩ := qdf place ac parts _ out ((ac.eval x).cells.zipIdx.foldl (fun (a : Array Value) (p : Value × Nat) => a.setIfInBounds (off + p.2) p.1) arr) (by
     rw [zipFold0 _ _ _ (by omega)]
     exact hr.splice hx off (by simp; omega)) (fun p hp => hv p (by simp [hp])) (fun p hp => hu p (by simp [hp])) hf
    refine ⟨arr', ?_, h2⟩
    simp only [Bq, Instr.fill, hp]
    rw [Ac (by simp; omega)]
    exact h1
theorem op_build {t sz by_ : Nat} {z : Value} {fs : Array Field} {parts : Array (Nat × Operand)} {places : List (Nat × Nat)} {out : List Value} [td : TyD P t (.struct fs)] [ti : TyI P t sz by_ z]
  (hp : ∀ w, (fs.mapM fun f => do pure (f.offset, ← sizeOf f.type) : Sem (Array (Nat × Nat))).run P w = .ok places.toArray w) (hu : ∀ p ∈ parts.toList, ρ p.2 ≠ undef)
  (hf : fillA (places[·]?) z.cells.toList (parts.toList.map fun p => (p.1, ρ p.2)) = some out) (kk : K (.agg out.toArray) h) : AOp P ⟨dst, .build t parts, ty, pos, aft, g⟩ ρ h K :=
 .of_pure kk fun φ ac w r => by
  obtain ⟨arr', h1, h2⟩ := qdf (φ := φ) (n := h.next) (places[·]?) ac parts.toList z.cells.toList out z.cells (cI ti.plain) (fun p hp => r.ev p.2 (by simp [Op.operands]; exact ⟨p.1, by simpa using hp⟩)) hu hf
  refine ⟨.agg arr', ?_, .agg _ _ (by have := h2.length; simpa using this) (fun k x y hx hy => ?_)⟩
  ·
   have he : (parts.map fun (p : Nat × Operand) => (p.1, ac.eval p.2)).toList = parts.toList.map fun p => (p.1, ac.eval p.2) := by simp
   have hrun : (Instr.build t (parts.map fun (p : Nat × Operand) => (p.1, ac.eval p.2))).run P w = .ok (.agg arr') w := by
    simp only [Instr.build, Sem.run_bind, ti.zero, Result.andThen_ok, td.run, hp, he, Cy]
    rw [h1]
    rfl
   simp [execOp, hrun]
  ·
   obtain ⟨c, hc, hv⟩ := h2.get (j := k) (x := x) (by simpa using hx)
   simp only [Dp] at hc
   rw [hy] at hc; cases hc; exact hv
theorem qfT {t e by_ : Nat} {z : Value} {len : Nat} {parts : Array (Nat × Operand)} {out : List Value} [td : TyD P t (.slice e)] [ti : TyI P e 1 by_ z] (hz : oneB z = true) (hl : len ≤ 16777216) (hu : ∀ p ∈ parts.toList, ρ p.2 ≠ undef)
  (hf : fillA (fun i => some (i * 1, 1)) (List.replicate len z) (parts.toList.map fun p => (p.1, ρ p.2)) = some out) (hlen : out.length = len)
  (kk : K (.slice (some ⟨h.next, 0, some 1⟩) len len) (h.alloc ⟨out, e, true⟩)) : AOp P ⟨dst, .buildSlice t len parts, ty, pos, aft, g⟩ ρ h K :=
 .of_run fun φ ac w r => by
  have hzc : z.cells = #[z] := by cases z <;> first | rfl | (simp [oneB] at hz)
  have hzs : scalar z = true := by
   have := ti.plain
   rw [hzc] at this
   simpa using this
  have hmade : (Array.range len).map (fun x => z.cells[x % z.cells.size]!) = Array.replicate len z := qdb z len hzc
  obtain ⟨arr', h1, h2⟩ := qdf (φ := φ) (n := h.next) (fun i => some (i * 1, 1)) ac parts.toList (List.replicate len z) out (Array.replicate len z) (by
   have : (List.replicate len z).all scalar = true := Ai.2 (by intro v hv; rw [List.eq_of_mem_replicate hv]; exact hzs)
   simpa using cI (φ := φ) (n := h.next) this) (fun p hp => r.ev p.2 (by simp [Op.operands]; exact ⟨p.1, by simpa using hp⟩)) hu hf
  have hal : arr'.size = len := by have := h2.length; simp at this; omega
  obtain ⟨s1, s2⟩ := r.sim.alloc out arr' e (0, 0) (.inl rfl) (by omega) h2.toArr
  have he : (parts.map fun (p : Nat × Operand) => (p.1, ac.eval p.2)).toList = parts.toList.map fun p => (p.1, ac.eval p.2) := by simp
  have hrun : (Instr.buildSlice t len (parts.map fun (p : Nat × Operand) => (p.1, ac.eval p.2))).run P w = .ok (.slice (some ⟨w.heap.size, 0, none⟩) len len) (w.alloc (.cells arr' e)) := by
   have hb : ¬ (len * 1 > 2 ^ 24) := by omega
   by_cases hl0 : len = 0
   ·
    subst hl0
    simp only [Instr.buildSlice, Sem.run_bind, td.run, Result.andThen_ok, ti.size, Ac hb, Nat.zero_mul, if_true, Sem.run_pure, he]
    rw [show (Array.map (fun x => (#[] : Array Value)[x % (#[] : Array Value).size]!) (Array.range 0)) = Array.replicate 0 z from by simp [Array.range_zero'], h1]
    simp [newRow]
   ·
    have hn0 : ¬ (len * 1 = 0) := by omega
    simp only [Instr.buildSlice, Sem.run_bind, td.run, Result.andThen_ok, ti.size, Ac hb, Ac hn0, ti.zero, Sem.run_pure, he]
    rw [show (Array.map (fun x => z.cells[x % z.cells.size]!) (Array.range (len * 1))) = Array.replicate len z from by rw [Ed]; exact hmade, h1]
    simp [newRow]
  refine ⟨_, _, _, _, _, by simp [execOp, hrun]; rfl, kk, ?_, s1, s2⟩
  have h24 : len ≤ maxLen := by simp only [maxLen]; omega
  refine .newSlice (Aa _) (Aa _) ⟨fun _ => rfl, fun hb => by simp only [maxLen] at h24; omega⟩ h24 ?_
  intro t ht
  cases ht
  omega
inductive Kd where
 | R | X | W
def ROp (P : Program) (o : Oper) (ρ : Operand → Value) (h : Heap) (v : Value) : Prop :=
 ∀ h', Ext h h' → h.next ≤ h'.next → AOp P o ρ h' fun v' h'' => v' = v ∧ h'' = h'
def DAL (P : Program) (N : Nat) (ops : Array Oper) (Q : Exit → Env → Heap → Prop) : List (Nat × Kd) → Env → Heap → Prop
 | [], env, h => ∀ φ a w, a.defers = [] → Rel P N φ env h a.tmps w → Post P N φ h w (Q .normal) a w
 | (i, .R) :: σ, env, h => ∃ o, ops[i]? = some o ∧ dstB N o.dst = true ∧ ∃ v, ((gv ops env o = some true ∧ ROp P o (ev P env) h v) ∨ (gv ops env o = some false ∧ v = skipV)) ∧ DAL P N ops Q σ (env.put o.dst v) h
 | (i, .X) :: σ, env, h => ∃ o, ops[i]? = some o ∧ dstB N o.dst = true ∧
   ((gv ops env o = some true ∧ AOp P o (ev P env) h fun v h' => Ext h h' ∧ DAL P N ops Q σ (env.put o.dst v) h') ∨ (gv ops env o = some false ∧ DAL P N ops Q σ (env.put o.dst skipV) h))
 | (i, .W) :: σ, env, h => ∃ o, ops[i]? = some o ∧ dstB N o.dst = true ∧
   ((gv ops env o = some true ∧ AOp P o (ev P env) h fun v h' => DAL P N ops Q σ (env.put o.dst v) h') ∨ (gv ops env o = some false ∧ DAL P N ops Q σ (env.put o.dst skipV) h))
theorem AOp.congr {P : Program} {o : Oper} {ρ ρ' : Operand → Value} {h : Heap} {K : Value → Heap → Prop} (hq : ∀ x, x ∈ o.op.operands → ρ x = ρ' x) (p : AOp P o ρ h K) : AOp P o ρ' h K :=
 fun φ a w r => p φ a w ⟨r.sim, fun x hx => by rw [hq x hx]; exact r.ev x hx⟩
theorem AOp.mono {P : Program} {o : Oper} {ρ : Operand → Value} {h : Heap} {K K' : Value → Heap → Prop} (p : AOp P o ρ h K) (hk : ∀ v h', h.next ≤ h'.next → K v h' → K' v h') : AOp P o ρ h K' :=
 fun φ a w r next Qc kk => p φ a w r next Qc fun c w' φ' h' v k vr s st => kk c w' φ' h' v (hk v h' st.next k) vr s st
theorem ROp.congr {P : Program} {o : Oper} {ρ ρ' : Operand → Value} {h : Heap} {v : Value} (hq : ∀ x, x ∈ o.op.operands → ρ x = ρ' x) (p : ROp P o ρ h v) : ROp P o ρ' h v :=
 fun h' hx hn => (p h' hx hn).congr hq
theorem ROp.ext {P : Program} {o : Oper} {ρ : Operand → Value} {h h1 : Heap} {v : Value} (p : ROp P o ρ h v) (hx : Ext h h1) (hn : h.next ≤ h1.next) : ROp P o ρ h1 v :=
 fun h' hx' hn' => p h' (hx.trans hx') (Bi hn hn')
def EqE (e e' : Env) : Prop := ∀ t, e.get t = e'.get t
theorem EqE.ev {P : Program} {e e' : Env} (q : EqE e e') (x : Operand) : Eng.ev P e x = Eng.ev P e' x := by
 cases x with
 | tmp t => exact q t
 | _ => rfl
theorem EqE.gv {ops : Array Oper} {e e' : Env} (q : EqE e e') (o : Oper) : Eng.gv ops e o = Eng.gv ops e' o := by
 unfold Eng.gv
 split
 ·
  rfl
 ·
  split
  ·
   rw [q]
  ·
   rfl
theorem EqE.put {e e' : Env} (q : EqE e e') (d : Option Tmp) (v : Value) : EqE (e.put d v) (e'.put d v) := by
 intro t
 cases d with
 | none => exact q t
 | some d => simp only [Env.put, Env.get_put, q t]
theorem EqE.swap (e : Env) {d d' : Option Tmp} (hne : ∀ t, d = some t → d' ≠ some t) (v v' : Value) : EqE ((e.put d v).put d' v') ((e.put d' v').put d v) := by
 intro t
 cases d with
 | none => rfl
 | some d =>
  cases d' with
  | none => rfl
  | some d' =>
   simp only [Env.put, Env.get_put]
   have hdd : d ≠ d' := fun e => hne d rfl (by rw [e])
   by_cases h1 : d' = t
   ·
    by_cases h2 : d = t
    ·
     exact absurd (h2.trans h1.symm) hdd
    ·
     simp [h1, h2]
   ·
    by_cases h2 : d = t <;> simp [h1, h2]
section
variable {P : Program} {N : Nat} {ops : Array Oper} {Q : Exit → Env → Heap → Prop}
theorem Rel.eqE {φ : Ren} {e e' : Env} {h : Heap} {t : Array Value} {w : World} (r : Rel P N φ e h t w) (q : EqE e e') : Rel P N φ e' h t w := ⟨r.sim, r.size, fun t => by rw [← q t]; exact r.env t⟩
theorem DAL.eqE : ∀ {σ : List (Nat × Kd)} {e e' : Env} {h : Heap}, DAL P N ops Q σ e h → EqE e e' → DAL P N ops Q σ e' h
 | [], e, e', h, p, q => fun φ a w hd r => p φ a w hd (r.eqE fun t => (q t).symm)
 | (i, .R) :: σ, e, e', h, p, q => by
  obtain ⟨o, ho, hd, v, hv, k⟩ := p
  refine ⟨o, ho, hd, v, ?_, DAL.eqE k (q.put _ _)⟩
  rw [← q.gv o]
  exact hv.imp (fun ⟨a, b⟩ => ⟨a, b.congr fun x _ => q.ev x⟩) id
 | (i, .X) :: σ, e, e', h, p, q => by
  obtain ⟨o, ho, hd, hv⟩ := p
  refine ⟨o, ho, hd, ?_⟩
  rw [← q.gv o]
  exact hv.imp (fun ⟨a, b⟩ => ⟨a, (b.congr fun x _ => q.ev x).mono fun v h' _ ⟨k1, k2⟩ => ⟨k1, DAL.eqE k2 (q.put _ _)⟩⟩) (fun ⟨a, b⟩ => ⟨a, DAL.eqE b (q.put _ _)⟩)
 | (i, .W) :: σ, e, e', h, p, q => by
  obtain ⟨o, ho, hd, hv⟩ := p
  refine ⟨o, ho, hd, ?_⟩
  rw [← q.gv o]
  exact hv.imp (fun ⟨a, b⟩ => ⟨a, (b.congr fun x _ => q.ev x).mono fun v h' _ k => DAL.eqE k (q.put _ _)⟩) (fun ⟨a, b⟩ => ⟨a, DAL.eqE b (q.put _ _)⟩)
theorem qgO {e : Env} {d : Option Tmp} {v : Value} {t : Nat} (hne : d ≠ some t) : (e.put d v).get t = e.get t := by
 cases d with
 | none => rfl
 | some d => rw [show (e.put (some d) v) = (d, v) :: e from rfl, Env.get_put, Ac (fun h => hne (by rw [h]))]
theorem looks_tmp {o : Oper} {t : Nat} (hx : Operand.tmp t ∈ o.op.operands) : t ∈ o.looksAt ops := by
 unfold Oper.looksAt
 refine Ch _ (List.mem_filterMap.2 ⟨.tmp t, by simpa using hx, rfl⟩)
theorem qa9 {o : Oper} {e : Env} {d : Option Tmp} {v : Value} (hne : ∀ t, d = some t → t ∉ o.looksAt ops) : ∀ x, x ∈ o.op.operands → ev P (e.put d v) x = ev P e x := by
 intro x hx
 cases x with
 | tmp t => exact qgO (fun h => hne t h (looks_tmp hx))
 | _ => rfl
theorem qbd {o : Oper} {e : Env} {d : Option Tmp} {v : Value} (hne : ∀ t, d = some t → t ∉ o.looksAt ops) : gv ops (e.put d v) o = gv ops e o := by
 unfold gv
 split
 ·
  rfl
 ·
  rename_i j want hg
  split
  ·
   rename_i t ht
   rw [qgO]
   intro hd
   refine hne t hd ?_
   unfold Oper.looksAt
   refine Br _ ?_
   rw [hg]
   simp [ht]
  ·
   rfl
def kdW : Kd → Bool
 | .W => true
 | _ => false
theorem DAL.swap {i j : Nat} {k : Kd} {oi oj : Oper} {σ : List (Nat × Kd)} {e : Env} {h : Heap} (hi : ops[i]? = some oi) (hj : ops[j]? = some oj) (hap : oj.apart ops oi = true) (hk : kdW k = false)
  (p : DAL P N ops Q ((j, .R) :: (i, k) :: σ) e h) : DAL P N ops Q ((i, k) :: (j, .R) :: σ) e h := by
 obtain ⟨a1, a2, a3⟩ := Oper.apart_spec hap
 obtain ⟨o, ho, hd, vj, hvj, p⟩ := p
 rw [hj] at ho; cases ho
 have later : ∀ (vi : Value) (h' : Heap), Ext h h' → h.next ≤ h'.next → DAL P N ops Q σ ((e.put oj.dst vj).put oi.dst vi) h' → DAL P N ops Q ((j, .R) :: σ) (e.put oi.dst vi) h' := by
  intro vi h' hx hn pk
  refine ⟨oj, hj, hd, vj, ?_, pk.eqE (EqE.swap e a2 vj vi)⟩
  rw [qbd a3]
  exact hvj.imp (fun ⟨q1, q2⟩ => ⟨q1, (q2.ext hx hn).congr fun x hx => (qa9 a3 x hx).symm⟩) id
 cases k with
 | R =>
  obtain ⟨o, ho, hdi, vi, hvi, p⟩ := p
  rw [hi] at ho; cases ho
  rw [qbd a1] at hvi
  exact ⟨oi, hi, hdi, vi, hvi.imp (fun ⟨q1, q2⟩ => ⟨q1, q2.congr (qa9 a1)⟩) id, later vi h (aU h) (Aa _) p⟩
 | X =>
  obtain ⟨o, ho, hdi, hvi⟩ := p
  rw [hi] at ho; cases ho
  rw [qbd a1] at hvi
  refine ⟨oi, hi, hdi, ?_⟩
  exact hvi.imp (fun ⟨q1, q2⟩ => ⟨q1, (q2.congr (qa9 a1)).mono fun v h' hn ⟨k1, k2⟩ => ⟨k1, later v h' k1 hn k2⟩⟩) (fun ⟨q1, q2⟩ => ⟨q1, later skipV h (aU h) (Aa _) q2⟩)
 | W => cases hk
theorem DAL.front {i : Nat} {k : Kd} {oi : Oper} {σ2 : List (Nat × Kd)} (hi : ops[i]? = some oi) : ∀ {σ1 : List (Nat × Kd)} {e : Env} {h : Heap},
  (∀ s ∈ σ1, s.2 = .R ∧ kdW k = false ∧ ∃ oj, ops[s.1]? = some oj ∧ oj.apart ops oi = true) → DAL P N ops Q (σ1 ++ (i, k) :: σ2) e h → DAL P N ops Q ((i, k) :: (σ1 ++ σ2)) e h
 | [], _, _, _, p => p
 | (j, kj) :: σ1, e, h, hs, p => by
  obtain ⟨h1, h2, oj, h3, h4⟩ := hs (j, kj) (by simp)
  simp only at h1 h3
  subst h1
  obtain ⟨o, ho, hd, v, hv, p⟩ := p
  have p' := DAL.front (σ2 := σ2) hi (fun s hs' => hs s (by simp [hs'])) p
  exact DAL.swap hi h3 h4 h2 ⟨o, ho, hd, v, hv, p'⟩
end
def edgeB (ops : Array Oper) (i j : Nat) : Bool :=
 match ops[i]? with
 | some o => o.after.any fun e => Region.binds .any e && Nat.beq e.on j
 | none => false
def ancB (A : Array Nat) (i j : Nat) : Bool := (A.getD i 0).testBit j
def apartB (ops : Array Oper) (j i : Nat) : Bool :=
 match ops[j]?, ops[i]? with
 | some oj, some oi => oj.apart ops oi
 | _, _ => false
def kdR : Kd → Bool
 | .R => true
 | _ => false
def pairB (ops : Array Oper) (A : Array Nat) (p q : Nat × Kd) : Bool :=
 !edgeB ops p.1 q.1 && (ancB A q.1 p.1 || (kdR p.2 && !kdW q.2 && apartB ops p.1 q.1))
def pairsB (ops : Array Oper) (A : Array Nat) : List (Nat × Kd) → Bool
 | [] => true
 | p :: σ => !edgeB ops p.1 p.1 && σ.all (fun q => !Nat.beq p.1 q.1 && pairB ops A p q) && pairsB ops A σ
def closeB (ops : Array Oper) (A : Array Nat) : Bool :=
 (List.range ops.size).all fun i => (List.range ops.size).all fun j => !ancB A i j || edgeB ops i j || (List.range ops.size).any fun k => edgeB ops i k && ancB A k j
def rangeB (ops : Array Oper) : Bool := ops.all fun o => o.after.all fun e => !Region.binds .any e || Nat.blt e.on ops.size
def drawB (ops : Array Oper) (σ : List (Nat × Kd)) : Bool :=
 let A := Region.before ops
 Nat.beq σ.length ops.size && (List.range ops.size).all (fun i => σ.any fun p => Nat.beq p.1 i) && σ.all (fun p => Nat.blt p.1 ops.size) && A.all (fun x => Nat.blt x (2 ^ ops.size)) && rangeB ops && pairsB ops A σ && closeB ops A
theorem qbG {ops : Array Oper} {i j : Nat} {o : Oper} (ho : ops[i]? = some o) : edgeB ops i j = true ↔ ∃ e ∈ o.after, Region.binds .any e = true ∧ e.on = j := by
 simp only [edgeB, ho]
 rw [← Array.any_toList, Cz]
 constructor
 ·
  rintro ⟨e, he, hb⟩
  rw [Ae] at hb
  exact ⟨e, by simpa using he, hb.1, Bz hb.2⟩
 ·
  rintro ⟨e, he, hb, rfl⟩
  exact ⟨e, by simpa using he, by rw [Ae]; exact ⟨hb, Nat.beq_refl _⟩⟩
theorem qfp {ops : Array Oper} {A : Array Nat} : ∀ {σ1 σ2 : List (Nat × Kd)} {p : Nat × Kd}, pairsB ops A (σ1 ++ p :: σ2) = true → pairsB ops A (σ1 ++ σ2) = true ∧ (∀ s ∈ σ1, pairB ops A s p = true ∧ s.1 ≠ p.1) ∧ (∀ s ∈ σ2, s.1 ≠ p.1)
 | [], σ2, p, hp => by
  simp only [Ct, pairsB, Ae, Ai] at hp
  refine ⟨hp.2, by simp, fun s hs he => ?_⟩
  have := (hp.1.2 s hs).1
  rw [he] at this
  simp at this
 | q :: σ1, σ2, p, hp => by
  simp only [Bw, pairsB, Ae, Ai] at hp
  obtain ⟨⟨h0, h1⟩, h2⟩ := hp
  obtain ⟨g1, g2, g3⟩ := qfp h2
  refine ⟨?_, ?_, g3⟩
  ·
   simp only [Bw, pairsB, Ae, Ai]
   refine ⟨⟨h0, fun s hs => h1 s ?_⟩, g1⟩
   rcases Bh.1 hs with h | h
   ·
    exact Ch _ h
   ·
    exact Br _ (by simp [h])
  ·
   intro s hs
   rcases Ak.1 hs with rfl | hs
   ·
    obtain ⟨u1, u2⟩ := h1 p (Br _ (by simp))
    refine ⟨u2, fun he => ?_⟩
    rw [he] at u1
    simp at u1
   ·
    exact g2 s hs
variable {P : Program} {N : Nat} {ops : Array Oper} {Q : Exit → Env → Heap → Prop}
theorem qbJ {Qc Qc' : Exit → Act → World → Prop} (hq : ∀ e a w, Qc e a w → Qc' e a w) : ∀ (fuel : Nat) (L : Array Bool) (a : Act) (w : World), wpAny P .any ops Qc fuel L a w → wpAny P .any ops Qc' fuel L a w
 | 0, L, a, w, p => ⟨p.1, hq _ _ _ p.2⟩
 | fuel + 1, L, a, w, p => by
  refine ⟨fun hr => hq _ _ _ (p.1 hr), fun i hi => ?_⟩
  have := p.2 i hi
  unfold wpOp at this ⊢
  split
  ·
   rename_i ho
   simp only [ho] at this
   exact qbJ hq fuel _ a w this
  ·
   rename_i o ho
   simp only [ho] at this
   split
   ·
    rename_i hw
    rw [Ah hw] at this
    rcases this with p | ⟨p1, p2⟩
    ·
     exact .inl (qgc (qbJ hq fuel _) hq _ p)
    ·
     exact .inr ⟨p1, qbO hq p2⟩
   ·
    rename_i hw
    rw [Ac hw] at this
    exact qbJ hq fuel _ _ w this
theorem any_order (A : Array Nat) (hr : rangeB ops = true) (hc : closeB ops A = true) (hA : ∀ i j, ancB A i j = true → j < ops.size) : ∀ (n : Nat) (σ : List (Nat × Kd)) (L : Array Bool) (env : Env) (h : Heap) (φ : Ren) (a : Act) (w : World), σ.length = n → L.size = ops.size →
  (∀ i, i < ops.size → (L.getD i true = false ↔ ∃ k, (i, k) ∈ σ)) → (∀ s ∈ σ, s.1 < ops.size) → (∀ i j, L.getD i false = true → ancB A i j = true → L.getD j false = true) → pairsB ops A σ = true →
  a.defers = [] → Rel P N φ env h a.tmps w → DAL P N ops Q σ env h → wpAny P .any ops (fun ex a' w' => Post P N φ h w (Q ex) a' w') n L a w := by
 intro n
 induction n with
 | zero =>
  intro σ L env h φ a w hn hL hmem _ _ _ hd r p
  have : σ = [] := Bu hn
  subst this
  refine ⟨?_, p φ a w hd r⟩
  apply Dh.2
  intro i hi
  obtain ⟨h1, o, h2, _⟩ := mem_ready.1 hi
  have hlt : i < ops.size := (Az.1 h2).1
  obtain ⟨k, hk⟩ := (hmem i hlt).1 h1
  cases hk
 | succ n ih =>
  intro σ L env h φ a w hn hL hmem hlt hclo hpr hd r p
  have hin : ∀ j, j < ops.size → (¬ ∃ k, (j, k) ∈ σ) → L.getD j false = true := by
   intro j hj hno
   cases hq : L.getD j true with
   | false => exact absurd ((hmem j hj).1 hq) hno
   | true =>
    have hjl : j < L.size := by omega
    simp only [Am, Ar hjl, Bj] at hq ⊢
    exact hq
  have hrange : ∀ (i : Nat) (o : Oper), ops[i]? = some o → ∀ e ∈ o.after, Region.binds .any e = true → e.on < ops.size := by
   intro i o ho e he hb
   have h1 := Be.1 hr o (By ho)
   have h2 := Be.1 h1 e he
   simp only [hb, Cf, Do] at h2
   simpa [Nat.blt_eq] using h2
  refine ⟨fun hnil => ?_, fun i hi => ?_⟩
  ·
   exfalso
   obtain ⟨⟨i0, k0⟩, σ', rfl⟩ : ∃ s σ', σ = s :: σ' := by
    cases σ with
    | nil => simp at hn
    | cons s σ' => exact ⟨s, σ', rfl⟩
   have hi0 := hlt (i0, k0) (by simp)
   have ho0 : ops[i0]? = some ops[i0] := Ar hi0
   have : i0 ∈ Region.ready .any ops L := by
    refine mem_ready.2 ⟨(hmem i0 hi0).2 ⟨k0, by simp⟩, ops[i0], ho0, fun e he hb => ?_⟩
    have hedge : edgeB ops i0 e.on = true := (qbG ho0).2 ⟨e, he, hb, rfl⟩
    refine hin e.on (hrange i0 _ ho0 e he hb) ?_
    rintro ⟨k, hk⟩
    simp only [pairsB, Ae, Ai, Cm, Cf] at hpr
    rcases Ak.1 hk with hk | hk
    ·
     cases hk
     rw [hpr.1.1] at hedge; cases hedge
    ·
     have := (hpr.1.2 _ hk).2
     simp only [pairB, Ae, Cm, Cf] at this
     rw [this.1] at hedge; cases hedge
   rw [hnil] at this
   cases this
  ·
   obtain ⟨hi1, o, ho, hedges⟩ := mem_ready.1 hi
   have hilt : i < ops.size := (Az.1 ho).1
   obtain ⟨k, hk⟩ := (hmem i hilt).1 hi1
   obtain ⟨σ1, σ2, rfl⟩ := List.append_of_mem hk
   obtain ⟨hp1, hp2, hp3⟩ := qfp hpr
   have hanc : ∀ j, ancB A i j = true → L.getD j false = true := by
    intro j hj
    have hjl := hA i j hj
    have h1 := Ai.1 (Ai.1 hc i (Cl.2 hilt)) j (Cl.2 hjl)
    simp only [hj, Cf, Do, Cw, Cz, Ae] at h1
    rcases h1 with h1 | ⟨m, _, h2, h3⟩
    ·
     obtain ⟨e, he, hb, rfl⟩ := (qbG ho).1 h1
     exact hedges e he hb
    ·
     obtain ⟨e, he, hb, rfl⟩ := (qbG ho).1 h2
     exact hclo _ j (hedges e he hb) h3
   have hfr : ∀ s ∈ σ1, s.2 = .R ∧ kdW k = false ∧ ∃ oj, ops[s.1]? = some oj ∧ oj.apart ops o = true := by
    intro s hs
    obtain ⟨u1, u2⟩ := hp2 s hs
    simp only [pairB, Ae, Cw, Cm, Cf] at u1
    rcases u1.2 with u3 | ⟨⟨u3, u4⟩, u5⟩
    ·
     exfalso
     have h1 := hanc s.1 u3
     have h2 := (hmem s.1 (hlt s (by simp [hs]))).2 ⟨s.2, by simp [hs]⟩
     have hjl : s.1 < L.size := by rw [hL]; exact hlt s (by simp [hs])
     simp only [Am, Ar hjl, Bj] at h1 h2
     rw [h1] at h2; cases h2
    ·
     refine ⟨?_, u4, ?_⟩
     ·
      cases hs2 : s.2 with
      | R => rfl
      | X => rw [hs2] at u3; cases u3
      | W => rw [hs2] at u3; cases u3
     ·
      unfold apartB at u5
      rw [ho] at u5
      cases hoj : ops[s.1]? with
      | none => rw [hoj] at u5; cases u5
      | some oj => rw [hoj] at u5; exact ⟨oj, rfl, u5⟩
   have pf := DAL.front ho hfr p
   have hL' : (L.setIfInBounds i true).size = ops.size := by simp [hL]
   have hlen' : (σ1 ++ σ2).length = n := by simp at hn ⊢; omega
   have hmem' : ∀ j, j < ops.size → ((L.setIfInBounds i true).getD j true = false ↔ ∃ k, (j, k) ∈ σ1 ++ σ2) := by
    intro j hj
    by_cases hji : i = j
    ·
     subst hji
     have : (L.setIfInBounds i true).getD i true = true := by
      simp [Array.getD_eq_getD_getElem?]
     rw [this]
     constructor
     ·
      intro e; cases e
     ·
      rintro ⟨k', hk'⟩
      exfalso
      rcases Bh.1 hk' with h1 | h1
      ·
       exact (hp2 _ h1).2 rfl
      ·
       exact hp3 _ h1 rfl
    ·
     rw [getD_set_ne _ hji, hmem j hj]
     constructor
     ·
      rintro ⟨k', hk'⟩
      refine ⟨k', ?_⟩
      rcases Bh.1 hk' with h1 | h1
      ·
       exact Ch _ h1
      ·
       rcases Ak.1 h1 with h2 | h2
       ·
        cases h2; exact absurd rfl hji
       ·
        exact Br _ h2
     ·
      rintro ⟨k', hk'⟩
      refine ⟨k', ?_⟩
      rcases Bh.1 hk' with h1 | h1
      ·
       exact Ch _ h1
      ·
       exact Br _ (by simp [h1])
   have hlt' : ∀ s ∈ σ1 ++ σ2, s.1 < ops.size := by
    intro s hs
    refine hlt s ?_
    rcases Bh.1 hs with h1 | h1
    ·
     exact Ch _ h1
    ·
     exact Br _ (by simp [h1])
   have hclo' : ∀ x y, (L.setIfInBounds i true).getD x false = true → ancB A x y = true → (L.setIfInBounds i true).getD y false = true := by
    intro x y hx hxy
    refine getD_set_true ?_
    by_cases hxi : i = x
    ·
     subst hxi; exact hanc y hxy
    ·
     rw [getD_set_ne _ hxi] at hx
     exact hclo x y hx hxy
   have go : ∀ (φ' : Ren) (env' : Env) (h' : Heap) (a' : Act) (w' : World), a'.defers = [] → Rel P N φ' env' h' a'.tmps w' → Step φ h w φ' h' w' → DAL P N ops Q (σ1 ++ σ2) env' h' →
     wpAny P .any ops (fun ex a2 w2 => Post P N φ h w (Q ex) a2 w2) n (L.setIfInBounds i true) a' w' := by
    intro φ' env' h' a' w' hd' r' st p'
    exact qbJ (fun _ _ _ hp => hp.trans st) _ _ _ _ (ih (σ1 ++ σ2) _ env' h' φ' a' w' hlen' hL' hmem' hlt' hclo' hp1 hd' r' p')
   have run : ∀ (K : Value → Heap → Prop), dstB N o.dst = true → gv ops env o = some true → AOp P o (ev P env) h K → (∀ v h', K v h' → DAL P N ops Q (σ1 ++ σ2) (env.put o.dst v) h') →
     wpOp P ops (fun ex a2 w2 => Post P N φ h w (Q ex) a2 w2) i (wpAny P .any ops (fun ex a2 w2 => Post P N φ h w (Q ex) a2 w2) n (L.setIfInBounds i true)) a w := by
    intro K hdst hg hop hk
    simp only [wpOp, ho, qbk r hg, if_true]
    refine .inl (hop φ a w ⟨r.sim, fun x _ => r.ev x⟩ _ _ fun c w' φ' h' v kv vr s st => ?_)
    exact go φ' _ h' _ w' (by rw [qa6]; exact hd) ((r.step s st).put o.dst (qbX hdst) vr) st (hk v h' kv)
   have skip : dstB N o.dst = true → gv ops env o = some false → DAL P N ops Q (σ1 ++ σ2) (env.put o.dst skipV) h →
     wpOp P ops (fun ex a2 w2 => Post P N φ h w (Q ex) a2 w2) i (wpAny P .any ops (fun ex a2 w2 => Post P N φ h w (Q ex) a2 w2) n (L.setIfInBounds i true)) a w := by
    intro hdst hg hk
    simp only [wpOp, ho, qbk r hg, Bk, if_false]
    exact go φ _ h _ w (by rw [qa6]; exact hd) (r.put o.dst (qbX hdst) .skip) (Step.refl _ _ _) hk
   cases k with
   | R =>
    obtain ⟨o', ho', hdst, v, hv, pk⟩ := pf
    rw [ho] at ho'; cases ho'
    rcases hv with ⟨g1, g2⟩ | ⟨g1, rfl⟩
    ·
     exact run _ hdst g1 (g2 h (aU h) (Aa _)) fun v' h' ⟨e1, e2⟩ => by subst e1 e2; exact pk
    ·
     exact skip hdst g1 pk
   | X =>
    obtain ⟨o', ho', hdst, hv⟩ := pf
    rw [ho] at ho'; cases ho'
    rcases hv with ⟨g1, g2⟩ | ⟨g1, g2⟩
    ·
     exact run _ hdst g1 g2 fun v' h' ⟨_, e2⟩ => e2
    ·
     exact skip hdst g1 g2
   | W =>
    obtain ⟨o', ho', hdst, hv⟩ := pf
    rw [ho] at ho'; cases ho'
    rcases hv with ⟨g1, g2⟩ | ⟨g1, g2⟩
    ·
     exact run _ hdst g1 g2 fun v' h' e2 => e2
    ·
     exact skip hdst g1 g2
theorem AWp.draw {id : Nat} {σ : List (Nat × Kd)} {env : Env} {h : Heap} (hm : P.follows .mixedOrders = true) (hb : drawB ops σ = true) (p : DAL P N ops Q σ env h) : AWp P N (.region id ops true) Q env h := by
 intro φ a w hd r
 simp only [drawB, Ae] at hb
 obtain ⟨⟨⟨⟨⟨⟨b1, b2⟩, b3⟩, b4⟩, b5⟩, b6⟩, b7⟩ := hb
 have b1' : σ.length = ops.size := Bz b1
 refine wp_region_any hm ?_
 have r' : Rel P N φ env h a.tmps w.drew := ⟨r.sim.drew, r.size, r.env⟩
 refine qbJ (fun _ _ _ hp => hp.trans Step.drew) _ _ _ _ (any_order (Region.before ops) b5 b7 ?_ ops.size σ (Array.replicate ops.size false) env h φ a w.drew b1' (by simp) ?_ ?_ ?_ b6 hd r' p)
 ·
  intro i j hij
  unfold ancB at hij
  rcases Bx j ops.size with hl | hl
  ·
   exact hl
  ·
   exfalso
   have hx : (Region.before ops).getD i 0 < 2 ^ ops.size := by
    rcases Bx i (Region.before ops).size with h1 | h1
    ·
     have := Be.1 b4 ((Region.before ops)[i]) (by simp)
     rw [Am, Ar h1]
     simpa [Nat.blt_eq] using this
    ·
     rw [Am, Cq h1]
     exact Nat.two_pow_pos _
   have := Nat.testBit_lt_two_pow (Co hx (Dv (by omega) hl))
   rw [this] at hij
   cases hij
 ·
  intro i hi
  have h1 : (Array.replicate ops.size false).getD i true = false := by
   simp [Array.getD_eq_getD_getElem?, hi]
  rw [h1]
  simp only [true_iff]
  have := Ai.1 b2 i (Cl.2 hi)
  obtain ⟨⟨j, k⟩, h2, h3⟩ := Cz.1 this
  have : j = i := Bz h3
  subst this
  exact ⟨k, h2⟩
 ·
  intro s hs
  simpa [Nat.blt_eq] using Ai.1 b3 s hs
 ·
  intro i j hi
  exfalso
  by_cases hl : i < ops.size
  ·
   simp [Array.getD_eq_getD_getElem?, hl] at hi
  ·
   simp [Array.getD_eq_getD_getElem?, hl] at hi
abbrev bJ := @AWp.draw
section steps
variable {i : Nat} {σ : List (Nat × Kd)} {env : Env} {h : Heap} {d : Tmp} {op : Op} {ty : TypeId} {pos : String} {aft : Array Edge} {g : Option (Nat × Bool)}
theorem DAL.r {v : Value} (ho : ops[i]? = some ⟨some d, op, ty, pos, aft, g⟩) (hd : Nat.blt d N = true) (hg : gv ops env ⟨some d, op, ty, pos, aft, g⟩ = some true) (hv : ∀ h', Ext h h' → h.next ≤ h'.next → AOp P ⟨some d, op, ty, pos, aft, g⟩ (ev P env) h' fun v' h'' => v' = v ∧ h'' = h')
  (k : DAL P N ops Q σ ((d, v) :: env) h) : DAL P N ops Q ((i, .R) :: σ) env h := ⟨_, ho, hd, v, .inl ⟨hg, hv⟩, k⟩
theorem dr {v : Value} (ho : ops[i]? = some ⟨some d, op, ty, pos, aft, g⟩) (hb : sB N ops env d ⟨some d, op, ty, pos, aft, g⟩ = true) (hv : ∀ h', Ext h h' → h.next ≤ h'.next → AOp P ⟨some d, op, ty, pos, aft, g⟩ (ev P env) h' fun v' h'' => v' = v ∧ h'' = h')
  (k : DAL P N ops Q σ ((d, v) :: env) h) : DAL P N ops Q ((i, .R) :: σ) env h := DAL.r ho (sB_1 hb) (sB_2 hb) hv k
theorem DAL.skip {kd : Kd} (ho : ops[i]? = some ⟨some d, op, ty, pos, aft, g⟩) (hd : Nat.blt d N = true) (hg : gv ops env ⟨some d, op, ty, pos, aft, g⟩ = some false)
  (k : DAL P N ops Q σ ((d, skipV) :: env) h) : DAL P N ops Q ((i, kd) :: σ) env h := by
 cases kd
 ·
  exact ⟨_, ho, hd, skipV, .inr ⟨hg, rfl⟩, k⟩
 ·
  exact ⟨_, ho, hd, .inr ⟨hg, k⟩⟩
 ·
  exact ⟨_, ho, hd, .inr ⟨hg, k⟩⟩
abbrev bX := @DAL.skip
theorem DAL.x (ho : ops[i]? = some ⟨some d, op, ty, pos, aft, g⟩) (hd : Nat.blt d N = true) (hg : gv ops env ⟨some d, op, ty, pos, aft, g⟩ = some true) (hv : AOp P ⟨some d, op, ty, pos, aft, g⟩ (ev P env) h fun v h' => Ext h h' ∧ DAL P N ops Q σ ((d, v) :: env) h') :
  DAL P N ops Q ((i, .X) :: σ) env h := ⟨_, ho, hd, .inl ⟨hg, hv⟩⟩
theorem DAL.w (ho : ops[i]? = some ⟨some d, op, ty, pos, aft, g⟩) (hd : Nat.blt d N = true) (hg : gv ops env ⟨some d, op, ty, pos, aft, g⟩ = some true) (hv : AOp P ⟨some d, op, ty, pos, aft, g⟩ (ev P env) h fun v h' => DAL P N ops Q σ ((d, v) :: env) h') :
  DAL P N ops Q ((i, .W) :: σ) env h := ⟨_, ho, hd, .inl ⟨hg, hv⟩⟩
theorem DAL.w0 (ho : ops[i]? = some ⟨none, op, ty, pos, aft, g⟩) (hg : gv ops env ⟨none, op, ty, pos, aft, g⟩ = some true) (hv : AOp P ⟨none, op, ty, pos, aft, g⟩ (ev P env) h fun _ h' => DAL P N ops Q σ env h') :
  DAL P N ops Q ((i, .W) :: σ) env h := ⟨_, ho, rfl, .inl ⟨hg, hv⟩⟩
theorem DAL.nil (k : Q .normal env h) : DAL P N ops Q [] env h := fun _ _ _ hd r => Post.now k hd r
abbrev aX := @DAL.nil
end steps
variable {P : Program} {ρ : Operand → Value} {h : Heap} {K : Value → Heap → Prop} {dst : Option Tmp} {ty : TypeId} {pos : String} {aft : Array Edge} {g : Option (Nat × Bool)}
def subS (v : Value) (l m : Int) : Value :=
 match v with
 | .slice (some ⟨i, o, s⟩) _ c => .slice (some ⟨i, o + l.toNat * 1, s⟩) (m - l).toNat (c - l.toNat)
 | _ => .slice none 0 0
def ptrS (v : Value) (a : Int) : Value :=
 match v with
 | .slice (some ⟨i, o, _⟩) _ _ => .pointer (some ⟨i, o + a.toNat * 1, none⟩)
 | _ => undef
def RS (h : Heap) (v : Value) (vs : List Value) : Prop :=
 (v = .slice none 0 0 ∧ vs = []) ∨
 ∃ i o s c, v = .slice (some ⟨i, o, s⟩) vs.length c ∧ (s = none ∨ s = some 1) ∧ (vs ≠ [] → ∃ b, h.get i = some b ∧ o + vs.length ≤ b.cells.length ∧ (b.cells.drop o).take vs.length = vs)
def RB (h : Heap) (v : Value) (l : List UInt8) : Prop := RS h v (bv l)
def RBB (h : Heap) (v : Value) (ll : List (List UInt8)) : Prop := ∃ vs, RS h v vs ∧ vs.length = ll.length ∧ ∀ (k : Nat) x l, vs[k]? = some x → ll[k]? = some l → RB h x l
theorem RS.ext {h h' : Heap} {v : Value} {vs : List Value} (r : RS h v vs) (hx : Ext h h') : RS h' v vs := by
 rcases r with r | ⟨i, o, s, c, h1, h2, h3⟩
 ·
  exact .inl r
 ·
  exact .inr ⟨i, o, s, c, h1, h2, fun hv => by obtain ⟨b, h4, h5⟩ := h3 hv; exact ⟨b, hx i b h4, h5⟩⟩
theorem RB.ext {h h' : Heap} {v : Value} {l : List UInt8} (r : RB h v l) (hx : Ext h h') : RB h' v l := RS.ext r hx
theorem RBB.ext {h h' : Heap} {v : Value} {l : List (List UInt8)} (r : RBB h v l) (hx : Ext h h') : RBB h' v l := by
 obtain ⟨vs, h1, h2, h3⟩ := r
 exact ⟨vs, h1.ext hx, h2, fun k x l hk hl => (h3 k x l hk hl).ext hx⟩
theorem RS.slice {v : Value} {vs : List Value} (r : RS h v vs) : ∃ a c, v = .slice a vs.length c := by
 rcases r with ⟨rfl, rfl⟩ | ⟨i, o, s, c, h1, _⟩
 ·
  exact ⟨none, 0, rfl⟩
 ·
  exact ⟨_, c, h1⟩
abbrev bC := @RS.slice
theorem RS.nil (h : Heap) : RS h (.slice none 0 0) [] := .inl ⟨rfl, rfl⟩
theorem RB.nil (h : Heap) : RB h (.slice none 0 0) [] := .inl ⟨rfl, rfl⟩
abbrev bR := @RB.nil
theorem RS.of {i o n c : Nat} {s : Option Nat} {b : Blk} {vs : List Value} (hi : h.get i = some b) (hs : s = none ∨ s = some 1) (hn : vs.length = n) (hl : o + n ≤ b.cells.length) (hv : (b.cells.drop o).take n = vs) : RS h (.slice (some ⟨i, o, s⟩) n c) vs := by
 subst hn
 exact .inr ⟨i, o, s, c, rfl, hs, fun _ => ⟨b, hi, hl, hv⟩⟩
theorem RS.own {i n c : Nat} {e : TypeId} {w : Bool} {vs : List Value} (hi : h.get i = some ⟨vs, e, w⟩) (hn : vs.length = n) : RS h (.slice (some ⟨i, 0, some 1⟩) n c) vs := by
 subst hn
 exact .inr ⟨i, 0, some 1, c, rfl, .inr rfl, fun _ => ⟨_, hi, by simp, by simp⟩⟩
abbrev bK := @RS.own
theorem RS.src {v : Value} {vs : List Value} (r : RS h v vs) : Src h 1 v vs.length vs := by
 rcases r with ⟨rfl, rfl⟩ | ⟨i, o, s, c, rfl, hs, hb⟩
 ·
  exact .nil
 ·
  by_cases hv : vs = []
  ·
   subst hv; exact .empty _ _
  ·
   obtain ⟨b, h1, h2, h3⟩ := hb hv
   have := Src.slice (h := h) (sz := 1) i o s vs.length c b h1 (by omega)
   rw [Ed, h3] at this
   exact this
theorem RB.src {v : Value} {l : List UInt8} (r : RB h v l) : Src h 1 v l.length (bv l) := by
 have := RS.src r
 rwa [qaE] at this
theorem qaz {x : Operand} {t e : TypeId} {v : Value} {vs : List Value} [td : TyD P t (.slice e)] (r : RS h v vs) (hx : ρ x = v) (kk : K (.int .i64 vs.length) h) :
  AOp P ⟨dst, .call ⟨.builtin .len, #[x], #[t]⟩, ty, pos, aft, g⟩ ρ h K := by
 obtain ⟨a, c, e⟩ := r.slice
 exact qch (hx.trans e) kk
theorem qaJ {x : Operand} {t e : TypeId} {v : Value} {l : List UInt8} [td : TyD P t (.slice e)] (r : RB h v l) (hx : ρ x = v) (kk : K (.int .i64 l.length) h) :
  AOp P ⟨dst, .call ⟨.builtin .len, #[x], #[t]⟩, ty, pos, aft, g⟩ ρ h K := qaz r hx (by rw [qaE]; exact kk)
def PT (h : Heap) (p v : Value) : Prop := ∃ i o s b, p = .pointer (some ⟨i, o, s⟩) ∧ h.get i = some b ∧ b.cells[o]? = some v
theorem qas {t e : TypeId} {x y : Operand} {by_ : Nat} {z v u : Value} {k : IntKind} {a : Int} {vs : List Value} [td : TyD P t (.slice e)] [ti : TyI P e 1 by_ z] (r : RS h v vs) (hx : ρ x = v) (hy : ρ y = .int k a) (h0 : 0 ≤ a)
  (hu : vs[a.toNat]? = some u) (kk : PT h (ptrS v a) u → K (ptrS v a) h) : AOp P ⟨dst, .indexAddr t x y, ty, pos, aft, g⟩ ρ h K := by
 have hl := (Av.1 hu).1
 rcases r with ⟨rfl, rfl⟩ | ⟨i, o, s, c, rfl, hs, hb⟩
 ·
  simp at hl
 ·
  obtain ⟨b, h1, h2, h3⟩ := hb (by intro e; subst e; simp at hl)
  refine qeI hx hy h0 (by omega) (kk ⟨i, o + a.toNat * 1, none, b, rfl, h1, ?_⟩)
  rw [Ed]
  have : ((b.cells.drop o).take vs.length)[a.toNat]? = some u := by rw [h3]; exact hu
  rw [Bt hl, Db] at this
  exact this
theorem qba {t e : TypeId} {x y : Operand} {by_ : Nat} {z v u : Value} {k : IntKind} {a : Int} {vs : List Value} [td : TyD P t (.slice e)] [ti : TyI P e 1 by_ z] (r : RS h v vs) (hx : ρ x = v) (hy : ρ y = .int k a) (h0 : 0 ≤ a)
  (hu : vs[a.toNat]? = some u) (kk : ∀ p, PT h p u → K p h) : AOp P ⟨dst, .indexAddr t x y, ty, pos, aft, g⟩ ρ h K := qas r hx hy h0 hu (kk _)
theorem PT.of {v u : Value} {vs : List Value} {a : Int} (r : RS h v vs) (hu : vs[a.toNat]? = some u) : PT h (ptrS v a) u := by
 have hl := (Av.1 hu).1
 rcases r with ⟨rfl, rfl⟩ | ⟨i, o, s, c, rfl, hs, hb⟩
 ·
  simp at hl
 ·
  obtain ⟨b, h1, h2, h3⟩ := hb (by intro e; subst e; simp at hl)
  refine ⟨i, o + a.toNat * 1, none, b, rfl, h1, ?_⟩
  rw [Ed]
  have : ((b.cells.drop o).take vs.length)[a.toNat]? = some u := by rw [h3]; exact hu
  rw [Bt hl, Db] at this
  exact this
abbrev bL := @PT.of
theorem qar {t : TypeId} {x : Operand} {p v : Value} {d : TypeDesc} [td : TyD P t d] (r : PT h p v) (hx : ρ x = p) (ha : aggB d = false) (kk : K v h) : AOp P ⟨dst, .load t x, ty, pos, aft, g⟩ ρ h K := by
 obtain ⟨i, o, s, b, rfl, h1, h2⟩ := r
 exact qaf hx ha h1 h2 kk
theorem qap {sT dT e : TypeId} {x : Operand} {v : Value} {l : List UInt8} [ts : TyD P sT (.slice e)] [te : TyD P e (.int .u8)] [td : TyD P dT .string] (r : RB h v l) (hx : ρ x = v) (kk : K (.string (bstr l)) h) : AOp P ⟨dst, .convert sT dT x, ty, pos, aft, g⟩ ρ h K := by
 rcases r with ⟨rfl, hl⟩ | ⟨i, o, s, c, rfl, hs, hb⟩
 ·
  have : l = [] := by cases l with | nil => rfl | cons _ _ => simp [bv] at hl
  subst this
  exact op_nilStr hx kk
 ·
  rw [qaE] at hx hb
  by_cases hv : l = []
  ·
   subst hv
   refine .of_pure kk fun φ ac w r => ?_
   obtain ⟨cap', a', e1, _⟩ := (hx ▸ r.ev x (by simp [Op.operands])).slice_inv
   refine ⟨.string (bstr []), ?_, .string _⟩
   have hr := run_convert_bytes_back (P := P) w sT dT e a' cap' [] ts.eq te.eq td.eq (by intro j hj; simp at hj)
   simp only [Ag] at hr e1
   simp [execOp, e1, hr, bstr]
  ·
   obtain ⟨b, h1, h2, h3⟩ := hb (by cases l with | nil => exact absurd rfl hv | cons _ _ => simp [bv])
   exact qhf hx h1 h2 h3 kk
theorem RS.one {v : Value} {vs : List Value} (r : RS h v vs) : oneB v = true ∧ v ≠ undef := by
 obtain ⟨a, c, e⟩ := r.slice
 subst e
 exact ⟨rfl, fun h => by cases h⟩
abbrev cV := @RS.one
theorem fillRow {n : Nat} : ∀ (vs : List Value) (k : Nat) (cells : List Value), (∀ v ∈ vs, oneB v = true) → k + vs.length ≤ cells.length → n = cells.length →
  fillA (fun i => some (i * 1, 1)) cells ((List.range' k vs.length).zip vs) = some (splice cells k vs)
 | [], k, cells, _, _, _ => by simp [fillA, splice]
 | v :: vs, k, cells, h1, h2, h3 => by
  have hc : v.cells = #[v] := by
   have := h1 v (by simp)
   cases v <;> first | rfl | (simp [oneB] at this)
  simp only [Ad] at h2
  simp only [Ad, List.range'_succ, List.zip_cons_cons, fillA, hc, Ed]
  have hne : ¬ ((decide ((#[v] : Array Value).size ≠ 1) || decide (k + (#[v] : Array Value).size > cells.length)) = true) := by
   simp only [Ef, Ad, Ag]
   simp
   omega
  rw [Ac hne]
  have ih := fillRow vs (k + 1) (splice cells k [v]) (fun u hu => h1 u (by simp [hu])) (by rw [qbc (by simp; omega)]; omega) (h3.trans (qbc (by simp; omega)).symm)
  simp only [Ed] at ih
  rw [ih]
  congr 1
  apply Eg
  intro j
  rw [qbo _ _ _ (by rw [qbc (by simp; omega)]; omega), qbo _ _ _ (by simp; omega), qbo _ _ _ (by simp only [Ad]; omega)]
  by_cases e1 : j = k
  ·
   subst e1
   rw [Ac (by omega), Ah (by simp), Ah (by simp)]
   simp
  ·
   by_cases e2 : k + 1 ≤ j ∧ j < k + 1 + vs.length
   ·
    rw [Ah e2, Ah (by simp; omega)]
    rw [show j - k = (j - (k + 1)) + 1 from by omega]
    simp
   ·
    rw [Ac e2, Ac (by simp; omega), Ac (by simp; omega)]
theorem qfo (cells vs : List Value) (hl : vs.length = cells.length) : splice cells 0 vs = vs := by
 simp [splice, hl]
theorem qaN {t e by_ : Nat} {z : Value} {len : Nat} {parts : Array (Nat × Operand)} (vs : List Value) [td : TyD P t (.slice e)] [ti : TyI P e 1 by_ z] (hz : oneB z = true) (hl : Nat.ble len 16777216 = true) (hp : parts.toList.map (fun p => (p.1, ρ p.2)) = (List.range' 0 vs.length).zip vs) (hlen : vs.length = len)
  (h1 : ∀ v ∈ vs, oneB v = true) (kk : K (.slice (some ⟨h.next, 0, some 1⟩) len len) (h.alloc ⟨vs, e, true⟩)) : AOp P ⟨dst, .buildSlice t len parts, ty, pos, aft, g⟩ ρ h K := by
 refine qfT (out := vs) hz (Ab hl) ?_ ?_ hlen kk
 ·
  intro p hpm hu
  have hm : (p.1, ρ p.2) ∈ parts.toList.map (fun p => (p.1, ρ p.2)) := Bp.2 ⟨p, hpm, rfl⟩
  rw [hp] at hm
  have hv := (List.of_mem_zip hm).2
  rw [hu] at hv
  have := h1 _ hv
  cases this
 ·
  rw [hp]
  have hrow := fillRow (n := len) vs 0 (List.replicate len z) h1 (by simp; omega) (by simp)
  rw [hrow, qfo _ _ (by simp; omega)]
theorem qhZ {t e : TypeId} {x : Operand} {i o n c : Nat} {s : Option Nat} {b : Blk} [td : TyD P t (.slice e)] [te : TyD P e (.int .u8)] (hx : ρ x = .slice (some ⟨i, o, s⟩) n c) (hn : Nat.blt 0 n = true) (hi : h.get i = some b) (ho : b.own = true) (kk : K (.slice (some ⟨i, o, s⟩) n c) h) (hbe : b.elem = e := by rfl) :
  AOp P ⟨dst, .convert t t x, ty, pos, aft, g⟩ ρ h K :=
 .of_run fun φ ac w r => by
  have hv := hx ▸ r.ev x (by simp [Op.operands])
  obtain ⟨cap', a', e1, hlt, q1, q2, q3, q4, q5, q6⟩ := hv.slice_inv
  have hn0 : 0 < n := by simpa [Nat.blt_eq] using hn
  obtain rfl := q4.resolve_right (by omega)
  obtain ⟨arr, fr, a1, a2, a3, a4, a5⟩ := r.sim.owned hi ho
  have hsh : w.shape? (φ i).b = some (b.elem, arr.size) := by simp [World.shape?, a1]
  have hrun : (execOp ac.eval ⟨dst, .convert t t x, ty, pos, aft, g⟩).run P w = .ok (.value (ac.eval x)) (w.freeze ⟨(φ i).b, arr.size, none⟩ 1) := by
   have hm : (markStringish ⟨(φ i).b, (φ i).o + o, none⟩).run P w = .ok () (w.freeze ⟨(φ i).b, arr.size, none⟩ 1) := by
    simp [markStringish, hsh]
   simp [execOp, e1, convert, td.run, te.run, hm]
  have hheap : ∀ k : Nat, (w.freeze ⟨(φ i).b, arr.size, none⟩ 1).heap[k]? = if k = (φ i).b then some (.cells arr b.elem (if fr.1 == fr.2 then (arr.size, arr.size + 1) else (min fr.1 arr.size, max fr.2 (arr.size + 1)))) else w.heap[k]? := by
   intro k
   simp only [World.freeze, Nat.one_ne_zero, if_false, Array.getElem?_modify]
   by_cases hk : k = (φ i).b
   ·
    subst hk
    rw [Ah rfl, Ah rfl, a1]
    obtain ⟨lo, hi'⟩ := fr
    rfl
   ·
    rw [Ac (fun e => hk e.symm), Ac hk]
  obtain ⟨s1, s2⟩ := r.sim.write hi ho a1 (w' := w.freeze ⟨(φ i).b, arr.size, none⟩ 1) (arr' := arr) rfl (by
   split
   ·
    exact .inr ⟨Aa _, by rw [hbe]; exact te.eq⟩
   ·
    rename_i hne
    have hne' : fr.1 ≠ fr.2 := by simpa using hne
    rcases a3 with a3 | a3
    ·
     exact absurd a3 hne'
    ·
     right
     have a3 := a3.1
     exact ⟨by show arr.size ≤ min fr.1 arr.size; omega, by rw [hbe]; exact te.eq⟩) hheap (by simp [World.freeze]) (by simp [World.freeze]) (by simp [World.freeze]) b.cells a4 a5
  have hb : h.set i ⟨b.cells, b.elem, true⟩ = h := by
   have : (⟨b.cells, b.elem, true⟩ : Blk) = b := by cases b; simp_all
   rw [this]
   cases h with
   | mk gt nx ob =>
    simp only [Heap.set, Heap.mk.injEq, and_true]
    funext j
    by_cases hj : j = i
    ·
     subst hj; simp only [if_true]; exact hi.symm
    ·
     simp [hj]
  rw [hb] at s1 s2
  exact ⟨_, _, φ, h, _, hrun, kk, hv, s1, s2⟩
def RBs (h : Heap) : List Value → List (List UInt8) → Prop
 | [], [] => True
 | v :: vs, l :: ll => RB h v l ∧ RBs h vs ll
 | _, _ => False
theorem RBs.at {h : Heap} : ∀ {vs : List Value} {ll : List (List UInt8)}, RBs h vs ll → vs.length = ll.length ∧ ∀ (k : Nat) x l, vs[k]? = some x → ll[k]? = some l → RB h x l
 | [], [], _ => ⟨rfl, fun k x l hk => by simp at hk⟩
 | v :: vs, l :: ll, ⟨h1, h2⟩ => by
  obtain ⟨e, h3⟩ := RBs.at h2
  refine ⟨by simp [e], fun k x l' hk hl => ?_⟩
  cases k with
  | zero => simp at hk hl; subst hk hl; exact h1
  | succ k => exact h3 k x l' (by simpa using hk) (by simpa using hl)
 | [], _ :: _, h => h.elim
 | _ :: _, [], h => h.elim
theorem qcr (l : List UInt8) : ∀ v ∈ bv l, oneB v = true := Ai.1 (qcG l)
structure RoB where
 cells : List Value
 at_ : Addr
def roHeap (G : Nat) (bs : List RoB) : Heap := ⟨fun i => if i < G then none else (bs[i - G]?).bind fun b => if b.cells.isEmpty then none else some ⟨b.cells, 0, false⟩, G + bs.length, fun _ => none⟩
def roRen (G : Nat) (bs : List RoB) : Ren := fun i => if i < G then ⟨i, 0, 0⟩ else match bs[i - G]? with
 | some b => ⟨b.at_.block, b.at_.off, 0⟩
 | none => ⟨0, 0, 0⟩
def roOk (G : Nat) (bs : List RoB) (W : World) : Prop := ∀ b ∈ bs, b.at_.spot = none ∧ ∀ (k : Nat) v, b.cells[k]? = some v → ∃ c, W.cell? (b.at_.add k) = some c ∧ VRel (roRen G bs) (G + bs.length) v c
theorem roSim {bs : List RoB} {W : World} (hok : roOk P.globals.size bs W) : Sim P (roRen P.globals.size bs) (roHeap P.globals.size bs) W := by
 have key : ∀ i b, (roHeap P.globals.size bs).get i = some b → ∃ rb, P.globals.size ≤ i ∧ bs[i - P.globals.size]? = some rb ∧ b = ⟨rb.cells, 0, false⟩ ∧ rb.cells ≠ [] := by
  intro i b hb
  have : (if i < P.globals.size then none else (bs[i - P.globals.size]?).bind fun b => if b.cells.isEmpty then none else some (⟨b.cells, 0, false⟩ : Blk)) = some b := hb
  split at this
  ·
   cases this
  ·
   cases hq : bs[i - P.globals.size]? with
   | none => rw [hq] at this; cases this
   | some rb =>
    rw [hq] at this
    simp only [Da] at this
    split at this
    ·
     cases this
    ·
     rename_i hne
     cases this
     exact ⟨rb, by omega, rfl, rfl, by simpa using hne⟩
 have hren : ∀ i rb, P.globals.size ≤ i → bs[i - P.globals.size]? = some rb → roRen P.globals.size bs i = ⟨rb.at_.block, rb.at_.off, 0⟩ := by
  intro i rb hi hq
  simp only [roRen]
  rw [Ac (by omega), hq]
 have hcell : ∀ (rb : RoB), rb ∈ bs → ∀ (k : Nat) v, rb.cells[k]? = some v → ∃ c, W.cell? ⟨rb.at_.block, rb.at_.off + k, none⟩ = some c ∧ VRel (roRen P.globals.size bs) (P.globals.size + bs.length) v c := by
  intro rb hm k v hk
  obtain ⟨h1, h2⟩ := hok rb hm
  obtain ⟨c, h3, h4⟩ := h2 k v hk
  refine ⟨c, ?_, h4⟩
  obtain ⟨⟨bl, of_, sp⟩⟩ : ∃ a, a = rb.at_ := ⟨_, rfl⟩
  rw [show (⟨rb.at_.block, rb.at_.off + k, none⟩ : Addr) = rb.at_.add k from by
   cases ha : rb.at_ with
   | mk bl of_ sp =>
    rw [ha] at h1
    simp only at h1
    subst h1
    rw [Addr.add_lit]]
  exact h3
 refine ⟨⟨?_, fun _ _ => rfl⟩, ?_, ?_, ?_, ?_, (fun i o hi => by cases hi), (fun i j o hi => by cases hi)⟩
 ·
  intro i hi
  have h1 : P.globals.size + bs.length ≤ i := hi
  show (if i < P.globals.size then none else _) = none
  rw [Ac (by omega), Cc (by omega)]
  rfl
 ·
  intro i b hb
  obtain ⟨rb, h1, h2, rfl, h4⟩ := key i b hb
  simp only [BRel, Bk, if_false]
  refine ⟨.inl rfl, fun k v hk => ?_⟩
  rw [hren i rb h1 h2]
  exact hcell rb (Aw h2) k v hk
 ·
  intro i b hb
  obtain ⟨rb, h1, h2, rfl, h4⟩ := key i b hb
  rw [hren i rb h1 h2]
  obtain ⟨c, hc, _⟩ := hcell rb (Aw h2) 0 _ (At (by
   rcases Nat.eq_zero_or_pos rb.cells.length with h5 | h5
   ·
    exact absurd (Bu h5) h4
   ·
    exact h5))
  have := World.block_lt_of_cell? W _ hc
  exact this
 ·
  intro i j b hb ho
  obtain ⟨rb, h1, h2, rfl, h4⟩ := key i b hb
  cases ho
 ·
  intro gl hg
  refine ⟨?_, ?_⟩
  ·
   simp [roRen, hg]
  ·
   show gl < P.globals.size + bs.length
   omega
def IsRow (k : IntKind) (w : World) (a : Option Addr) (len cap : Nat) (zs : List Int) : Prop :=
 (a = none ∧ len = 0 ∧ cap = 0 ∧ zs = []) ∨
 ∃ x, a = some x ∧ len ≤ cap ∧ cap ≤ maxLen ∧ zs.length = cap ∧ (∀ i, i < zs.length → w.cell? (x.add i) = some (.int k (zs.getD i 0))) ∧ ∀ n ∈ zs, (Lit.int k n).wf = true
def atOf (a : Option Addr) (cap : Nat) : Addr := if cap = 0 then ⟨0, 0, none⟩ else a.getD ⟨0, 0, none⟩
def absS (a : Option Addr) (i len cap : Nat) : Value :=
 match a with
 | none => .slice none 0 0
 | some _ => .slice (some ⟨i, 0, none⟩) len (if cap = len then len else len + 1)
def toB (zs : List Int) : List UInt8 := zs.map fun z => UInt8.ofNat z.toNat
def iv (k : IntKind) (zs : List Int) : List Value := zs.map fun z => .int k z
section
variable {k : IntKind} {W : World} {a : Option Addr} {len cap : Nat} {zs : List Int} {G : Nat} {bs : List RoB} {j : Nat}
end
def IsRows (k : IntKind) (W : World) (a : Option Addr) (len cap : Nat) (A : Nat → Option Addr) (L C : Nat → Nat) (Z : Nat → List Int) : Prop :=
 (a = none ∧ len = 0 ∧ cap = 0) ∨
 ∃ x, a = some x ∧ len ≤ cap ∧ cap ≤ maxLen ∧ ∀ r, r < cap → W.cell? (x.add r) = some (.slice (A r) (L r) (C r)) ∧ IsRow k W (A r) (L r) (C r) (Z r)
section
variable {k : IntKind} {W : World} {a : Option Addr} {len cap : Nat} {A : Nat → Option Addr} {L C : Nat → Nat} {Z : Nat → List Int} {G : Nat} {bs : List RoB} {j0 j1 : Nat}
def outer (G j1 : Nat) (len : Nat) (A : Nat → Option Addr) (L C : Nat → Nat) : List Value := (List.range len).map fun r => absS (A r) (G + (j1 + r)) (L r) (C r)
def inner (k : IntKind) (len : Nat) (A : Nat → Option Addr) (L C : Nat → Nat) (Z : Nat → List Int) : List RoB := (List.range len).map fun r => ⟨iv k ((Z r).take (L r)), atOf (A r) (C r)⟩
end
theorem qdU {α : Type} {c : Nat} : ∀ {L : List (List α)}, (∀ l ∈ L, l.length = c) → L.flatten.length = L.length * c
 | [], _ => by simp
 | l :: L, h => by
  rw [List.flatten_cons, An, h l (by simp), qdU (fun x hx => h x (Ay _ hx)), Ad, Dk]
  omega
theorem qft {α : Type} {c : Nat} : ∀ {L : List (List α)}, (∀ l ∈ L, l.length = c) → ∀ {k : Nat} {l : List α}, L[k]? = some l → (L.flatten.drop (k * c)).take c = l
 | [], _, k, l, hk => by simp at hk
 | x :: L, h, 0, l, hk => by
  simp only [Ee, Option.some.injEq] at hk
  subst hk
  have := h x (by simp)
  rw [Nat.zero_mul, Du, List.flatten_cons, List.take_append_of_le_length (by omega), Cr (by omega)]
 | x :: L, h, k + 1, l, hk => by
  have hx := h x (by simp)
  rw [Di] at hk
  have := qft (fun y hy => h y (Ay _ hy)) hk
  rw [List.flatten_cons, show (k + 1) * c = x.length + k * c by rw [Dk]; omega, List.drop_length_add_append]
  exact this
section
variable {P : Program}
def laysF (P : Program) : List Field → Nat → Option Nat
 | [], o => some o
 | f :: r, o => if f.offset = o then laysF P r (o + P.cellsOf f.type) else none
def plainT (P : Program) : Nat → TypeId → Bool
 | 0, _ => false
 | n + 1, t => match P.underlying t with
  | some .bool | some (.int _) | some .string => P.cellsOf t == 1
  | some (.slice e) => P.cellsOf t == 1 && Nat.blt 0 (P.cellsOf e) && plainT P n e
  | some (.struct fs) => laysF P fs.toList 0 == some (P.cellsOf t) && fs.toList.all fun f => plainT P n f.type
  | some (.array m e) => P.cellsOf t == m * P.cellsOf e && plainT P n e
  | _ => false
def Rd (P : Program) (h : Heap) : Nat → TypeId → List Value → Prop
 | 0, _, _ => False
 | n + 1, t, cs => match P.underlying t with
  | some .bool => ∃ b, cs = [.bool b]
  | some (.int k) => ∃ a, cs = [.int k a] ∧ (Lit.int k a).wf = true
  | some .string => ∃ s, cs = [.string (bstr s)] ∧ s.length ≤ reachBytes
  | some (.slice e) => cs = [.slice none 0 0] ∨ ∃ i len cap cells, cs = [.slice (some ⟨i, 0, none⟩) len cap] ∧ len * P.bytesOf e ≤ reachBytes ∧ cells.length = len * P.cellsOf e ∧ (cells ≠ [] → h.get i = some ⟨cells, 0, false⟩) ∧
    ∀ k, k < len → Rd P h n e ((cells.drop (k * P.cellsOf e)).take (P.cellsOf e))
  | some (.struct fs) => cs.length = P.cellsOf t ∧ ∀ f ∈ fs.toList, Rd P h n f.type ((cs.drop f.offset).take (P.cellsOf f.type))
  | some (.array m e) => cs.length = P.cellsOf t ∧ ∀ k, k < m → Rd P h n e ((cs.drop (k * P.cellsOf e)).take (P.cellsOf e))
  | _ => False
def RoAll (G : Nat) (bs bs' : List RoB) (W : World) : Prop := ∀ b ∈ bs', b.at_.spot = none ∧ ∀ (k : Nat) v, b.cells[k]? = some v → ∃ c, W.cell? (b.at_.add k) = some c ∧ VRel (roRen G bs) (G + bs.length) v c
def Opens (P : Program) (G : Nat) (W : World) (n : Nat) (t : TypeId) (cs : List Value) : Prop :=
 ∀ bs : List RoB, ∃ (bs' : List RoB) (avs : List Value), RoAll G (bs ++ bs') bs' W ∧ VRels (roRen G (bs ++ bs')) (G + (bs ++ bs').length) avs cs ∧ Rd P (roHeap G (bs ++ bs')) n t avs
section
variable {H : Type} {enc : TypeId × Value → H} {W : World} {base : Nat} {spare : Nat → Bool} {held : Bool}
end
end
section
variable {P : Program}
def wholeB : Option TypeDesc → Bool
 | some (.struct _) => true
 | some (.array _ _) => true
 | _ => false
def RdV (P : Program) (h : Heap) (n : Nat) (t : TypeId) (v : Value) : Prop :=
 bif wholeB (P.underlying t) then ∃ cs : Array Value, v = .agg cs ∧ Rd P h n t cs.toList else Rd P h n t [v]
variable {H : Type} {enc : TypeId × Value → H} {W : World}
theorem trodAll_stays (hl : laidOutB P = true) {W' : World} (hb : Go.RowKit.Below W.heap.size W W') : ∀ (ts : List TypeId) (vs : List Value) (ds : List (DataW H)) (ps : List MemPlace), (∀ t ∈ ts, P.readableRec t = true ∧ t < P.types.size) →
  DataW.TrodAll enc P W 0 (fun _ => true) true ts vs ds ps → DataW.TrodAll enc P W' 0 (fun b => decide (b < W.heap.size)) true ts vs ds ps
 | [], vs, ds, ps, _, h => by
  obtain ⟨rfl, rfl, rfl⟩ := Go.ChangeShapes.trodAll_nil h
  rfl
 | t :: ts, vs, ds, ps, hr, h => by
  obtain ⟨v, vs', d, ds', p, q, rfl, rfl, rfl, h0, hr'⟩ := Go.ChangeShapes.trodAll_cons h
  obtain ⟨h1, h2⟩ := hr t (by simp)
  have hlt : ∀ x ∈ p, x.block < W.heap.size := by obtain ⟨m, hm⟩ := h0; exact DataW.trod_lt m _ _ _ hm
  exact trodAll_cons_mk (Go.RowKit.Below.trod hl h1 h2 h0 hb hlt) (trodAll_stays hl hb ts vs' ds' q (fun t' ht => hr t' (Ay _ ht)) hr')
end
variable {P : Program} {ρ : Operand → Value} {h : Heap} {K : Value → Heap → Prop} {dst : Option Tmp} {ty : TypeId} {pos : String} {aft : Array Edge} {g : Option (Nat × Bool)}
def OS (B : Nat) (h : Heap) (e : TypeId) (v : Value) (vs : List Value) : Prop :=
 (v = .slice none 0 0 ∧ vs = []) ∨ ∃ i c, B ≤ i ∧ v = .slice (some ⟨i, 0, some 1⟩) vs.length c ∧ h.get i = some ⟨vs, e, true⟩
theorem OS.rs {B : Nat} {e : TypeId} {v : Value} {vs : List Value} (r : OS B h e v vs) : RS h v vs := by
 rcases r with ⟨rfl, rfl⟩ | ⟨i, c, _, rfl, hi⟩
 ·
  exact RS.nil h
 ·
  exact bK hi rfl
abbrev bW := @OS.rs
theorem OS.nil (B : Nat) (h : Heap) (e : TypeId) : OS B h e (.slice none 0 0) [] := .inl ⟨rfl, rfl⟩
abbrev bP := @OS.nil
theorem OS.new {B : Nat} {e : TypeId} {vs : List Value} {n c : Nat} (hB : B ≤ h.next) (hn : vs.length = n) : OS B (h.alloc ⟨vs, e, true⟩) e (.slice (some ⟨h.next, 0, some 1⟩) n c) vs := by
 subst hn
 exact .inr ⟨h.next, c, hB, rfl, aB _ _⟩
structure Keeps (v : Value) (h h' : Heap) : Prop where
 c : ∀ j b, h.get j = some b → (∀ s n c, v ≠ .slice (some ⟨j, 0, s⟩) n c) → h'.get j = some b
 o : ∀ j b, h.obj j = some b → h'.obj j = some b
instance (v : Value) (h h' : Heap) : CoeFun (Keeps v h h') (fun _ => ∀ j b, h.get j = some b → (∀ s n c, v ≠ .slice (some ⟨j, 0, s⟩) n c) → h'.get j = some b) := ⟨Keeps.c⟩
theorem Keeps.ext {B : Nat} {e : TypeId} {v : Value} {vs : List Value} {h0 h' : Heap} (k : Keeps v h h') (r : OS B h e v vs) (wf0 : WF h0) (hB : h0.next ≤ B) (hx : Ext h0 h) : Ext h0 h' := by
 refine ⟨fun j b hj => ?_, fun j o hj => k.o j o (hx.o j o hj)⟩
 refine k.c j b (hx.c j b hj) fun s n c hv => ?_
 have hlt := wf0.lt hj
 rcases r with ⟨rfl, _⟩ | ⟨i, c', hi, rfl, _⟩
 ·
  cases hv
 ·
  cases hv; omega
theorem OS.alloc {B : Nat} {e : TypeId} {v : Value} {vs : List Value} (r : OS B h e v vs) (wf : WF h) (b : Blk) : OS B (h.alloc b) e v vs := by
 rcases r with ⟨rfl, rfl⟩ | ⟨i, c, h1, rfl, h2⟩
 ·
  exact .inl ⟨rfl, rfl⟩
 ·
  exact .inr ⟨i, c, h1, rfl, wf.ext b i _ h2⟩
theorem OS.ext {B : Nat} {e : TypeId} {v : Value} {vs : List Value} {h' : Heap} (r : OS B h e v vs) (hx : Ext h h') : OS B h' e v vs := by
 rcases r with ⟨rfl, rfl⟩ | ⟨i, c, h1, rfl, h2⟩
 ·
  exact .inl ⟨rfl, rfl⟩
 ·
  exact .inr ⟨i, c, h1, rfl, hx i _ h2⟩
theorem qaX {t t2 e : TypeId} {d2 : TypeDesc} {x y : Operand} {by_ B m : Nat} {z u v : Value} {vs news : List Value} [td : TyD P t (.slice e)] [t2d : TyD P t2 d2] [ti : TyI P e 1 by_ z] (hd2 : appB d2 = true) (wf : WF h) (hB : B ≤ h.next)
  (r : OS B h e u vs) (hx : ρ x = u) (hy : ρ y = v) (hs : Src h 1 v m news) (hm : news.length = m) (hone : news.all oneB = true) (h1 : vs.length + m ≤ maxLen) (h2 : (vs.length + m) * by_ ≤ 140737488355328)
  (kk : ∀ u' h', OS B h' e u' (vs ++ news) → Keeps u h h' → WF h' → h.next ≤ h'.next → K u' h') : AOp P ⟨dst, .call ⟨.builtin .append, #[x, y], #[t, t2]⟩, ty, pos, aft, g⟩ ρ h K := by
 rcases r with ⟨rfl, rfl⟩ | ⟨i, c, hBi, rfl, hi⟩
 ·
  refine qdG (z := z) hd2 hx hy hs (by simpa using h1) (by simpa using h2) (fun hm0 => ?_) (fun hm0 => ?_)
  ·
   have : news = [] := Bu (by omega)
   subst this
   exact kk _ _ (.inl ⟨rfl, rfl⟩) ⟨fun j b hj _ => hj, fun j b hj => hj⟩ wf (Aa _)
  ·
   exact kk _ _ (.inr ⟨h.next, m + 1, hB, by simp [hm], by simp [aB]⟩) ⟨fun j b hj _ => (wf.ext _).c j b hj, fun j b hj => hj⟩ (wf.alloc _) (by simp [Heap.alloc])
 ·
  refine qgx (z := z) hd2 hx hy hi rfl rfl (by simp) hs hone h1 h2 ?_
  refine kk _ _ (.inr ⟨h.next, vs.length + m + 1, hB, by simp [hm], Heap.kill_alloc_new _ _ _⟩) ⟨fun j b hj hne => ?_, fun j b hj => hj⟩ ((wf.kill i).alloc _) (by simp [Heap.alloc, Heap.kill])
  have := wf.lt hj
  rw [Heap.kill_alloc_old (by omega) (fun e => hne (some 1) vs.length c (by rw [e]))]
  exact hj
end Go.Eng
