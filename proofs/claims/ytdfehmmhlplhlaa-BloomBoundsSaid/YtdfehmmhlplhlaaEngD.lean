/-
  The engine, part D: a region's operations, one behind the other.
-/
import Derived.Test.YtdfehmmhlplhlaaEngC
namespace Go.Eng
open Go

theorem letsOut_mono {Q Q' : Exit → Act → World → Prop} (hq : ∀ e a w, Q e a w → Q' e a w) (l : LetsOut Q) : LetsOut Q' := by
  obtain ⟨a, w, k⟩ := l
  exact ⟨a, w, hq _ _ _ k⟩
theorem upon_mono {P : Program} {o : Oper} {a : Act} {next next' : Act → World → Prop} {Q Q' : Exit → Act → World → Prop} (hn : ∀ a w, next a w → next' a w) (hq : ∀ e a w, Q e a w → Q' e a w) :
    ∀ r, o.upon P a next Q r → o.upon P a next' Q' r := by
  intro r hr
  unfold Oper.upon at hr ⊢
  split at hr
  · exact hn _ _ hr
  · exact hn _ _ hr
  · exact hn _ _ hr
  · refine hr.mono fun e w' k => ?_
    cases e with
    | returned v => exact hn _ _ k
    | panicked c => exact hq _ _ _ k
    | outgrown => exact letsOut_mono hq k
  · exact hr.mono fun _ _ k => hn _ _ k
  · exact hq _ _ _ hr
  · exact hr.elim
theorem wpList_mono {P : Program} {ops : Array Oper} {Q Q' : Exit → Act → World → Prop} (hq : ∀ e a w, Q e a w → Q' e a w) : ∀ (l : List Oper) (a : Act) (w : World), wpList P ops Q l a w → wpList P ops Q' l a w
  | [], _, _, p => hq _ _ _ p
  | o :: rest, a, w, p => by
    simp only [wpList] at p ⊢
    split
    · rename_i hw
      rw [if_pos hw] at p
      rcases p with p | ⟨p1, p2⟩
      · exact .inl (upon_mono (wpList_mono hq rest) hq _ p)
      · exact .inr ⟨p1, letsOut_mono hq p2⟩
    · rename_i hw
      rw [if_neg hw] at p
      exact wpList_mono hq rest _ _ p

/-- The operations that are left of a region. -/
def AL (P : Program) (N : Nat) (ops : Array Oper) (l : List Oper) (Q : Exit → Env → Heap → Prop) (env : Env) (h : Heap) : Prop :=
  ∀ φ a w, a.defers = [] → Rel P N φ env h a.tmps w → wpList P ops (fun ex a' w' => Post P N φ h w (Q ex) a' w') l a w
/-- One operation: what it yields, and the heap behind it. -/
structure RelO (P : Program) (φ : Ren) (ρ : Operand → Value) (o : Oper) (h : Heap) (a : Act) (w : World) : Prop where
  sim : Sim P φ h w
  ev : ∀ x, x ∈ o.op.operands → VRel φ h.next (ρ x) (a.eval x)
def AOp (P : Program) (o : Oper) (ρ : Operand → Value) (h : Heap) (K : Value → Heap → Prop) : Prop :=
  ∀ φ a w, RelO P φ ρ o h a w → ∀ (next : Act → World → Prop) (Qc : Exit → Act → World → Prop),
    (∀ c w' φ' h' v, K v h' → VRel φ' h'.next v c → Sim P φ' h' w' → Step φ h w φ' h' w' → next (a.put o.dst c) w') → o.wp P a w next Qc
def dstB (N : Nat) : Option Tmp → Bool
  | none => true
  | some d => Nat.blt d N

variable {P : Program} {N : Nat} {ops : Array Oper} {rest : List Oper} {o : Oper} {Q : Exit → Env → Heap → Prop} {env : Env} {ρ : Operand → Value} {h : Heap} {K : Value → Heap → Prop}

theorem dstB_lt {d : Option Tmp} (hd : dstB N d = true) : ∀ t, d = some t → t < N := by
  rintro t rfl
  simpa [dstB, Nat.blt_eq] using hd
theorem AWp.region {id : Nat} (p : AL P N ops ops.toList Q env h) : AWp P N (.region id ops false) Q env h :=
  fun φ a w hd r => wp_region_list (p φ a w hd r)
theorem AL.nil (k : Q .normal env h) : AL P N ops [] Q env h := fun _ _ _ hd r => Post.now k hd r
theorem put_defers (a : Act) (d : Option Tmp) (c : Value) : (a.put d c).defers = a.defers := by cases d <;> rfl
def gv (ops : Array Oper) (env : Env) (o : Oper) : Option Bool :=
  match o.guard with
  | none => some true
  | some (j, want) => match (ops[j]?).bind (·.dst) with
    | some t => match env.get t with
      | .bool b => some (b == want)
      | _ => none
    | none => none

theorem wanted_of {φ : Ren} {env : Env} {h : Heap} {tmps : Array Value} {w : World} {o : Oper} {b : Bool} (r : Rel P N φ env h tmps w) (hg : gv ops env o = some b) : Region.wanted o (yielded ops tmps) = b := by
  unfold gv at hg
  unfold Region.wanted
  cases hgd : o.guard with
  | none => rw [hgd] at hg; simpa using hg
  | some jw =>
    obtain ⟨j, want⟩ := jw
    rw [hgd] at hg
    simp only at hg ⊢
    cases hj : (ops[j]?).bind (·.dst) with
    | none => rw [hj] at hg; simp at hg
    | some t =>
      rw [hj] at hg
      simp only at hg
      cases hv : env.get t with
      | bool x =>
        rw [hv] at hg
        simp only [Option.some.injEq] at hg
        have h1 := r.env t
        rw [hv] at h1
        have h2 := h1.bool_inv
        have ht : t < tmps.size := by
          rcases Nat.lt_or_ge t tmps.size with hl | hl
          · exact hl
          · rw [Array.getD_eq_getD_getElem?, Array.getElem?_eq_none hl] at h2
            simp [undef] at h2
        have h3 : tmps[t]? = some (.bool x) := by
          rw [Array.getElem?_eq_getElem ht]
          rw [← h2]
          simp [Array.getD_eq_getD_getElem?, Array.getElem?_eq_getElem ht]
        simp only [yielded, hj, Option.bind_some, h3]
        rw [← hg]
        cases x <;> cases want <;> rfl
      | _ => rw [hv] at hg; simp at hg

theorem AL.set {d : Tmp} {op : Op} {ty : TypeId} {pos : String} {aft : Array Edge} {g : Option (Nat × Bool)} (hd : Nat.blt d N = true) (hg : gv ops env ⟨some d, op, ty, pos, aft, g⟩ = some true)
    (p : AOp P ⟨some d, op, ty, pos, aft, g⟩ (ev P env) h fun v h' => AL P N ops rest Q ((d, v) :: env) h') : AL P N ops (⟨some d, op, ty, pos, aft, g⟩ :: rest) Q env h := by
  intro φ a w hdf r
  simp only [wpList, wanted_of r hg, if_true]
  refine .inl (p φ a w ⟨r.sim, fun x _ => r.ev x⟩ _ _ fun c w' φ' h' v k vr s st => ?_)
  exact wpList_mono (fun _ _ _ hp => hp.trans st) _ _ _ (k φ' _ w' (by rw [put_defers]; exact hdf) ((r.step s st).put (some d) (dstB_lt hd) vr))
theorem AL.eff {op : Op} {ty : TypeId} {pos : String} {aft : Array Edge} {g : Option (Nat × Bool)} (hg : gv ops env ⟨none, op, ty, pos, aft, g⟩ = some true) (p : AOp P ⟨none, op, ty, pos, aft, g⟩ (ev P env) h fun _ h' => AL P N ops rest Q env h') :
    AL P N ops (⟨none, op, ty, pos, aft, g⟩ :: rest) Q env h := by
  intro φ a w hdf r
  simp only [wpList, wanted_of r hg, if_true]
  refine .inl (p φ a w ⟨r.sim, fun x _ => r.ev x⟩ _ _ fun c w' φ' h' v k vr s st => ?_)
  exact wpList_mono (fun _ _ _ hp => hp.trans st) _ _ _ (k φ' _ w' (by rw [put_defers]; exact hdf) (r.step s st))
theorem AL.skip {d : Option Tmp} {op : Op} {ty : TypeId} {pos : String} {aft : Array Edge} {g : Option (Nat × Bool)} (hd : dstB N d = true) (hg : gv ops env ⟨d, op, ty, pos, aft, g⟩ = some false)
    (p : AL P N ops rest Q (env.put d undef) h) : AL P N ops (⟨d, op, ty, pos, aft, g⟩ :: rest) Q env h := by
  intro φ a w hdf r
  simp only [wpList, wanted_of r hg, Bool.false_eq_true, if_false]
  exact p φ _ w (by rw [put_defers]; exact hdf) (r.put d (dstB_lt hd) (.und _))
theorem AL.heap {l : List Oper} {h' : Heap} (e : h' = h) (p : AL P N ops l Q env h) : AL P N ops l Q env h' := e ▸ p
theorem AWp.heap {c : Code} {h' : Heap} (e : h' = h) (p : AWp P N c Q env h) : AWp P N c Q env h' := e ▸ p
theorem AOp.of_run (p : ∀ φ (a : Act) w, RelO P φ ρ o h a w → ∃ c w' φ' h' v, (execOp a.eval o).run P w = .ok (.value c) w' ∧ K v h' ∧ VRel φ' h'.next v c ∧ Sim P φ' h' w' ∧ Step φ h w φ' h' w') : AOp P o ρ h K := by
  intro φ a w r next Qc kk
  obtain ⟨c, w', φ', h', v, hr, k, v1, s, st⟩ := p φ a w r
  unfold Oper.wp
  rw [hr]
  exact kk c w' φ' h' v k v1 s st
theorem AOp.of_skip (p : ∀ φ (a : Act) w, RelO P φ ρ o h a w → ∃ w' φ' h', (execOp a.eval o).run P w = .ok .skip w' ∧ K undef h' ∧ Sim P φ' h' w' ∧ Step φ h w φ' h' w') : AOp P o ρ h K := by
  intro φ a w r next Qc kk
  obtain ⟨w', φ', h', hr, k, s, st⟩ := p φ a w r
  unfold Oper.wp
  rw [hr]
  exact kk undef w' φ' h' undef k (.und _) s st
theorem AOp.of_pure {v : Value} (k : K v h) (p : ∀ φ (a : Act) w, RelO P φ ρ o h a w → ∃ c, (execOp a.eval o).run P w = .ok (.value c) w ∧ VRel φ h.next v c) : AOp P o ρ h K :=
  .of_run fun φ a w r => by
    obtain ⟨c, hr, hv⟩ := p φ a w r
    exact ⟨c, w, φ, h, v, hr, k, hv, r.sim, Step.refl _ _ _⟩

/-- A type's text; what its values take, and its zero. -/
class TyD (P : Program) (t : TypeId) (d : outParam TypeDesc) : Prop where
  eq : P.underlying t = some d
class TyI (P : Program) (t : TypeId) (size bytes : outParam Nat) (zero : outParam Value) : Prop where
  ex : ∃ i, P.info? t = some i ∧ i.size = size ∧ i.bytes = bytes ∧ i.zero = some zero
  sz : zero.cells.size = size
  plain : zero.cells.toList.all scalar = true
theorem rep_plain (n : Nat) {z : Value} (hz : scalar z = true) : (Value.agg (Array.replicate n z)).cells.toList.all scalar = true := by
  show (Array.replicate n z).toList.all scalar = true
  rw [Array.toList_replicate]
  exact List.all_eq_true.2 fun v hv => by rw [List.eq_of_mem_replicate hv]; exact hz
theorem info_of {P : Program} {t : TypeId} {s b : Nat} {z : Value} (h : (P.info? t).map (fun i => (i.size, i.bytes, i.zero)) = some (s, b, some z)) : ∃ i, P.info? t = some i ∧ i.size = s ∧ i.bytes = b ∧ i.zero = some z := by
  cases hi : P.info? t with
  | none => rw [hi] at h; cases h
  | some i =>
    rw [hi] at h
    simp only [Option.map_some, Option.some.injEq, Prod.mk.injEq] at h
    exact ⟨i, rfl, h.1, h.2.1, h.2.2⟩
theorem TyI.size {t : TypeId} {s b : Nat} {z : Value} [k : TyI P t s b z] (w : World) : (sizeOf t).run P w = .ok s w := by
  obtain ⟨i, h1, h2, h3, h4⟩ := k.ex
  simp [sizeOf, typeInfo, h1, h2]
theorem TyI.zero {t : TypeId} {s b : Nat} {z : Value} [k : TyI P t s b z] (w : World) : (zeroValue t).run P w = .ok z w := by
  obtain ⟨i, h1, h2, h3, h4⟩ := k.ex
  simp [zeroValue, typeInfo, h1, h4]
theorem TyI.info {t : TypeId} {s b : Nat} {z : Value} [k : TyI P t s b z] (w : World) : ∃ i : TypeInfo, (typeInfo t).run P w = .ok i w ∧ i.size = s ∧ i.bytes = b ∧ i.zero = some z := by
  obtain ⟨i, h1, h2, h3, h4⟩ := k.ex
  exact ⟨i, by simp [typeInfo, h1], h2, h3, h4⟩
theorem TyD.run {t : TypeId} {d : TypeDesc} [k : TyD P t d] (w : World) : (underlying t).run P w = .ok d w := run_underlying k.eq w
def aggB : TypeDesc → Bool
  | .struct _ | .array _ _ => true
  | _ => false
theorem TyD.isAgg {t : TypeId} {d : TypeDesc} [k : TyD P t d] (w : World) : (isAgg t).run P w = .ok (aggB d) w := by
  simp only [Go.isAgg, Sem.run_bind, k.run, Result.andThen_ok]
  cases d <;> rfl

section pureops
variable {dst : Option Tmp} {ty : TypeId} {pos : String} {aft : Array Edge} {g : Option (Nat × Bool)}
theorem op_move {x : Operand} {v : Value} (hx : ρ x = v) (k : K v h) : AOp P ⟨dst, .move x, ty, pos, aft, g⟩ ρ h K :=
  .of_pure k fun φ a w r => ⟨a.eval x, by simp [execOp], hx ▸ r.ev x (by simp [Op.operands])⟩
theorem op_assign {x : Operand} {v : Value} (hx : ρ x = v) (k : K v h) : AOp P ⟨dst, .assign x, ty, pos, aft, g⟩ ρ h K :=
  .of_pure k fun φ a w r => ⟨a.eval x, by simp [execOp], hx ▸ r.ev x (by simp [Op.operands])⟩
theorem op_moveI {x : Operand} {i : IntKind} {a : Int} (hx : ρ x = .int i a) (k : K (.int i a) h) : AOp P ⟨dst, .move x, ty, pos, aft, g⟩ ρ h K := op_move hx k
theorem op_assignI {x : Operand} {i : IntKind} {a : Int} (hx : ρ x = .int i a) (k : K (.int i a) h) : AOp P ⟨dst, .assign x, ty, pos, aft, g⟩ ρ h K := op_assign hx k
theorem op_moveS {x : Operand} {p : Option Addr} {n c : Nat} (hx : ρ x = .slice p n c) (k : K (.slice p n c) h) : AOp P ⟨dst, .move x, ty, pos, aft, g⟩ ρ h K := op_move hx k
theorem op_assignS {x : Operand} {p : Option Addr} {n c : Nat} (hx : ρ x = .slice p n c) (k : K (.slice p n c) h) : AOp P ⟨dst, .assign x, ty, pos, aft, g⟩ ρ h K := op_assign hx k
theorem op_moveB {x : Operand} {b : Bool} (hx : ρ x = .bool b) (k : K (.bool b) h) : AOp P ⟨dst, .move x, ty, pos, aft, g⟩ ρ h K := op_move hx k
theorem op_assignB {x : Operand} {b : Bool} (hx : ρ x = .bool b) (k : K (.bool b) h) : AOp P ⟨dst, .assign x, ty, pos, aft, g⟩ ρ h K := op_assign hx k
theorem op_moveP {x : Operand} {p : Option Addr} (hx : ρ x = .pointer p) (k : K (.pointer p) h) : AOp P ⟨dst, .move x, ty, pos, aft, g⟩ ρ h K := op_move hx k
theorem op_assignP {x : Operand} {p : Option Addr} (hx : ρ x = .pointer p) (k : K (.pointer p) h) : AOp P ⟨dst, .assign x, ty, pos, aft, g⟩ ρ h K := op_assign hx k
theorem op_moveStr {x : Operand} {p : ByteArray} (hx : ρ x = .string p) (k : K (.string p) h) : AOp P ⟨dst, .move x, ty, pos, aft, g⟩ ρ h K := op_move hx k
theorem op_assignStr {x : Operand} {p : ByteArray} (hx : ρ x = .string p) (k : K (.string p) h) : AOp P ⟨dst, .assign x, ty, pos, aft, g⟩ ρ h K := op_assign hx k
theorem op_moveA {x : Operand} {p : Array Value} (hx : ρ x = .agg p) (k : K (.agg p) h) : AOp P ⟨dst, .move x, ty, pos, aft, g⟩ ρ h K := op_move hx k
theorem op_assignA {x : Operand} {p : Array Value} (hx : ρ x = .agg p) (k : K (.agg p) h) : AOp P ⟨dst, .assign x, ty, pos, aft, g⟩ ρ h K := op_assign hx k
theorem op_moveT {x : Operand} {p : Array Value} (hx : ρ x = .tuple p) (k : K (.tuple p) h) : AOp P ⟨dst, .move x, ty, pos, aft, g⟩ ρ h K := op_move hx k
theorem op_moveF {x : Operand} {f : Fn} {p q : Array Value} (hx : ρ x = .func f p q) (k : K (.func f p q) h) : AOp P ⟨dst, .move x, ty, pos, aft, g⟩ ρ h K := op_move hx k
theorem op_assignF {x : Operand} {f : Fn} {p q : Array Value} (hx : ρ x = .func f p q) (k : K (.func f p q) h) : AOp P ⟨dst, .assign x, ty, pos, aft, g⟩ ρ h K := op_assign hx k
theorem op_pick {c x y : Operand} {b : Bool} {v : Value} (hc : ρ c = .bool b) (hx : (bif b then ρ x else ρ y) = v) (k : K v h) : AOp P ⟨dst, .pick c x y, ty, pos, aft, g⟩ ρ h K :=
  .of_pure k fun φ a w r => by
    have h1 := r.ev c (by simp [Op.operands])
    rw [hc] at h1
    have h2 := h1.bool_inv
    refine ⟨if b then a.eval x else a.eval y, by simp [execOp, h2, asBool], ?_⟩
    subst hx
    cases b
    · exact r.ev y (by simp [Op.operands])
    · exact r.ev x (by simp [Op.operands])
end pureops
end Go.Eng
