/-
  Texts of one claim, merged: 4 parts.
-/
import Derived.Test.YtnioldkmckmajaaMna
set_option maxHeartbeats 16000000
/-
  The engine, part D: a region's operations, one behind the other.
-/
namespace Go.Eng
open Go
theorem letsOut_mono {Q Q' : Exit → Act → World → Prop} (hq : ∀ e a w, Q e a w → Q' e a w) (l : LetsOut Q) : LetsOut Q' := by
  obtain ⟨a, w, k⟩ := l
  exact ⟨a, w, hq _ _ _ k⟩
theorem upon_mono {P : Program} {o : Oper} {a : Act} {next next' : Act → World → Prop} {Q Q' : Exit → Act → World → Prop} (hn : ∀ a w, next a w → next' a w) (hq : ∀ e a w, Q e a w → Q' e a w) :
    ∀ r, o.upon P a next Q r → o.upon P a next' Q' r := by
  intro r hr
  unfold Oper.upon at hr ⊢
  split at hr
  · exact hn _ _ hr
  · exact hn _ _ hr
  · exact hn _ _ hr
  · refine hr.mono fun e w' k => ?_
    cases e with
    | returned v => exact hn _ _ k
    | panicked c => exact hq _ _ _ k
    | outgrown => exact letsOut_mono hq k
  · exact hr.mono fun _ _ k => hn _ _ k
  · exact hq _ _ _ hr
  · exact hr.elim
theorem wpList_mono {P : Program} {ops : Array Oper} {Q Q' : Exit → Act → World → Prop} (hq : ∀ e a w, Q e a w → Q' e a w) : ∀ (l : List Oper) (a : Act) (w : World), wpList P ops Q l a w → wpList P ops Q' l a w
  | [], _, _, p => hq _ _ _ p
  | o :: rest, a, w, p => by
    simp only [wpList] at p ⊢
    split
    · rename_i hw
      rw [if_pos hw] at p
      rcases p with p | ⟨p1, p2⟩
      · exact .inl (upon_mono (wpList_mono hq rest) hq _ p)
      · exact .inr ⟨p1, letsOut_mono hq p2⟩
    · rename_i hw
      rw [if_neg hw] at p
      exact wpList_mono hq rest _ _ p
def AL (P : Program) (N : Nat) (ops : Array Oper) (l : List Oper) (Q : Exit → Env → Heap → Prop) (env : Env) (h : Heap) : Prop :=
  ∀ φ a w, a.defers = [] → Rel P N φ env h a.tmps w → wpList P ops (fun ex a' w' => Post P N φ h w (Q ex) a' w') l a w
structure RelO (P : Program) (φ : Ren) (ρ : Operand → Value) (o : Oper) (h : Heap) (a : Act) (w : World) : Prop where
  sim : Sim P φ h w
  ev : ∀ x, x ∈ o.op.operands → VRel φ h.next (ρ x) (a.eval x)
def AOp (P : Program) (o : Oper) (ρ : Operand → Value) (h : Heap) (K : Value → Heap → Prop) : Prop :=
  ∀ φ a w, RelO P φ ρ o h a w → ∀ (next : Act → World → Prop) (Qc : Exit → Act → World → Prop),
    (∀ c w' φ' h' v, K v h' → VRel φ' h'.next v c → Sim P φ' h' w' → Step φ h w φ' h' w' → next (a.put o.dst c) w') → o.wp P a w next Qc
def dstB (N : Nat) : Option Tmp → Bool
  | none => true
  | some d => Nat.blt d N
variable {P : Program} {N : Nat} {ops : Array Oper} {rest : List Oper} {o : Oper} {Q : Exit → Env → Heap → Prop} {env : Env} {ρ : Operand → Value} {h : Heap} {K : Value → Heap → Prop}
theorem dstB_lt {d : Option Tmp} (hd : dstB N d = true) : ∀ t, d = some t → t < N := by
  rintro t rfl
  simpa [dstB, Nat.blt_eq] using hd
theorem AWp.region {id : Nat} (p : AL P N ops ops.toList Q env h) : AWp P N (.region id ops false) Q env h :=
  fun φ a w hd r => wp_region_list (p φ a w hd r)
theorem AL.nil (k : Q .normal env h) : AL P N ops [] Q env h := fun _ _ _ hd r => Post.now k hd r
theorem put_defers (a : Act) (d : Option Tmp) (c : Value) : (a.put d c).defers = a.defers := by cases d <;> rfl
def gv (ops : Array Oper) (env : Env) (o : Oper) : Option Bool :=
  match o.guard with
  | none => some true
  | some (j, want) => match (ops[j]?).bind (·.dst) with
    | some t => match env.get t with
      | .bool b => some (b == want)
      | .chan none => some false
      | _ => none
    | none => none
theorem wanted_of {φ : Ren} {env : Env} {h : Heap} {tmps : Array Value} {w : World} {o : Oper} {b : Bool} (r : Rel P N φ env h tmps w) (hg : gv ops env o = some b) : Region.wanted o (yielded ops tmps) = b := by
  unfold gv at hg
  unfold Region.wanted
  cases hgd : o.guard with
  | none => rw [hgd] at hg; simpa using hg
  | some jw =>
    obtain ⟨j, want⟩ := jw
    rw [hgd] at hg
    simp only at hg ⊢
    cases hj : (ops[j]?).bind (·.dst) with
    | none => rw [hj] at hg; simp at hg
    | some t =>
      rw [hj] at hg
      simp only at hg
      cases hv : env.get t with
      | bool x =>
        rw [hv] at hg
        simp only [Option.some.injEq] at hg
        have h1 := r.env t
        rw [hv] at h1
        have h2 := h1.bool_inv
        have ht : t < tmps.size := by
          rcases Nat.lt_or_ge t tmps.size with hl | hl
          · exact hl
          · rw [Array.getD_eq_getD_getElem?, Array.getElem?_eq_none hl] at h2
            simp [undef] at h2
        have h3 : tmps[t]? = some (.bool x) := by
          rw [Array.getElem?_eq_getElem ht]
          rw [← h2]
          simp [Array.getD_eq_getD_getElem?, Array.getElem?_eq_getElem ht]
        simp only [yielded, hj, Option.bind_some, h3]
        rw [← hg]
        cases x <;> cases want <;> rfl
      | chan x =>
        cases x with
        | some x => rw [hv] at hg; simp at hg
        | none =>
          rw [hv] at hg
          simp only [Option.some.injEq] at hg
          have h1 := r.env t
          rw [hv] at h1
          have h2 := h1.skip_inv
          rw [← hg]
          simp only [yielded, hj, Option.bind_some]
          rw [Array.getD_eq_getD_getElem?] at h2
          cases h3 : tmps[t]? with
          | none => rfl
          | some u => rw [h3] at h2; simp only [Option.getD_some] at h2; rw [h2]; rfl
      | _ => rw [hv] at hg; simp at hg
theorem AL.set {d : Tmp} {op : Op} {ty : TypeId} {pos : String} {aft : Array Edge} {g : Option (Nat × Bool)} (hd : Nat.blt d N = true) (hg : gv ops env ⟨some d, op, ty, pos, aft, g⟩ = some true)
    (p : AOp P ⟨some d, op, ty, pos, aft, g⟩ (ev P env) h fun v h' => AL P N ops rest Q ((d, v) :: env) h') : AL P N ops (⟨some d, op, ty, pos, aft, g⟩ :: rest) Q env h := by
  intro φ a w hdf r
  simp only [wpList, wanted_of r hg, if_true]
  refine .inl (p φ a w ⟨r.sim, fun x _ => r.ev x⟩ _ _ fun c w' φ' h' v k vr s st => ?_)
  exact wpList_mono (fun _ _ _ hp => hp.trans st) _ _ _ (k φ' _ w' (by rw [put_defers]; exact hdf) ((r.step s st).put (some d) (dstB_lt hd) vr))
theorem AL.eff {op : Op} {ty : TypeId} {pos : String} {aft : Array Edge} {g : Option (Nat × Bool)} (hg : gv ops env ⟨none, op, ty, pos, aft, g⟩ = some true) (p : AOp P ⟨none, op, ty, pos, aft, g⟩ (ev P env) h fun _ h' => AL P N ops rest Q env h') :
    AL P N ops (⟨none, op, ty, pos, aft, g⟩ :: rest) Q env h := by
  intro φ a w hdf r
  simp only [wpList, wanted_of r hg, if_true]
  refine .inl (p φ a w ⟨r.sim, fun x _ => r.ev x⟩ _ _ fun c w' φ' h' v k vr s st => ?_)
  exact wpList_mono (fun _ _ _ hp => hp.trans st) _ _ _ (k φ' _ w' (by rw [put_defers]; exact hdf) (r.step s st))
theorem AL.skip {d : Option Tmp} {op : Op} {ty : TypeId} {pos : String} {aft : Array Edge} {g : Option (Nat × Bool)} (hd : dstB N d = true) (hg : gv ops env ⟨d, op, ty, pos, aft, g⟩ = some false)
    (p : AL P N ops rest Q (env.put d skipV) h) : AL P N ops (⟨d, op, ty, pos, aft, g⟩ :: rest) Q env h := by
  intro φ a w hdf r
  simp only [wpList, wanted_of r hg, Bool.false_eq_true, if_false]
  exact p φ _ w (by rw [put_defers]; exact hdf) (r.put d (dstB_lt hd) .skip)
theorem AL.heap {l : List Oper} {h' : Heap} (e : h' = h) (p : AL P N ops l Q env h) : AL P N ops l Q env h' := e ▸ p
theorem AOp.of_run (p : ∀ φ (a : Act) w, RelO P φ ρ o h a w → ∃ c w' φ' h' v, (execOp a.eval o).run P w = .ok (.value c) w' ∧ K v h' ∧ VRel φ' h'.next v c ∧ Sim P φ' h' w' ∧ Step φ h w φ' h' w') : AOp P o ρ h K := by
  intro φ a w r next Qc kk
  obtain ⟨c, w', φ', h', v, hr, k, v1, s, st⟩ := p φ a w r
  unfold Oper.wp
  rw [hr]
  exact kk c w' φ' h' v k v1 s st
theorem AOp.of_skip (p : ∀ φ (a : Act) w, RelO P φ ρ o h a w → ∃ w' φ' h', (execOp a.eval o).run P w = .ok .skip w' ∧ K undef h' ∧ Sim P φ' h' w' ∧ Step φ h w φ' h' w') : AOp P o ρ h K := by
  intro φ a w r next Qc kk
  obtain ⟨w', φ', h', hr, k, s, st⟩ := p φ a w r
  unfold Oper.wp
  rw [hr]
  exact kk undef w' φ' h' undef k (.und _) s st
theorem AOp.of_pure {v : Value} (k : K v h) (p : ∀ φ (a : Act) w, RelO P φ ρ o h a w → ∃ c, (execOp a.eval o).run P w = .ok (.value c) w ∧ VRel φ h.next v c) : AOp P o ρ h K :=
  .of_run fun φ a w r => by
    obtain ⟨c, hr, hv⟩ := p φ a w r
    exact ⟨c, w, φ, h, v, hr, k, hv, r.sim, Step.refl _ _ _⟩
class TyD (P : Program) (t : TypeId) (d : outParam TypeDesc) : Prop where
  eq : P.underlying t = some d
class TyI (P : Program) (t : TypeId) (size bytes : outParam Nat) (zero : outParam Value) : Prop where
  ex : ∃ i, P.info? t = some i ∧ i.size = size ∧ i.bytes = bytes ∧ i.zero = some zero
  sz : zero.cells.size = size
  plain : zero.cells.toList.all scalar = true
theorem rep_plain (n : Nat) {z : Value} (hz : scalar z = true) : (Value.agg (Array.replicate n z)).cells.toList.all scalar = true := by
  show (Array.replicate n z).toList.all scalar = true
  rw [Array.toList_replicate]
  exact List.all_eq_true.2 fun v hv => by rw [List.eq_of_mem_replicate hv]; exact hz
theorem info_of {P : Program} {t : TypeId} {s b : Nat} {z : Value} (h : (P.info? t).map (fun i => (i.size, i.bytes, i.zero)) = some (s, b, some z)) : ∃ i, P.info? t = some i ∧ i.size = s ∧ i.bytes = b ∧ i.zero = some z := by
  cases hi : P.info? t with
  | none => rw [hi] at h; cases h
  | some i =>
    rw [hi] at h
    simp only [Option.map_some, Option.some.injEq, Prod.mk.injEq] at h
    exact ⟨i, rfl, h.1, h.2.1, h.2.2⟩
theorem TyI.size {t : TypeId} {s b : Nat} {z : Value} [k : TyI P t s b z] (w : World) : (sizeOf t).run P w = .ok s w := by
  obtain ⟨i, h1, h2, h3, h4⟩ := k.ex
  simp [sizeOf, typeInfo, h1, h2]
theorem TyI.zero {t : TypeId} {s b : Nat} {z : Value} [k : TyI P t s b z] (w : World) : (zeroValue t).run P w = .ok z w := by
  obtain ⟨i, h1, h2, h3, h4⟩ := k.ex
  simp [zeroValue, typeInfo, h1, h4]
theorem TyD.run {t : TypeId} {d : TypeDesc} [k : TyD P t d] (w : World) : (underlying t).run P w = .ok d w := run_underlying k.eq w
def aggB : TypeDesc → Bool
  | .struct _ | .array _ _ => true
  | _ => false
theorem TyD.isAgg {t : TypeId} {d : TypeDesc} [k : TyD P t d] (w : World) : (isAgg t).run P w = .ok (aggB d) w := by
  simp only [Go.isAgg, Sem.run_bind, k.run, Result.andThen_ok]
  cases d <;> rfl
section pureops
variable {dst : Option Tmp} {ty : TypeId} {pos : String} {aft : Array Edge} {g : Option (Nat × Bool)}
theorem op_move {x : Operand} {v : Value} (hx : ρ x = v) (k : K v h) : AOp P ⟨dst, .move x, ty, pos, aft, g⟩ ρ h K :=
  .of_pure k fun φ a w r => ⟨a.eval x, by simp [execOp], hx ▸ r.ev x (by simp [Op.operands])⟩
theorem op_assign {x : Operand} {v : Value} (hx : ρ x = v) (k : K v h) : AOp P ⟨dst, .assign x, ty, pos, aft, g⟩ ρ h K :=
  .of_pure k fun φ a w r => ⟨a.eval x, by simp [execOp], hx ▸ r.ev x (by simp [Op.operands])⟩
theorem op_moveI {x : Operand} {i : IntKind} {a : Int} (hx : ρ x = .int i a) (k : K (.int i a) h) : AOp P ⟨dst, .move x, ty, pos, aft, g⟩ ρ h K := op_move hx k
theorem op_assignI {x : Operand} {i : IntKind} {a : Int} (hx : ρ x = .int i a) (k : K (.int i a) h) : AOp P ⟨dst, .assign x, ty, pos, aft, g⟩ ρ h K := op_assign hx k
theorem op_moveS {x : Operand} {p : Option Addr} {n c : Nat} (hx : ρ x = .slice p n c) (k : K (.slice p n c) h) : AOp P ⟨dst, .move x, ty, pos, aft, g⟩ ρ h K := op_move hx k
theorem op_assignS {x : Operand} {p : Option Addr} {n c : Nat} (hx : ρ x = .slice p n c) (k : K (.slice p n c) h) : AOp P ⟨dst, .assign x, ty, pos, aft, g⟩ ρ h K := op_assign hx k
theorem op_moveB {x : Operand} {b : Bool} (hx : ρ x = .bool b) (k : K (.bool b) h) : AOp P ⟨dst, .move x, ty, pos, aft, g⟩ ρ h K := op_move hx k
theorem op_assignB {x : Operand} {b : Bool} (hx : ρ x = .bool b) (k : K (.bool b) h) : AOp P ⟨dst, .assign x, ty, pos, aft, g⟩ ρ h K := op_assign hx k
theorem op_moveP {x : Operand} {p : Option Addr} (hx : ρ x = .pointer p) (k : K (.pointer p) h) : AOp P ⟨dst, .move x, ty, pos, aft, g⟩ ρ h K := op_move hx k
theorem op_assignP {x : Operand} {p : Option Addr} (hx : ρ x = .pointer p) (k : K (.pointer p) h) : AOp P ⟨dst, .assign x, ty, pos, aft, g⟩ ρ h K := op_assign hx k
theorem op_moveStr {x : Operand} {p : ByteArray} (hx : ρ x = .string p) (k : K (.string p) h) : AOp P ⟨dst, .move x, ty, pos, aft, g⟩ ρ h K := op_move hx k
theorem op_assignStr {x : Operand} {p : ByteArray} (hx : ρ x = .string p) (k : K (.string p) h) : AOp P ⟨dst, .assign x, ty, pos, aft, g⟩ ρ h K := op_assign hx k
theorem op_moveA {x : Operand} {p : Array Value} (hx : ρ x = .agg p) (k : K (.agg p) h) : AOp P ⟨dst, .move x, ty, pos, aft, g⟩ ρ h K := op_move hx k
theorem op_assignA {x : Operand} {p : Array Value} (hx : ρ x = .agg p) (k : K (.agg p) h) : AOp P ⟨dst, .assign x, ty, pos, aft, g⟩ ρ h K := op_assign hx k
theorem op_moveT {x : Operand} {p : Array Value} (hx : ρ x = .tuple p) (k : K (.tuple p) h) : AOp P ⟨dst, .move x, ty, pos, aft, g⟩ ρ h K := op_move hx k
theorem op_moveF {x : Operand} {f : Fn} {p q : Array Value} (hx : ρ x = .func f p q) (k : K (.func f p q) h) : AOp P ⟨dst, .move x, ty, pos, aft, g⟩ ρ h K := op_move hx k
theorem op_assignF {x : Operand} {f : Fn} {p q : Array Value} (hx : ρ x = .func f p q) (k : K (.func f p q) h) : AOp P ⟨dst, .assign x, ty, pos, aft, g⟩ ρ h K := op_assign hx k
theorem op_pick {c x y : Operand} {b : Bool} {v : Value} (hc : ρ c = .bool b) (hx : (bif b then ρ x else ρ y) = v) (k : K v h) : AOp P ⟨dst, .pick c x y, ty, pos, aft, g⟩ ρ h K :=
  .of_pure k fun φ a w r => by
    have h1 := r.ev c (by simp [Op.operands])
    rw [hc] at h1
    have h2 := h1.bool_inv
    refine ⟨if b then a.eval x else a.eval y, by simp [execOp, h2, asBool], ?_⟩
    subst hx
    cases b
    · exact r.ev y (by simp [Op.operands])
    · exact r.ev x (by simp [Op.operands])
end pureops
end Go.Eng
/-
  The engine, part E: operations on plain values.
-/
namespace Go.Eng
open Go
variable {P : Program} {ρ : Operand → Value} {h : Heap} {K : Value → Heap → Prop} {dst : Option Tmp} {ty : TypeId} {pos : String} {aft : Array Edge} {g : Option (Nat × Bool)}
def binI (op : BinOp) (k : IntKind) (a : Int) (k' : IntKind) (b : Int) : Option Value :=
  match op with
  | .shl => if b < 0 then none else some (.int k (k.wrap (a * 2 ^ min b.toNat k.bits)))
  | .shr => if b < 0 then none else some (.int k (a.fdiv (2 ^ min b.toNat k.bits)))
  | .add => if k = k' then some (.int k (k.wrap (a + b))) else none
  | .sub => if k = k' then some (.int k (k.wrap (a - b))) else none
  | .mul => if k = k' then some (.int k (k.wrap (a * b))) else none
  | .quo => if k = k' then (if b = 0 then none else some (.int k (k.wrap (a.tdiv b)))) else none
  | .rem => if k = k' then (if b = 0 then none else some (.int k (a.tmod b))) else none
  | .and => if k = k' then some (.int k (k.wrap (BitVec.ofInt k.bits a &&& BitVec.ofInt k.bits b).toNat)) else none
  | .or => if k = k' then some (.int k (k.wrap (BitVec.ofInt k.bits a ||| BitVec.ofInt k.bits b).toNat)) else none
  | .xor => if k = k' then some (.int k (k.wrap (BitVec.ofInt k.bits a ^^^ BitVec.ofInt k.bits b).toNat)) else none
  | .andNot => if k = k' then some (.int k (k.wrap (BitVec.ofInt k.bits a &&& ~~~BitVec.ofInt k.bits b).toNat)) else none
  | .eql => if k = k' then some (.bool (decide (a = b))) else none
  | .neq => if k = k' then some (.bool (decide (a ≠ b))) else none
  | .lss => if k = k' then some (.bool (decide (a < b))) else none
  | .leq => if k = k' then some (.bool (decide (a ≤ b))) else none
  | .gtr => if k = k' then some (.bool (decide (b < a))) else none
  | .geq => if k = k' then some (.bool (decide (b ≤ a))) else none
theorem run_binI {op : BinOp} {t : TypeId} {k k' : IntKind} {a b : Int} {v : Value} (w : World) (hv : binI op k a k' b = some v) : (binOp op t (.int k a) (.int k' b)).run P w = .ok v w := by
  cases op <;> simp only [binI] at hv <;>
    first
    | (split at hv
       · rename_i hk; subst hk
         first
         | (split at hv
            · cases hv
            · rename_i hb; cases hv; simp [binOp, Op.intDiv, hb])
         | (cases hv; simp [binOp, Op.intArith, Op.intBits, Op.intCmp]; done)
         | (cases hv; simp [binOp, Op.intCmp]; rfl)
         | (cases hv; simp [binOp, Op.intArith, Op.intBits, Op.intCmp, bne]; by_cases hq : a = b <;> simp [hq])
       · cases hv)
    | (split at hv
       · cases hv
       · rename_i hb; cases hv; simp [binOp, Op.shift, hb])
theorem run_eqGuard_int {op : BinOp} {t : TypeId} {x y : Operand} {k k' : IntKind} {a b : Int} (w : World) : (eqGuard op t x y (.int k a) (.int k' b)).run P w = .ok () w := by
  cases op <;> simp [eqGuard]
theorem op_int {op : BinOp} {t t' : TypeId} {x y : Operand} {k k' : IntKind} {a b : Int} {v : Value} (hx : ρ x = .int k a) (hy : ρ y = .int k' b) (hv : binI op k a k' b = some v) (kk : K v h) :
    AOp P ⟨dst, .binOp op t x y t', ty, pos, aft, g⟩ ρ h K :=
  .of_run fun φ ac w r => by
    have h1 := hx ▸ r.ev x (by simp [Op.operands])
    have h2 := hy ▸ r.ev y (by simp [Op.operands])
    have e1 := h1.int_inv
    have e2 := h2.int_inv
    refine ⟨v, w, φ, h, v, ?_, kk, ?_, r.sim, Step.refl _ _ _⟩
    · simp [execOp, e1, e2, run_eqGuard_int, run_binI w hv]
    · refine .of_scalar ?_
      cases op <;> simp only [binI] at hv <;> (repeat' split at hv) <;> cases hv <;> rfl
theorem run_equalIn_bool {t : TypeId} [ti : TyD P t .bool] (a b : Bool) (w : World) (d : Nat) : (Op.equalIn (d + 1) t (.bool a) (.bool b)).run P w = .ok (a == b) w := by
  simp [Op.equalIn, ti.run]
theorem run_equal_bool {t : TypeId} [ti : TyD P t .bool] (a b : Bool) (w : World) : (Op.equal t (.bool a) (.bool b)).run P w = .ok (a == b) w := run_equalIn_bool a b w 9999
theorem op_boolEq {t t' : TypeId} {x y : Operand} {a b : Bool} [ti : TyD P t .bool] (hx : ρ x = .bool a) (hy : ρ y = .bool b) (kk : K (.bool (a == b)) h) :
    AOp P ⟨dst, .binOp .eql t x y t', ty, pos, aft, g⟩ ρ h K :=
  .of_pure kk fun φ ac w r => by
    have h1 := hx ▸ r.ev x (by simp [Op.operands])
    have h2 := hy ▸ r.ev y (by simp [Op.operands])
    have e1 := h1.bool_inv
    have e2 := h2.bool_inv
    refine ⟨_, ?_, .bool _⟩
    simp [execOp, e1, e2, eqGuard, binOp, run_equal_bool]
def strB (op : BinOp) (x y : ByteArray) : Option Bool :=
  match op with
  | .eql => some (x.toList == y.toList)
  | .neq => some (!(x.toList == y.toList))
  | .lss => some (Op.bytesLess x.toList y.toList)
  | .leq => some (Op.bytesLess x.toList y.toList || x.toList == y.toList)
  | .gtr => some (!(Op.bytesLess x.toList y.toList || x.toList == y.toList))
  | .geq => some (!(Op.bytesLess x.toList y.toList))
  | _ => none
theorem op_strB {op : BinOp} {t t' : TypeId} {x y : Operand} {a b : ByteArray} {c : Bool} (hx : ρ x = .string a) (hy : ρ y = .string b) (hc : strB op a b = some c) (kk : K (.bool c) h) :
    AOp P ⟨dst, .binOp op t x y t', ty, pos, aft, g⟩ ρ h K :=
  .of_pure kk fun φ ac w r => by
    have h1 := hx ▸ r.ev x (by simp [Op.operands])
    have h2 := hy ▸ r.ev y (by simp [Op.operands])
    have e1 := h1.string_inv
    have e2 := h2.string_inv
    refine ⟨_, ?_, .bool _⟩
    cases op <;> simp only [strB, Option.some.injEq, reduceCtorEq] at hc <;> subst hc <;> simp [execOp, e1, e2, eqGuard, binOp, Op.stringOp]
theorem op_strAdd {t t' : TypeId} {x y : Operand} {a b : ByteArray} (hx : ρ x = .string a) (hy : ρ y = .string b) (hs : a.size + b.size ≤ maxLen) (kk : K (.string (a ++ b)) h) :
    AOp P ⟨dst, .binOp .add t x y t', ty, pos, aft, g⟩ ρ h K :=
  .of_pure kk fun φ ac w r => by
    have h1 := hx ▸ r.ev x (by simp [Op.operands])
    have h2 := hy ▸ r.ev y (by simp [Op.operands])
    have e1 := h1.string_inv
    have e2 := h2.string_inv
    refine ⟨_, ?_, .string _⟩
    have hm : ¬ (IntKind.i64.max < (a.size : Int) + (b.size : Int)) := by
      have : IntKind.i64.max = 9223372036854775807 := rfl
      simp only [maxLen] at hs
      omega
    have hr : (Op.stringOp .add a b).run P w = .ok (.string (a ++ b)) w := by
      simp only [Op.stringOp]
      rw [if_neg (by push_cast; exact hm)]
      rfl
    simp [execOp, e1, e2, eqGuard, binOp, hr]
theorem op_not {t : TypeId} {x : Operand} {b : Bool} (hx : ρ x = .bool b) (kk : K (.bool (!b)) h) : AOp P ⟨dst, .unOp .not t x, ty, pos, aft, g⟩ ρ h K :=
  .of_pure kk fun φ ac w r => by
    have h1 := hx ▸ r.ev x (by simp [Op.operands])
    have e1 := h1.bool_inv
    exact ⟨_, by simp [execOp, e1, Op.unary], .bool _⟩
theorem op_com {t : TypeId} {x : Operand} {k : IntKind} {a : Int} (hx : ρ x = .int k a)
    (kk : K (.int k (k.wrap (BitVec.ofInt k.bits (if k.signed then -1 else k.max) ^^^ BitVec.ofInt k.bits a).toNat)) h) : AOp P ⟨dst, .unOp .xor t x, ty, pos, aft, g⟩ ρ h K :=
  .of_pure kk fun φ ac w r => by
    have h1 := hx ▸ r.ev x (by simp [Op.operands])
    have e1 := h1.int_inv
    exact ⟨_, by simp [execOp, e1, Op.unary, Op.intBits], .int _ _⟩
theorem op_convI {s d : TypeId} {x : Operand} {k k' ks : IntKind} {a : Int} [ts : TyD P s (.int ks)] [td : TyD P d (.int k')] (hx : ρ x = .int k a) (kk : K (.int k' (k'.wrap a)) h) :
    AOp P ⟨dst, .convert s d x, ty, pos, aft, g⟩ ρ h K :=
  .of_pure kk fun φ ac w r => by
    have h1 := hx ▸ r.ev x (by simp [Op.operands])
    have e1 := h1.int_inv
    exact ⟨_, by simp [execOp, e1, convert, ts.run, td.run, Conv.intToInt], .int _ _⟩
theorem op_extract {x : Operand} {i : Nat} {vs : Array Value} {v : Value} (hx : ρ x = .tuple vs) (hv : vs[i]? = some v) (kk : K v h) : AOp P ⟨dst, .extract x i, ty, pos, aft, g⟩ ρ h K :=
  .of_pure kk fun φ ac w r => by
    have h1 := hx ▸ r.ev x (by simp [Op.operands])
    have hi : i < vs.size := (Array.getElem?_eq_some_iff.1 hv).1
    obtain ⟨vs', e1, hs, hr⟩ := h1.tuple_inv (by omega)
    have hi' : i < vs'.size := by omega
    exact ⟨vs'[i], by simp [execOp, e1, Instr.extract, Array.getElem?_eq_getElem hi'], hr i v _ hv (Array.getElem?_eq_getElem hi')⟩
theorem op_nilCheck {x : Operand} {i o : Nat} {s : Option Nat} (hx : ρ x = .pointer (some ⟨i, o, s⟩)) (kk : K (.pointer (some ⟨i, o, s⟩)) h) : AOp P ⟨dst, .nilCheck x, ty, pos, aft, g⟩ ρ h K :=
  .of_pure kk fun φ ac w r => by
    have h1 := hx ▸ r.ev x (by simp [Op.operands])
    obtain ⟨e0, _, e1⟩ := h1.ptr_inv
    exact ⟨_, by simp [execOp, e1], e1 ▸ h1⟩
theorem op_intT {op : BinOp} {t t' : TypeId} {x y : Operand} {k k' : IntKind} {a b : Int} {p : Prop} {ip : Decidable p} (hx : ρ x = .int k a) (hy : ρ y = .int k' b) (hv : binI op k a k' b = some (.bool (@decide p ip))) (hp : p) (kk : K (.bool true) h) :
    AOp P ⟨dst, .binOp op t x y t', ty, pos, aft, g⟩ ρ h K := op_int hx hy hv (by rw [decide_eq_true hp]; exact kk)
theorem op_intF {op : BinOp} {t t' : TypeId} {x y : Operand} {k k' : IntKind} {a b : Int} {p : Prop} {ip : Decidable p} (hx : ρ x = .int k a) (hy : ρ y = .int k' b) (hv : binI op k a k' b = some (.bool (@decide p ip))) (hp : ¬ p) (kk : K (.bool false) h) :
    AOp P ⟨dst, .binOp op t x y t', ty, pos, aft, g⟩ ρ h K := op_int hx hy hv (by rw [decide_eq_false hp]; exact kk)
theorem op_add64 {t t' : TypeId} {x y : Operand} {a b : Int} (hx : ρ x = .int .i64 a) (hy : ρ y = .int .i64 b) (hr : -9223372036854775808 ≤ a + b ∧ a + b ≤ 9223372036854775807) (kk : K (.int .i64 (a + b)) h) :
    AOp P ⟨dst, .binOp .add t x y t', ty, pos, aft, g⟩ ρ h K :=
  op_int hx hy (v := .int .i64 (a + b)) (by simp only [binI, if_true]; congr 2; rw [IntKind.wrap_i64]; omega) kk
theorem op_sub64 {t t' : TypeId} {x y : Operand} {a b : Int} (hx : ρ x = .int .i64 a) (hy : ρ y = .int .i64 b) (hr : -9223372036854775808 ≤ a - b ∧ a - b ≤ 9223372036854775807) (kk : K (.int .i64 (a - b)) h) :
    AOp P ⟨dst, .binOp .sub t x y t', ty, pos, aft, g⟩ ρ h K :=
  op_int hx hy (v := .int .i64 (a - b)) (by simp only [binI, if_true]; congr 2; rw [IntKind.wrap_i64]; omega) kk
theorem op_mul64 {t t' : TypeId} {x y : Operand} {a b : Int} (hx : ρ x = .int .i64 a) (hy : ρ y = .int .i64 b) (hr : -9223372036854775808 ≤ a * b ∧ a * b ≤ 9223372036854775807) (kk : K (.int .i64 (a * b)) h) :
    AOp P ⟨dst, .binOp .mul t x y t', ty, pos, aft, g⟩ ρ h K :=
  op_int hx hy (v := .int .i64 (a * b)) (by simp only [binI, if_true]; congr 2; rw [IntKind.wrap_i64]; omega) kk
theorem op_quo64 {t t' : TypeId} {x y : Operand} {a b : Int} (hx : ρ x = .int .i64 a) (hy : ρ y = .int .i64 b) (hr : 0 ≤ a ∧ a ≤ 9223372036854775807 ∧ 0 < b) (kk : K (.int .i64 (a / b)) h) :
    AOp P ⟨dst, .binOp .quo t x y t', ty, pos, aft, g⟩ ρ h K := by
  have h1 : a.tdiv b = a / b := Int.tdiv_eq_ediv_of_nonneg hr.1
  have h2 : 0 ≤ a / b := Int.ediv_nonneg hr.1 (by omega)
  have h3 : a / b ≤ a := Int.ediv_le_self b hr.1
  exact op_int hx hy (v := .int .i64 (a / b)) (by simp only [binI, if_true]; rw [if_neg (by omega), h1]; congr 2; rw [IntKind.wrap_i64]; omega) kk
theorem op_rem64 {t t' : TypeId} {x y : Operand} {k : IntKind} {a b : Int} (hx : ρ x = .int k a) (hy : ρ y = .int k b) (hr : 0 ≤ a ∧ 0 < b) (kk : K (.int k (a % b)) h) :
    AOp P ⟨dst, .binOp .rem t x y t', ty, pos, aft, g⟩ ρ h K :=
  op_int hx hy (v := .int k (a % b)) (by simp only [binI, if_true]; rw [if_neg (by omega), Int.tmod_eq_emod_of_nonneg hr.1]) kk
theorem op_conv64 {s d : TypeId} {x : Operand} {k ks : IntKind} {a : Int} [ts : TyD P s (.int ks)] [td : TyD P d (.int .i64)] (hx : ρ x = .int k a) (hr : -9223372036854775808 ≤ a ∧ a ≤ 9223372036854775807) (kk : K (.int .i64 a) h) :
    AOp P ⟨dst, .convert s d x, ty, pos, aft, g⟩ ρ h K :=
  op_convI hx (by rw [show IntKind.i64.wrap a = a from by rw [IntKind.wrap_i64]; omega]; exact kk)
end Go.Eng
/-
  The engine, part F: operations on memory.
-/
namespace Go.Eng
open Go
variable {P : Program} {ρ : Operand → Value} {h : Heap} {K : Value → Heap → Prop} {dst : Option Tmp} {ty : TypeId} {pos : String} {aft : Array Edge} {g : Option (Nat × Bool)}
theorem VRels.get {φ : Ren} {n : Nat} {xs cs : List Value} (r : VRels φ n xs cs) : ∀ {j : Nat} {x : Value}, xs[j]? = some x → ∃ c, cs[j]? = some c ∧ VRel φ n x c := by
  induction r with
  | nil => intro j x hj; simp at hj
  | cons hv _ ih =>
    intro j x hj
    cases j with
    | zero => simp at hj; subst hj; exact ⟨_, by simp, hv⟩
    | succ j => simpa using ih (by simpa using hj)
theorem VRels.of {φ : Ren} {n : Nat} : ∀ {xs : List Value} {cs : List Value}, xs.length = cs.length → (∀ (j : Nat) x y, xs[j]? = some x → cs[j]? = some y → VRel φ n x y) → VRels φ n xs cs
  | [], [], _, _ => .nil
  | x :: xs, c :: cs, hl, hr => .cons (hr 0 x c (by simp) (by simp)) (VRels.of (by simpa using hl) fun j a b ha hb => hr (j + 1) a b (by simpa using ha) (by simpa using hb))
  | [], c :: cs, hl, _ => by simp at hl
  | x :: xs, [], hl, _ => by simp at hl
theorem VRels.arr {φ : Ren} {n : Nat} {xs cs : List Value} (r : VRels φ n xs cs) : ∀ (k : Nat) x y, xs.toArray[k]? = some x → cs.toArray[k]? = some y → VRel φ n x y := by
  intro k x y hx hy
  obtain ⟨c, hc, hv⟩ := r.get (j := k) (x := x) (by simpa using hx)
  have : c = y := by simpa [hc] using hy
  exact this ▸ hv
theorem VRels.append {φ : Ren} {n : Nat} {xs cs ys ds : List Value} (a : VRels φ n xs cs) (b : VRels φ n ys ds) : VRels φ n (xs ++ ys) (cs ++ ds) := by
  induction a with
  | nil => exact b
  | cons hv _ ih => exact .cons hv ih
theorem VRels.scalars {φ : Ren} {n : Nat} : ∀ {xs : List Value}, xs.all scalar = true → VRels φ n xs xs
  | [], _ => .nil
  | x :: xs, hs => by
    simp only [List.all_cons, Bool.and_eq_true] at hs
    exact .cons (.of_scalar hs.1) (VRels.scalars hs.2)
theorem VRels.mono {φ φ' : Ren} {n n' : Nat} (ha : ∀ i, i < n → φ' i = φ i) (hn : n ≤ n') {xs cs : List Value} (r : VRels φ n xs cs) : VRels φ' n' xs cs := by
  induction r with
  | nil => exact .nil
  | cons hv _ ih => exact .cons (hv.mono ha hn) ih
theorem Sim.row {φ : Ren} {w : World} (s : Sim P φ h w) {i : Nat} {b : Blk} (hi : h.get i = some b) (p k : Nat) (hp : p + k ≤ b.cells.length) :
    ∃ cs, VRels φ h.next ((b.cells.drop p).take k) cs ∧ cs.length = k ∧ ∀ (j : Nat) v, cs[j]? = some v → w.cell? ((⟨(φ i).b, (φ i).o + p, none⟩ : Addr).add j) = some v := by
  induction k generalizing p with
  | zero => exact ⟨[], by simp; exact .nil, rfl, by simp⟩
  | succ k ih =>
    obtain ⟨cs, h1, h2, h3⟩ := ih (p + 1) (by omega)
    have hb : b.cells[p]? = some b.cells[p] := List.getElem?_eq_getElem (by omega)
    obtain ⟨c, hc, hv⟩ := s.cell hi hb
    refine ⟨c :: cs, ?_, by simp [h2], ?_⟩
    · rw [List.drop_eq_getElem_cons (by omega), List.take_succ_cons]
      exact .cons hv h1
    · intro j v hj
      cases j with
      | zero => simp at hj; subst hj; simpa [Addr.add] using hc
      | succ j =>
        have := h3 j v (by simpa using hj)
        rw [Addr.add_lit] at this ⊢
        rw [← this]
        congr 2
        omega
theorem op_load {t : TypeId} {x : Operand} {i o : Nat} {s : Option Nat} {b : Blk} {v : Value} {d : TypeDesc} [td : TyD P t d] (hx : ρ x = .pointer (some ⟨i, o, s⟩)) (ha : aggB d = false)
    (hi : h.get i = some b) (hv : b.cells[o]? = some v) (kk : K v h) : AOp P ⟨dst, .load t x, ty, pos, aft, g⟩ ρ h K :=
  .of_pure kk fun φ ac w r => by
    obtain ⟨_, _, e1⟩ := (hx ▸ r.ev x (by simp [Op.operands])).ptr_inv
    obtain ⟨c, hc, hr⟩ := r.sim.cell hi hv
    refine ⟨c, ?_, hr⟩
    simp [execOp, e1, Instr.loadAt, Instr.sureAddr, loadVar, td.isAgg, ha, hc]
theorem op_loadA {t : TypeId} {x : Operand} {i o sz by_ : Nat} {z : Value} {s : Option Nat} {b : Blk} {d : TypeDesc} [td : TyD P t d] [ti : TyI P t sz by_ z] (hx : ρ x = .pointer (some ⟨i, o, s⟩)) (ha : aggB d = true)
    (hi : h.get i = some b) (hl : o + sz ≤ b.cells.length) (kk : K (.agg ((b.cells.drop o).take sz).toArray) h) : AOp P ⟨dst, .load t x, ty, pos, aft, g⟩ ρ h K :=
  .of_pure kk fun φ ac w r => by
    obtain ⟨_, _, e1⟩ := (hx ▸ r.ev x (by simp [Op.operands])).ptr_inv
    obtain ⟨cs, h1, h2, h3⟩ := r.sim.row hi o sz hl
    have hr := run_loadCells_list (P := P) w _ cs h3
    rw [h2] at hr
    refine ⟨.agg cs.toArray, ?_, .agg _ _ (by simp [h1.length]) h1.arr⟩
    simp [execOp, e1, Instr.loadAt, Instr.sureAddr, loadVar, td.isAgg, ha, ti.size, hr]
theorem load_run {φ : Ren} {w : World} (sm : Sim P φ h w) {t : TypeId} {i o sz by_ : Nat} {z : Value} {s : Option Nat} {b : Blk} {d : TypeDesc} {c : Value} [td : TyD P t d] [ti : TyI P t sz by_ z] (hv : VRel φ h.next (.pointer (some ⟨i, o, s⟩)) c) (ha : aggB d = true)
    (hi : h.get i = some b) (hl : o + sz ≤ b.cells.length) : ∃ u, (do loadVar t (← asAddr c) : Sem Value).run P w = .ok u w ∧ VRel φ h.next (.agg ((b.cells.drop o).take sz).toArray) u := by
  obtain ⟨_, _, e1⟩ := hv.ptr_inv
  obtain ⟨cs, h1, h2, h3⟩ := sm.row hi o sz hl
  have hr := run_loadCells_list (P := P) w _ cs h3
  rw [h2] at hr
  refine ⟨.agg cs.toArray, ?_, .agg _ _ (by simp [h1.length]) h1.arr⟩
  simp [e1, asAddr, loadVar, td.isAgg, ha, ti.size, hr]
theorem ResV.cellA {fn : Func} {env : Env} {a : Tmp} {t : TypeId} {i o sz by_ : Nat} {z : Value} {s : Option Nat} {b : Blk} {d : TypeDesc} [td : TyD P t d] [ti : TyI P t sz by_ z] (hr : fn.results = #[.cell a t]) (hx : env.get a = .pointer (some ⟨i, o, s⟩)) (ha : aggB d = true)
    (hi : h.get i = some b) (hl : o + sz ≤ b.cells.length) : ResV P fn env h (.agg ((b.cells.drop o).take sz).toArray) := by
  intro N φ tmps w r
  obtain ⟨u, h1, h2⟩ := load_run (P := P) (t := t) r.sim (hx ▸ r.env a) ha hi hl
  refine ⟨u, ?_, h2⟩
  have h3 : (results fn tmps).run P w = (do loadVar t (← asAddr (tmps.getD a undef)) : Sem Value).run P w := by
    simp only [results, hr]
    simp only [List.mapM_toArray, List.mapM_cons, List.mapM_nil, Sem.run_bind, Sem.run_map, Sem.run_pure]
    cases (asAddr (tmps.getD a undef)).run P w with
    | halt x w1 => rfl
    | ok x w1 =>
      simp only [Result.andThen_ok]
      cases (loadVar t x).run P w1 with
      | halt y w2 => rfl
      | ok y w2 => rfl
  rw [h3, h1]
theorem run_alloc {t : TypeId} {sz by_ : Nat} {z : Value} [ti : TyI P t sz by_ z] (w : World) :
    (Instr.alloc t true (.tuple #[])).run P w = .ok (.pointer (some ⟨w.heap.size, 0, none⟩)) (w.alloc (.cells z.cells t)) := by
  simp [Instr.alloc, ti.zero, newVar, newRow]
theorem op_alloc {t : TypeId} {sz by_ : Nat} {z : Value} [ti : TyI P t sz by_ z] (kk : K (.pointer (some ⟨h.next, 0, none⟩)) (h.alloc ⟨z.cells.toList, t, true⟩)) :
    AOp P ⟨dst, .alloc t, ty, pos, aft, g⟩ ρ h K :=
  .of_run fun φ ac w r => by
    have hv := VRels.scalars (φ := φ) (n := h.next) ti.plain
    obtain ⟨s1, s2⟩ := r.sim.alloc z.cells.toList z.cells t (0, 0) (.inl rfl) (by simp) (fun k v hk => by
      have := hv.get hk
      simpa using this)
    refine ⟨.pointer (some ⟨w.heap.size, 0, none⟩), _, _, _, _, by simp [execOp, run_alloc], kk, ?_, s1, s2⟩
    have := VRel.ptr (φ := Ren.put φ h.next ⟨w.heap.size, 0, z.cells.size⟩) (n := h.next + 1) h.next 0 (by omega)
    rw [Ren.put_at] at this
    exact this
theorem VRel.cells {φ : Ren} {n : Nat} {v c : Value} (r : VRel φ n v c) (hu : v ≠ undef) : VRels φ n v.cells.toList c.cells.toList := by
  cases r with
  | und => exact absurd rfl hu
  | skip => exact .cons .skip .nil
  | agg c c' h1 h2 => exact .of (by simpa [Value.cells] using h1) (fun j x y hx hy => h2 j x y (by simpa [Value.cells] using hx) (by simpa [Value.cells] using hy))
  | tuple c c' h1 h2 => exact .cons (.tuple c c' h1 h2) .nil
  | bool b => exact .cons (.bool b) .nil
  | int k a => exact .cons (.int k a) .nil
  | float k a => exact .cons (.float k a) .nil
  | complex k a b => exact .cons (.complex k a b) .nil
  | string s => exact .cons (.string s) .nil
  | nilPtr => exact .cons .nilPtr .nil
  | ptr i o hi => exact .cons (.ptr i o hi) .nil
  | nilSlice => exact .cons .nilSlice .nil
  | slice i o len cap cap' s a' hi h1 h2 h3 h4 h5 h6 => exact .cons (.slice i o len cap cap' s a' hi h1 h2 h3 h4 h5 h6) .nil
  | func fn f c f' c' h1 h2 h3 h4 => exact .cons (.func fn f c f' c' h1 h2 h3 h4) .nil
  | nilFunc => exact .cons .nilFunc .nil
  | iface t v v' h => exact .cons (.iface t v v' h) .nil
  | nilIface => exact .cons .nilIface .nil
  | nilMap => exact .cons .nilMap .nil
  | map i hi => exact .cons (.map i hi) .nil
theorem VRels.toArr {φ : Ren} {n : Nat} {xs : List Value} {c : Array Value} (r : VRels φ n xs c.toList) : ∀ (k : Nat) v, xs[k]? = some v → ∃ d, c[k]? = some d ∧ VRel φ n v d := by
  intro k v hk
  have := r.get hk
  simpa using this
theorem op_box {t : TypeId} {x : Operand} {v : Value} (hx : ρ x = v) (hu : v ≠ undef) (kk : K (.pointer (some ⟨h.next, 0, none⟩)) (h.alloc ⟨v.cells.toList, t, true⟩)) :
    AOp P ⟨dst, .box t x, ty, pos, aft, g⟩ ρ h K :=
  .of_run fun φ ac w r => by
    have hv := ((hx ▸ r.ev x (by simp [Op.operands])) : VRel φ h.next v (ac.eval x)).cells hu
    obtain ⟨s1, s2⟩ := r.sim.alloc v.cells.toList (ac.eval x).cells t (0, 0) (.inl rfl) (by have := hv.length; simp at this; simp; omega) hv.toArr
    refine ⟨.pointer (some ⟨w.heap.size, 0, none⟩), w.alloc (.cells (ac.eval x).cells t), _, _, _, by simp [execOp, Instr.box, newVar, newRow], kk, ?_, s1, s2⟩
    have := VRel.ptr (φ := Ren.put φ h.next ⟨w.heap.size, 0, (ac.eval x).cells.size⟩) (n := h.next + 1) h.next 0 (by omega)
    rw [Ren.put_at] at this
    exact this
def oneB : Value → Bool
  | .agg _ | .tuple _ | .chan _ => false
  | _ => true
theorem VRel.one {φ : Ren} {n : Nat} {v c : Value} (r : VRel φ n v c) (ho : oneB v = true) : c.oneCell' = true := by
  cases r <;> first | rfl | (simp [oneB] at ho; done) | (exfalso; simp [oneB, undef] at ho)
theorem run_storeRow (P : Program) (k : Nat) (e : TypeId) (fr : Nat × Nat) : ∀ (vs : List Value) (o i : Nat) (arr : Array Value) (w : World), w.heap[k]? = some (.cells arr e fr) →
    (fr.1 = fr.2 ∨ arr.size ≤ fr.1) → o + i + vs.length ≤ arr.size → (∀ v ∈ vs, v.oneCell' = true) →
    ∃ w', (storeCells ⟨k, o, none⟩ vs i).run P w = .ok () w' ∧ w'.os = w.os ∧ w'.tape = w.tape ∧ w'.output = w.output ∧
      ∀ j : Nat, w'.heap[j]? = if j = k then some (.cells (arr.toList.take (o + i) ++ vs ++ arr.toList.drop (o + i + vs.length)).toArray e fr) else w.heap[j]?
  | [], o, i, arr, w, hk, _, _, _ => ⟨w, rfl, rfl, rfl, rfl, fun j => by
      simp only [List.append_nil, List.length_nil, Nat.add_zero, List.take_append_drop]
      split
      · rename_i hj; subst hj; exact hk
      · rfl⟩
  | v :: vs, o, i, arr, w, hk, hfr, hl, h1 => by
    simp only [List.length_cons] at hl
    have hcell : w.cell? ⟨k, o + i, none⟩ = some arr[o + i] := by
      simp [World.cell?, hk]
    have hfz : w.frozen? ⟨k, o + i, none⟩ = false := by
      simp only [World.frozen?, hk]
      rcases hfr with hfr | hfr
      · rw [Bool.and_eq_false_iff, decide_eq_false_iff_not, decide_eq_false_iff_not]; omega
      · rw [Bool.and_eq_false_iff, decide_eq_false_iff_not]; exact .inl (by omega)
    have hst := run_store P w ⟨k, o + i, none⟩ v .plain (h1 v (by simp))
    simp only [hcell, hfz, Bool.false_eq_true, if_false] at hst
    have hheap : ∀ j : Nat, (w.setCell ⟨k, o + i, none⟩ v).heap[j]? = if j = k then some (.cells (arr.setIfInBounds (o + i) v) e fr) else w.heap[j]? := by
      intro j
      simp only [World.setCell, Array.getElem?_modify]
      by_cases hj : j = k
      · subst hj; simp [hk]
      · rw [if_neg (fun e => hj e.symm), if_neg hj]
    obtain ⟨w', hr, e1, e2, e3, e4⟩ := run_storeRow P k e fr vs o (i + 1) (arr.setIfInBounds (o + i) v) (w.setCell ⟨k, o + i, none⟩ v) (by rw [hheap]; simp) (by simpa using hfr) (by simp; omega) (fun u hu => h1 u (by simp [hu]))
    refine ⟨w', ?_, e1, e2, e3, fun j => ?_⟩
    · simp [storeCells, Addr.add_lit, hst, hr]
    · rw [e4 j]
      split
      · have hL : (arr.setIfInBounds (o + i) v).toList = arr.toList.take (o + i) ++ v :: arr.toList.drop (o + i + 1) := by
          rw [Array.toList_setIfInBounds, List.set_eq_take_append_cons_drop]
          rw [if_pos (by simp; omega)]
        have hlen : (arr.toList.take (o + i)).length = o + i := by simp; omega
        rw [hL]
        congr 3
        have t1 : (arr.toList.take (o + i) ++ v :: arr.toList.drop (o + i + 1)).take (o + (i + 1)) = arr.toList.take (o + i) ++ [v] := by
          rw [show o + (i + 1) = (arr.toList.take (o + i)).length + 1 from by omega, List.take_length_add_append]
          simp
        have t2 : (arr.toList.take (o + i) ++ v :: arr.toList.drop (o + i + 1)).drop (o + (i + 1) + vs.length) = arr.toList.drop (o + i + (v :: vs).length) := by
          rw [show o + (i + 1) + vs.length = (arr.toList.take (o + i)).length + (vs.length + 1) from by omega, List.drop_length_add_append]
          simp only [List.drop_succ_cons, List.drop_drop, List.length_cons]
          congr 1
          omega
        rw [t1, t2]
        simp
      · rename_i hj
        rw [hheap, if_neg hj]
def splice (L : List Value) (o : Nat) (vs : List Value) : List Value := L.take o ++ vs ++ L.drop (o + vs.length)
theorem length_splice {L : List Value} {o : Nat} {vs : List Value} (hl : o + vs.length ≤ L.length) : (splice L o vs).length = L.length := by simp [splice]; omega
theorem splice_one (L : List Value) (o : Nat) (v : Value) (ho : o < L.length) : splice L o [v] = L.set o v := by
  rw [List.set_eq_take_append_cons_drop, if_pos ho]
  simp [splice]
theorem splice_get (L : List Value) (o : Nat) (vs : List Value) (hl : o + vs.length ≤ L.length) (k : Nat) : (splice L o vs)[k]? = if o ≤ k ∧ k < o + vs.length then vs[k - o]? else L[k]? := by
  unfold splice
  by_cases h1 : k < o
  · rw [List.append_assoc, List.getElem?_append_left (by simp; omega), List.getElem?_take_of_lt h1, if_neg (by omega)]
  · by_cases h2 : k < o + vs.length
    · rw [if_pos (by omega), List.getElem?_append_left (by simp; omega), List.getElem?_append_right (by simp; omega)]
      congr 1
      simp; omega
    · rw [if_neg (by omega), List.getElem?_append_right (by simp; omega), List.getElem?_drop]
      congr 1
      simp; omega
theorem Sim.splice {φ : Ren} {w : World} (s : Sim P φ h w) {i : Nat} {b : Blk} (hi : h.get i = some b) (ho : b.own = true) {o : Nat} {vs cs : List Value} (hr : VRels φ h.next vs cs) (hl : o + vs.length ≤ b.cells.length)
    (h1 : ∀ c ∈ cs, c.oneCell' = true) : ∃ w', (storeCells ⟨(φ i).b, o, none⟩ cs).run P w = .ok () w' ∧ Sim P φ (h.set i ⟨splice b.cells o vs, b.elem, true⟩) w' ∧ Step φ h w φ (h.set i ⟨splice b.cells o vs, b.elem, true⟩) w' := by
  obtain ⟨arr, fr, a1, a2, a3, a4, a5⟩ := s.owned hi ho
  have hlen := hr.length
  obtain ⟨w', hrun, e1, e2, e3, e4⟩ := run_storeRow P (φ i).b b.elem fr cs o 0 arr w a1 (a3.imp id And.left) (by omega) h1
  simp only [Nat.add_zero] at e4
  have hsl : (Eng.splice arr.toList o cs).length = arr.size := by rw [length_splice (by simp; omega)]; simp
  obtain ⟨s1, s2⟩ := s.write hi ho a1 (w' := w') (arr' := (Eng.splice arr.toList o cs).toArray) (by simpa using hsl) (by simpa [hsl] using a3) e4 e1 e2 e3 (Eng.splice b.cells o vs) (by rw [length_splice hl]; simp [hsl]; omega) (by
    intro k v hk
    rw [splice_get _ _ _ hl] at hk
    simp only [List.getElem?_toArray]
    rw [splice_get _ _ _ (by simp; omega)]
    by_cases hin : o ≤ k ∧ k < o + vs.length
    · rw [if_pos hin] at hk
      rw [if_pos (by omega)]
      exact hr.get hk
    · rw [if_neg hin] at hk
      rw [if_neg (by omega)]
      simpa using a5 k v hk)
  exact ⟨w', hrun, s1, s2⟩
theorem op_store {t : TypeId} {x y : Operand} {i o by_ : Nat} {z : Value} {s : Option Nat} {b : Blk} {v : Value} [ti : TyI P t 1 by_ z] (hx : ρ x = .pointer (some ⟨i, o, s⟩)) (hy : ρ y = v) (h1 : oneB v = true)
    (hi : h.get i = some b) (ho : b.own = true) (hl : o < b.cells.length) (kk : K undef (h.set i ⟨b.cells.set o v, b.elem, true⟩)) : AOp P ⟨dst, .store t x y, ty, pos, aft, g⟩ ρ h K :=
  .of_skip fun φ ac w r => by
    obtain ⟨_, _, e1⟩ := (hx ▸ r.ev x (by simp [Op.operands])).ptr_inv
    have hv : VRel φ h.next v (ac.eval y) := hy ▸ r.ev y (by simp [Op.operands])
    have hone := hv.one h1
    have hc : (ac.eval y).cells = #[ac.eval y] := by
      cases hq : ac.eval y <;> first | rfl | (rw [hq] at hone; simp [Value.oneCell'] at hone)
    obtain ⟨w', h3, h4, h5⟩ := r.sim.splice hi ho (o := o) (.cons hv .nil) (by simp; omega) (by simpa using hone)
    rw [splice_one _ _ _ hl] at h4 h5
    have hz : (φ i).o = 0 := by
      obtain ⟨_, _, _, h2, _⟩ := r.sim.owned hi ho
      exact h2.1
    refine ⟨w', φ, _, ?_, kk, h4, h5⟩
    simp [execOp, e1, Instr.storeAt, Instr.sureAddr, storeVar, ti.size, hc, hz, h3]
theorem op_storeA {t : TypeId} {x y : Operand} {i o sz by_ : Nat} {z : Value} {s : Option Nat} {b : Blk} {vs : Array Value} [ti : TyI P t sz by_ z] (hx : ρ x = .pointer (some ⟨i, o, s⟩)) (hy : ρ y = .agg vs) (h1 : vs.toList.all oneB = true)
    (hsz : vs.size = sz) (hi : h.get i = some b) (ho : b.own = true) (hl : o + sz ≤ b.cells.length) (kk : K undef (h.set i ⟨splice b.cells o vs.toList, b.elem, true⟩)) : AOp P ⟨dst, .store t x y, ty, pos, aft, g⟩ ρ h K :=
  .of_skip fun φ ac w r => by
    obtain ⟨_, _, e1⟩ := (hx ▸ r.ev x (by simp [Op.operands])).ptr_inv
    obtain ⟨cs, e2, h2, h3⟩ := (hy ▸ r.ev y (by simp [Op.operands])).agg_inv
    have hr : VRels φ h.next vs.toList cs.toList := .of (by simpa using h2) (fun j x y hx hy => h3 j x y (by simpa using hx) (by simpa using hy))
    obtain ⟨w', h4, h5, h6⟩ := r.sim.splice hi ho (o := o) hr (by simp; omega) (by
      intro c hc
      obtain ⟨j, hj⟩ := List.getElem?_of_mem hc
      have hjl : j < vs.toList.length := by rw [hr.length]; exact (List.getElem?_eq_some_iff.1 hj).1
      have hx := List.getElem?_eq_getElem hjl
      obtain ⟨c', hc', hv⟩ := hr.get hx
      rw [hj] at hc'; cases hc'
      exact hv.one (List.all_eq_true.1 h1 _ (List.getElem_mem hjl)))
    have hz : (φ i).o = 0 := by
      obtain ⟨_, _, _, h2, _⟩ := r.sim.owned hi ho
      exact h2.1
    refine ⟨w', φ, _, ?_, kk, h5, h6⟩
    have : cs.size = sz := by omega
    simp [execOp, e1, e2, Instr.storeAt, Instr.sureAddr, storeVar, ti.size, Value.cells, hz, h4, this]
end Go.Eng
/-
  The engine, part G: addresses, parts of values, slices, lengths.
-/
namespace Go.Eng
open Go
variable {P : Program} {ρ : Operand → Value} {h : Heap} {K : Value → Heap → Prop} {dst : Option Tmp} {ty : TypeId} {pos : String} {aft : Array Edge} {g : Option (Nat × Bool)}
theorem op_fieldAddr {t : TypeId} {x : Operand} {f i o sz by_ : Nat} {z : Value} {s : Option Nat} {fs : Array Field} {fld : Field} [td : TyD P t (.struct fs)] (hf : fs[f]? = some fld) [ti : TyI P fld.type sz by_ z]
    (hz : (sz == 0) = false) (hx : ρ x = .pointer (some ⟨i, o, s⟩)) (kk : K (.pointer (some ⟨i, o + fld.offset, none⟩)) h) : AOp P ⟨dst, .fieldAddr t x f, ty, pos, aft, g⟩ ρ h K :=
  .of_pure kk fun φ ac w r => by
    obtain ⟨_, hlt, e1⟩ := (hx ▸ r.ev x (by simp [Op.operands])).ptr_inv
    have hz' : ¬ sz = 0 := by simpa using hz
    refine ⟨.pointer (some ⟨(φ i).b, (φ i).o + (o + fld.offset), none⟩), ?_, .ptr _ _ hlt⟩
    simp [execOp, e1, Instr.fieldAt, Instr.sureAddr, td.run, hf, fieldPlace, ti.size, hz', Addr.add_lit, Nat.add_assoc]
theorem op_indexA {t e : TypeId} {n : Nat} {x y : Operand} {i o sz by_ : Nat} {z : Value} {s : Option Nat} {k : IntKind} {a : Int} [td : TyD P t (.array n e)] [ti : TyI P e sz by_ z]
    (hx : ρ x = .pointer (some ⟨i, o, s⟩)) (hy : ρ y = .int k a) (h0 : 0 ≤ a) (h1 : a < n) (kk : K (.pointer (some ⟨i, o + a.toNat * sz, none⟩)) h) : AOp P ⟨dst, .indexAddr t x y, ty, pos, aft, g⟩ ρ h K :=
  .of_pure kk fun φ ac w r => by
    obtain ⟨_, hlt, e1⟩ := (hx ▸ r.ev x (by simp [Op.operands])).ptr_inv
    have e2 := (hy ▸ r.ev y (by simp [Op.operands])).int_inv
    refine ⟨.pointer (some ⟨(φ i).b, (φ i).o + (o + a.toNat * sz), none⟩), ?_, .ptr _ _ hlt⟩
    simp [execOp, e1, e2, Instr.indexAt, Instr.sureAddr, asIntOf, td.run, h0, h1, ti.size, Addr.add_lit, Nat.add_assoc]
theorem op_indexS {t e : TypeId} {x y : Operand} {i o len cap sz by_ : Nat} {z : Value} {s : Option Nat} {k : IntKind} {a : Int} [td : TyD P t (.slice e)] [ti : TyI P e sz by_ z]
    (hx : ρ x = .slice (some ⟨i, o, s⟩) len cap) (hy : ρ y = .int k a) (h0 : 0 ≤ a) (h1 : a < len) (kk : K (.pointer (some ⟨i, o + a.toNat * sz, none⟩)) h) : AOp P ⟨dst, .indexAddr t x y, ty, pos, aft, g⟩ ρ h K :=
  .of_pure kk fun φ ac w r => by
    obtain ⟨cap', a', e1, hlt, q1, q2, q3, q4, q5, q6⟩ := (hx ▸ r.ev x (by simp [Op.operands])).slice_inv
    have e2 := (hy ▸ r.ev y (by simp [Op.operands])).int_inv
    have e3 : a' = ⟨(φ i).b, (φ i).o + o, none⟩ := q4.resolve_right (by omega)
    refine ⟨.pointer (some ⟨(φ i).b, (φ i).o + (o + a.toNat * sz), none⟩), ?_, .ptr _ _ hlt⟩
    simp [execOp, e1, e2, e3, Instr.indexAt, asIntOf, td.run, h0, h1, ti.size, Addr.add_lit, Nat.add_assoc]
theorem op_indexStr {t : TypeId} {x y : Operand} {k : IntKind} {a : Int} {st : ByteArray} {b : UInt8} [td : TyD P t .string]
    (hx : ρ x = .string st) (hy : ρ y = .int k a) (h0 : 0 ≤ a) (hb : st[a.toNat]? = some b) (kk : K (.int .u8 b.toNat) h) : AOp P ⟨dst, .index t x y, ty, pos, aft, g⟩ ρ h K :=
  .of_pure kk fun φ ac w r => by
    have e1 := (hx ▸ r.ev x (by simp [Op.operands])).string_inv
    have e2 := (hy ▸ r.ev y (by simp [Op.operands])).int_inv
    refine ⟨_, ?_, .int _ _⟩
    simp [execOp, e1, e2, Instr.index, asIntOf, td.run, h0, hb]
def bnd (ρ : Operand → Value) (x : Option Operand) (d : Int) : Option Int :=
  match x with
  | none => some d
  | some x => match ρ x with
    | .int _ n => some n
    | _ => none
theorem bnd_run {x : Option Operand} {d n : Int} {φ : Ren} {ac : Act} (r : ∀ y, x = some y → VRel φ h.next (ρ y) (ac.eval y)) (hb : bnd ρ x d = some n) : (x = none ∧ n = d) ∨ ∃ y k, x = some y ∧ ac.eval y = .int k n := by
  cases x with
  | none => simp [bnd] at hb; exact .inl ⟨rfl, hb.symm⟩
  | some y =>
    simp only [bnd] at hb
    split at hb
    · rename_i k m he
      cases hb
      exact .inr ⟨y, k, rfl, (he ▸ r y rfl).int_inv⟩
    · cases hb
theorem run_sliceBound {k : IntKind} {n : Int} {y : Nat} {c : BoundsCode} (w : World) (h0 : 0 ≤ n) (h1 : n ≤ y) : (Instr.sliceBound (.int k n) y c).run P w = .ok n.toNat w := by
  simp [Instr.sliceBound, asIntOf, h0, h1]
theorem run_sliceBounds {isS : Bool} {len cap : Nat} {lo hi : Option Operand} {l m : Int} {φ : Ren} {ac : Act} {w : World} (rl : ∀ y, lo = some y → VRel φ h.next (ρ y) (ac.eval y)) (rh : ∀ y, hi = some y → VRel φ h.next (ρ y) (ac.eval y)) (hl : bnd ρ lo 0 = some l) (hm : bnd ρ hi len = some m)
    (h0 : 0 ≤ l) (h1 : l ≤ m) (h2 : m ≤ len) (h3 : len ≤ cap) : (Instr.sliceBounds isS len cap (lo.map ac.eval) (hi.map ac.eval) none).run P w = .ok (l.toNat, m.toNat, cap) w := by
  rcases bnd_run rl hl with ⟨rfl, rfl⟩ | ⟨y, k, rfl, e1⟩ <;> rcases bnd_run rh hm with ⟨rfl, rfl⟩ | ⟨y', k', rfl, e2⟩
  · simp [Instr.sliceBounds]
  · simp only [Instr.sliceBounds, Option.map_none, Option.map_some, e2]
    have : m ≤ (cap : Int) := by omega
    simp [run_sliceBound w (by omega : 0 ≤ m) this]
  · simp only [Instr.sliceBounds, Option.map_none, Option.map_some, e1]
    simp [run_sliceBound w h0 h1]
  · simp only [Instr.sliceBounds, Option.map_some, e1, e2]
    have h4 : m ≤ (cap : Int) := by omega
    have h5 : l ≤ (m.toNat : Int) := by omega
    simp [run_sliceBound w (by omega : 0 ≤ m) h4, run_sliceBound w h0 h5]
theorem op_slice {t e : TypeId} {x : Operand} {lo hi : Option Operand} {i o len cap sz by_ : Nat} {z : Value} {s : Option Nat} {l m : Int} [td : TyD P t (.slice e)] [ti : TyI P e sz by_ z]
    (hx : ρ x = .slice (some ⟨i, o, s⟩) len cap) (hl : bnd ρ lo 0 = some l) (hm : bnd ρ hi len = some m) (h0 : 0 ≤ l) (h1 : l ≤ m) (h2 : m ≤ len) (hs : s = none ∨ s = some sz)
    (kk : K (.slice (some ⟨i, o + l.toNat * sz, s⟩) (m - l).toNat (cap - l.toNat)) h) : AOp P ⟨dst, .slice t x lo hi none, ty, pos, aft, g⟩ ρ h K :=
  .of_pure kk fun φ ac w r => by
    obtain ⟨cap', a', e1, hlt, q1, q2, q3, q4, q5, q6⟩ := (hx ▸ r.ev x (by simp [Op.operands])).slice_inv
    have hb := run_sliceBounds (P := P) (w := w) (isS := true) (cap := cap') (fun y hy => r.ev y (by subst hy; simp [Op.operands])) (fun y hy => r.ev y (by subst hy; simp [Op.operands])) hl hm h0 h1 h2 q2
    refine ⟨.slice (some (if cap' = l.toNat then a' else a'.add (l.toNat * sz))) (m - l).toNat (cap' - l.toNat), ?_, ?_⟩
    · have e5 : m.toNat - l.toNat = (m - l).toNat := by omega
      by_cases hc : cap' = l.toNat
      · subst hc; simp [execOp, e1, Instr.sliceAt, td.run, Instr.slice, hb, ti.size, e5]
      · simp [execOp, e1, Instr.sliceAt, td.run, Instr.slice, hb, ti.size, hc, e5]
    · refine .slice _ _ _ _ _ _ _ hlt (by omega) (by omega) (by omega) ?_ (by omega) ?_
      · by_cases hc : cap' = l.toNat
        · exact .inr (by omega)
        · rw [if_neg hc]
          rcases q4 with q4 | q4
          · subst q4; exact .inl (by rw [Addr.add_lit, Nat.add_assoc])
          · exact .inr (by omega)
      · intro t ht
        have h6 := q6 t ht
        rcases hs with hs | hs
        · rw [hs] at ht; cases ht
        · rw [hs] at ht; cases ht
          have : l.toNat * sz + (cap' - l.toNat) * sz = cap' * sz := by rw [← Nat.add_mul]; congr 1; omega
          omega
theorem op_sliceNil {t e : TypeId} {x : Operand} {lo hi : Option Operand} {sz by_ : Nat} {z : Value} {k m : Nat} [td : TyD P t (.slice e)] [ti : TyI P e sz by_ z]
    (hx : ρ x = .slice none k m) (hl : bnd ρ lo 0 = some 0) (hm : bnd ρ hi 0 = some 0) (kk : K (.slice none 0 0) h) : AOp P ⟨dst, .slice t x lo hi none, ty, pos, aft, g⟩ ρ h K :=
  .of_pure kk fun φ ac w r => by
    obtain ⟨_, _, e1⟩ := (hx ▸ r.ev x (by simp [Op.operands])).nilSlice_inv
    have hb := run_sliceBounds (P := P) (w := w) (isS := true) (len := 0) (cap := 0) (fun y hy => r.ev y (by subst hy; simp [Op.operands])) (fun y hy => r.ev y (by subst hy; simp [Op.operands])) hl hm (Int.le_refl _) (Int.le_refl _) (Int.le_refl _) (Nat.le_refl _)
    refine ⟨.slice none 0 0, ?_, .nilSlice⟩
    simp [execOp, e1, Instr.sliceAt, td.run, Instr.slice, hb, ti.size]
theorem op_sliceA {t e : TypeId} {n : Nat} {x : Operand} {lo hi : Option Operand} {i o sz by_ : Nat} {z : Value} {s : Option Nat} {l m : Int} [td : TyD P t (.array n e)] [ti : TyI P e sz by_ z]
    (hx : ρ x = .pointer (some ⟨i, o, s⟩)) (hl : bnd ρ lo 0 = some l) (hm : bnd ρ hi n = some m) (h0 : 0 ≤ l) (h1 : l ≤ m) (h2 : m ≤ n) (hn : n ≤ maxLen)
    (kk : K (.slice (some ⟨i, o + l.toNat * sz, none⟩) (m - l).toNat (n - l.toNat)) h) : AOp P ⟨dst, .slice t x lo hi none, ty, pos, aft, g⟩ ρ h K :=
  .of_pure kk fun φ ac w r => by
    obtain ⟨_, hlt, e1⟩ := (hx ▸ r.ev x (by simp [Op.operands])).ptr_inv
    have hb := run_sliceBounds (P := P) (w := w) (isS := false) (cap := n) (fun y hy => r.ev y (by subst hy; simp [Op.operands])) (fun y hy => r.ev y (by subst hy; simp [Op.operands])) hl hm h0 h1 h2 (Nat.le_refl _)
    refine ⟨.slice (some (if n = l.toNat then ⟨(φ i).b, (φ i).o + o, none⟩ else (⟨(φ i).b, (φ i).o + o, none⟩ : Addr).add (l.toNat * sz))) (m - l).toNat (n - l.toNat), ?_, ?_⟩
    · have e5 : m.toNat - l.toNat = (m - l).toNat := by omega
      by_cases hc : n = l.toNat
      · subst hc; simp [execOp, e1, Instr.sliceAt, Instr.sureAddr, td.run, hb, ti.size, e5]
      · simp [execOp, e1, Instr.sliceAt, Instr.sureAddr, td.run, hb, ti.size, hc, e5]
    · refine .slice _ _ _ _ _ _ _ hlt (by omega) (by omega) (by simp only [maxLen] at hn; omega) ?_ (by omega) (by intro t ht; cases ht)
      by_cases hc : n = l.toNat
      · exact .inr (by omega)
      · rw [if_neg hc, Addr.add_lit, Nat.add_assoc]; exact .inl rfl
theorem op_lenS {x : Operand} {t e : TypeId} {a : Option Addr} {n c : Nat} [td : TyD P t (.slice e)] (hx : ρ x = .slice a n c) (kk : K (.int .i64 n) h) :
    AOp P ⟨dst, .call ⟨.builtin .len, #[x], #[t]⟩, ty, pos, aft, g⟩ ρ h K :=
  .of_pure kk fun φ ac w r => by
    have hv := hx ▸ r.ev x (by simp [Op.operands, Call.operands])
    refine ⟨_, ?_, .int _ _⟩
    have he : ∃ a', ac.eval x = .slice a' n (match ac.eval x with | .slice _ _ c => c | _ => 0) := by
      cases a with
      | none => obtain ⟨e1, e2, e3⟩ := hv.nilSlice_inv; exact ⟨none, by rw [e3]; simp [e1]⟩
      | some a =>
        obtain ⟨i, o, s⟩ := a
        obtain ⟨cap', a', e1, _⟩ := hv.slice_inv
        exact ⟨some a', by rw [e1]⟩
    obtain ⟨a', he⟩ := he
    simp only [execOp, resolve, Sem.run_bind, Sem.run_pure, Result.andThen_ok, invoke, builtin]
    generalize (match ac.eval x with | .slice _ _ c => c | _ => 0) = c' at he
    simp [he, Builtin.len_, td.run, goInt]
theorem op_lenStr {x : Operand} {t : TypeId} {st : ByteArray} [td : TyD P t .string] (hx : ρ x = .string st) (kk : K (.int .i64 st.size) h) :
    AOp P ⟨dst, .call ⟨.builtin .len, #[x], #[t]⟩, ty, pos, aft, g⟩ ρ h K :=
  .of_pure kk fun φ ac w r => by
    have e1 := (hx ▸ r.ev x (by simp [Op.operands, Call.operands])).string_inv
    refine ⟨_, ?_, .int _ _⟩
    simp [execOp, resolve, invoke, builtin, e1, Builtin.len_, td.run, goInt]
theorem op_max2 {x y : Operand} {k k' : IntKind} {a b : Int} {aT : Array TypeId} (hx : ρ x = .int k a) (hy : ρ y = .int k' b) (kk : K (.int k (if a < b then b else a)) h) :
    AOp P ⟨dst, .call ⟨.builtin .max, #[x, y], aT⟩, ty, pos, aft, g⟩ ρ h K :=
  .of_pure kk fun φ ac w r => by
    have e1 := (hx ▸ r.ev x (by simp [Op.operands, Call.operands])).int_inv
    have e2 := (hy ▸ r.ev y (by simp [Op.operands, Call.operands])).int_inv
    refine ⟨_, ?_, .int _ _⟩
    simp [execOp, resolve, invoke, builtin, e1, e2, Builtin.max_, Builtin.max2]
end Go.Eng
