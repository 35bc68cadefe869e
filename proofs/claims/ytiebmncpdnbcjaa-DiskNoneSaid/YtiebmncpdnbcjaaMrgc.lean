/-
  Texts of one claim, merged: 11 parts.
-/
import Derived.Test.YtiebmncpdnbcjaaMrgb
import Derived.RangeFuncLeaves
import Derived.RangeFuncRecord
import Derived.RangeFuncOwn
import Derived.TacticsIn
import Derived.OrdersIn
import Derived.Scope
import Derived.Test.YtiebmncpdnbcjaaRows
/-
  The engine, part P: a region whose order is drawn, told by what each operation's value is known to be.
-/
namespace Go.Eng
open Go

/-- What is known of a value, whatever is made later. -/
structure Spec where
  p : Value → Heap → Prop
  mono : ∀ v h h', p v h → Ext h h' → p v h'
def Spec.any : Spec := ⟨fun _ _ => True, fun _ _ _ _ _ => trivial⟩
def Spec.eq (c : Value) : Spec := ⟨fun v _ => v = c, fun _ _ _ h _ => h⟩
def Spec.rs (vs : List Value) : Spec := ⟨fun v h => RS h v vs, fun _ _ _ h x => RS.ext h x⟩
def Spec.rb (l : List UInt8) : Spec := ⟨fun v h => RB h v l, fun _ _ _ h x => RB.ext h x⟩
def Spec.rbb (l : List (List UInt8)) : Spec := ⟨fun v h => RBB h v l, fun _ _ _ h x => RBB.ext h x⟩

def dstOf (ops : Array Oper) (j : Nat) : Nat :=
  match ops[j]? with
  | some o => o.dst.getD 0
  | none => 0
def lowB (ops : Array Oper) (t : Nat) : Bool := ops.toList.all fun o => match o.dst with
  | some d => !Nat.beq d t
  | none => true
/-- The check: each has a place of its own, and hangs on earlier ones alone. -/
def flowB (N : Nat) (ops : Array Oper) : Bool :=
  (List.range ops.size).all fun i => (match ops[i]? with
    | some o => (match o.dst with
      | some d => Nat.blt d N
      | none => false) && o.after.all (fun e => !Region.binds .any e || Nat.blt e.on i)
    | none => false) && (List.range i).all fun j => !Nat.beq (dstOf ops i) (dstOf ops j)

section
variable {P : Program} {N : Nat} {ops : Array Oper} {Q : Exit → Env → Heap → Prop} {env : Env} {h : Heap} {S : List Spec}

def spec (S : List Spec) (i : Nat) : Spec := S.getD i .any
def FlowAt (P : Program) (ops : Array Oper) (env : Env) (h : Heap) (S : List Spec) (i : Nat) (o : Oper) : Prop :=
  ∀ e h', Ext h h' → WF h' → h.next ≤ h'.next → (∀ t, lowB ops t = true → e.get t = env.get t) → (∀ j, edgeB ops i j = true → (spec S j).p (e.get (dstOf ops j)) h') →
    (gv ops e o = some true ∧ AOp P o (ev P e) h' fun v h'' => Ext h' h'' ∧ (spec S i).p v h'') ∨ (gv ops e o = some false ∧ (spec S i).p undef h')
def FlowL (P : Program) (ops : Array Oper) (env : Env) (h : Heap) (S : List Spec) : Nat → List Oper → Prop
  | _, [] => True
  | i, o :: l => FlowAt P ops env h S i o ∧ FlowL P ops env h S (i + 1) l
theorem FlowL.cons {i : Nat} {o : Oper} {l : List Oper} (a : FlowAt P ops env h S i o) (b : FlowL P ops env h S (i + 1) l) : FlowL P ops env h S i (o :: l) := ⟨a, b⟩
theorem FlowL.nil {i : Nat} : FlowL P ops env h S i [] := trivial
theorem FlowL.at : ∀ {l : List Oper} {k i : Nat} {o : Oper}, FlowL P ops env h S k l → l[i]? = some o → FlowAt P ops env h S (k + i) o
  | [], _, _, _, _, hi => by simp at hi
  | o' :: l, k, 0, o, p, hi => by simp at hi; subst hi; exact p.1
  | o' :: l, k, i + 1, o, p, hi => by
    have := FlowL.at p.2 (i := i) (by simpa using hi)
    rwa [show k + (i + 1) = k + 1 + i from by omega]

theorem flowB_at (hb : flowB N ops = true) {i : Nat} {o : Oper} (ho : ops[i]? = some o) : (∃ d, o.dst = some d ∧ d < N) ∧ (∀ j, edgeB ops i j = true → j < i) ∧ ∀ j, j < i → dstOf ops i ≠ dstOf ops j := by
  have hi : i < ops.size := (Array.getElem?_eq_some_iff.1 ho).1
  have h1 := List.all_eq_true.1 hb i (List.mem_range.2 hi)
  rw [Bool.and_eq_true] at h1
  obtain ⟨h1, h2⟩ := h1
  simp only [ho, Bool.and_eq_true] at h1
  obtain ⟨h3, h4⟩ := h1
  refine ⟨?_, ?_, ?_⟩
  · cases hd : o.dst with
    | none => rw [hd] at h3; cases h3
    | some d => rw [hd] at h3; exact ⟨d, rfl, by simpa [Nat.blt_eq] using h3⟩
  · intro j hj
    obtain ⟨e, he, hbi, rfl⟩ := (edgeB_iff ho).1 hj
    have := Array.all_eq_true_iff_forall_mem.1 h4 e he
    simp only [hbi, Bool.not_true, Bool.false_or] at this
    simpa [Nat.blt_eq] using this
  · intro j hj
    have := List.all_eq_true.1 h2 j (List.mem_range.2 hj)
    intro e
    rw [e] at this
    simp at this
theorem dstOf_eq {i : Nat} {o : Oper} {d : Nat} (ho : ops[i]? = some o) (hd : o.dst = some d) : dstOf ops i = d := by
  simp [dstOf, ho, hd]
theorem least : ∀ (U : List Nat), U ≠ [] → ∃ i, i ∈ U ∧ ∀ j, j ∈ U → i ≤ j
  | [], h => absurd rfl h
  | [a], _ => ⟨a, by simp, by simp⟩
  | a :: b :: U, _ => by
    obtain ⟨i, hi, hm⟩ := least (b :: U) (by simp)
    by_cases ha : a ≤ i
    · refine ⟨a, by simp, fun j hj => ?_⟩
      rcases List.mem_cons.1 hj with rfl | hj
      · exact Nat.le_refl _
      · exact Nat.le_trans ha (hm j hj)
    · refine ⟨i, List.mem_cons_of_mem _ hi, fun j hj => ?_⟩
      rcases List.mem_cons.1 hj with rfl | hj
      · omega
      · exact hm j hj
theorem lowB_dst {i : Nat} {o : Oper} {d t : Nat} (ho : ops[i]? = some o) (hd : o.dst = some d) (hl : lowB ops t = true) : d ≠ t := by
  have := List.all_eq_true.1 hl o (by simpa using Array.mem_of_getElem? ho)
  rw [hd] at this
  intro e
  rw [e] at this
  simp at this

theorem flow_order (hb : flowB N ops = true) (hall : FlowL P ops env h S 0 ops.toList)
    (hend : ∀ e h', Ext h h' → WF h' → h.next ≤ h'.next → (∀ t, lowB ops t = true → e.get t = env.get t) → (∀ j, j < ops.size → (spec S j).p (e.get (dstOf ops j)) h') → Q .normal e h') :
    ∀ (n : Nat) (U : List Nat) (L : Array Bool) (e : Env) (h1 : Heap) (φ : Ren) (a : Act) (w : World), U.length = n → L.size = ops.size → U.Nodup → (∀ i, i < ops.size → (L.getD i true = false ↔ i ∈ U)) → (∀ i, i ∈ U → i < ops.size) →
      Ext h h1 → h.next ≤ h1.next → (∀ t, lowB ops t = true → e.get t = env.get t) → (∀ j, j < ops.size → ¬ j ∈ U → (spec S j).p (e.get (dstOf ops j)) h1) →
      a.defers = [] → Rel P N φ e h1 a.tmps w → wpAny P .any ops (fun ex a' w' => Post P N φ h1 w (Q ex) a' w') n L a w := by
  intro n
  induction n with
  | zero =>
    intro U L e h1 φ a w hn hL _ hmem hlt hx hnx hlow hS hd r
    have : U = [] := List.eq_nil_of_length_eq_zero hn
    subst this
    refine ⟨?_, Post.now (hend e h1 hx r.sim.next hnx hlow fun j hj => hS j hj (by simp)) hd r⟩
    apply List.eq_nil_iff_forall_not_mem.2
    intro i hi
    obtain ⟨q1, o, q2, _⟩ := mem_ready.1 hi
    have hil : i < ops.size := (Array.getElem?_eq_some_iff.1 q2).1
    have := (hmem i hil).1 q1
    cases this
  | succ n ih =>
    intro U L e h1 φ a w hn hL hnd hmem hlt hx hnx hlow hS hd r
    have hdone : ∀ j, j < ops.size → ¬ j ∈ U → L.getD j false = true := by
      intro j hj hno
      cases hq : L.getD j true with
      | false => exact absurd ((hmem j hj).1 hq) hno
      | true =>
        have hjl : j < L.size := by omega
        simp only [Array.getD_eq_getD_getElem?, Array.getElem?_eq_getElem hjl, Option.getD_some] at hq ⊢
        exact hq
    refine ⟨fun hnil => ?_, fun i hi => ?_⟩
    · exfalso
      obtain ⟨i0, hi0, hmin⟩ := least U (by intro e; rw [e] at hn; simp at hn)
      have hil := hlt i0 hi0
      have ho0 : ops[i0]? = some ops[i0] := Array.getElem?_eq_getElem hil
      have : i0 ∈ Region.ready .any ops L := by
        refine mem_ready.2 ⟨(hmem i0 hil).2 hi0, ops[i0], ho0, fun ed he hbi => ?_⟩
        have hlt2 := (flowB_at hb ho0).2.1 ed.on ((edgeB_iff ho0).2 ⟨ed, he, hbi, rfl⟩)
        exact hdone ed.on (by omega) (fun hin => by have := hmin _ hin; omega)
      rw [hnil] at this
      cases this
    · obtain ⟨hi1, o, ho, hedges⟩ := mem_ready.1 hi
      have hil : i < ops.size := (Array.getElem?_eq_some_iff.1 ho).1
      have hiU := (hmem i hil).1 hi1
      obtain ⟨U1, U2, rfl⟩ := List.append_of_mem hiU
      obtain ⟨⟨d, hdst, hdN⟩, hback, _⟩ := flowB_at hb ho
      have hdist : ∀ j, j < ops.size → j ≠ i → dstOf ops j ≠ d := by
        intro j hj hne he
        rw [← dstOf_eq ho hdst] at he
        have hoj : ops[j]? = some ops[j] := Array.getElem?_eq_getElem hj
        rcases Nat.lt_or_gt_of_ne hne with h2 | h2
        · exact (flowB_at hb ho).2.2 j h2 he.symm
        · exact (flowB_at hb hoj).2.2 i h2 he
      have hU' : (U1 ++ U2).length = n := by simp at hn ⊢; omega
      have hnd' : (U1 ++ U2).Nodup := by
        rw [List.nodup_append] at hnd ⊢
        refine ⟨hnd.1, (List.nodup_cons.1 hnd.2.1).2, fun x hx1 y hy => hnd.2.2 x hx1 y (by simp [hy])⟩
      have hni : ¬ i ∈ U1 ++ U2 := by
        rw [List.nodup_append] at hnd
        intro hin
        rcases List.mem_append.1 hin with h2 | h2
        · exact hnd.2.2 i h2 i (by simp) rfl
        · exact (List.nodup_cons.1 hnd.2.1).1 h2
      have hL' : (L.setIfInBounds i true).size = ops.size := by simp [hL]
      have hsub : ∀ j, j ≠ i → (j ∈ U1 ++ U2 ↔ j ∈ U1 ++ i :: U2) := by
        intro j hj
        simp [hj]
      have hmem' : ∀ j, j < ops.size → ((L.setIfInBounds i true).getD j true = false ↔ j ∈ U1 ++ U2) := by
        intro j hj
        by_cases hji : i = j
        · subst hji
          have : (L.setIfInBounds i true).getD i true = true := by
            simp [Array.getD_eq_getD_getElem?]
          rw [this]
          constructor
          · intro e; cases e
          · intro e; exact absurd e hni
        · rw [getD_set_ne _ hji, hmem j hj, hsub j (fun e => hji e.symm)]
      have hlt' : ∀ j, j ∈ U1 ++ U2 → j < ops.size := fun j hj => hlt j (by
        rcases List.mem_append.1 hj with h2 | h2
        · exact List.mem_append_left _ h2
        · exact List.mem_append_right _ (by simp [h2]))
      have go : ∀ (φ' : Ren) (v : Value) (h2 : Heap) (a' : Act) (w' : World), a'.defers = [] → Ext h1 h2 → (spec S i).p v h2 → Rel P N φ' (e.put o.dst v) h2 a'.tmps w' → Step φ h1 w φ' h2 w' →
          wpAny P .any ops (fun ex a2 w2 => Post P N φ h1 w (Q ex) a2 w2) n (L.setIfInBounds i true) a' w' := by
        intro φ' v h2 a' w' hd' hx2 hsp r' st
        refine wpAny_mono (fun _ _ _ hp => hp.trans st) _ _ _ _ (ih (U1 ++ U2) _ _ h2 φ' a' w' hU' hL' hnd' hmem' hlt' (hx.trans hx2) (Nat.le_trans hnx st.next) ?_ ?_ hd' r')
        · intro t ht
          rw [put_other (fun he => lowB_dst ho he ht rfl)]
          exact hlow t ht
        · intro j hj hno
          by_cases hji : j = i
          · subst hji
            rw [dstOf_eq ho hdst, hdst, show (e.put (some d) v) = (d, v) :: e from rfl, Env.get_put, if_pos rfl]
            exact hsp
          · rw [put_other (fun he => hdist j hj hji (by rw [hdst] at he; cases he; rfl))]
            exact (spec S j).mono _ _ _ (hS j hj (fun hin => hno ((hsub j hji).2 hin))) hx2
      have hdB : dstB N o.dst = true := by
        rw [hdst]
        simpa [dstB, Nat.blt_eq] using hdN
      have hat0 := FlowL.at hall (i := i) (by simpa using ho)
      rw [Nat.zero_add] at hat0
      have hat := hat0 e h1 hx r.sim.next hnx hlow (fun j hj => hS j (by have := hback j hj; omega) (fun hin => by
        have hjl : j < ops.size := by have := hback j hj; omega
        have q1 := (hmem j hjl).2 hin
        obtain ⟨ed, he, hbi, rfl⟩ := (edgeB_iff ho).1 hj
        have q2 := hedges ed he hbi
        have hjl' : ed.on < L.size := by omega
        simp only [Array.getD_eq_getD_getElem?, Array.getElem?_eq_getElem hjl', Option.getD_some] at q1 q2
        rw [q1] at q2; cases q2))
      rcases hat with ⟨hg, hop⟩ | ⟨hg, hsp⟩
      · simp only [wpOp, ho, wanted_of r hg, if_true]
        refine .inl (hop φ a w ⟨r.sim, fun x _ => r.ev x⟩ _ _ fun c w' φ' h2 v ⟨kv1, kv2⟩ vr s st => ?_)
        exact go φ' v h2 _ w' (by rw [put_defers]; exact hd) kv1 kv2 ((r.step s st).put o.dst (dstB_lt hdB) vr) st
      · simp only [wpOp, ho, wanted_of r hg, Bool.false_eq_true, if_false]
        exact go φ undef h1 _ w (by rw [put_defers]; exact hd) (Ext.refl _) hsp (r.put o.dst (dstB_lt hdB) (.und _)) (Step.refl _ _ _)

/-- A region whose order is drawn, by what is known of each value. -/
theorem AWp.flow {id : Nat} (S : List Spec) (hm : P.follows .mixedOrders = true) (hb : flowB N ops = true)
    (hend : ∀ e h', Ext h h' → WF h' → h.next ≤ h'.next → (∀ t, lowB ops t = true → e.get t = env.get t) → (∀ j, j < ops.size → (spec S j).p (e.get (dstOf ops j)) h') → Q .normal e h')
    (hall : FlowL P ops env h S 0 ops.toList) : AWp P N (.region id ops true) Q env h := by
  intro φ a w hd r
  refine wp_region_any hm ?_
  have r' : Rel P N φ env h a.tmps w.drew := ⟨r.sim.drew, r.size, r.env⟩
  refine wpAny_mono (fun _ _ _ hp => hp.trans Step.drew) _ _ _ _ (flow_order hb hall hend ops.size (List.range ops.size) (Array.replicate ops.size false) env h φ a w.drew (by simp) (by simp) List.nodup_range ?_ ?_ (Ext.refl _) (Nat.le_refl _) (fun _ _ => rfl) ?_ hd r')
  · intro i hi
    have q : (Array.replicate ops.size false).getD i true = false := by
      simp [Array.getD_eq_getD_getElem?, hi]
    rw [q]
    simp [hi]
  · intro i hi
    exact List.mem_range.1 hi
  · intro j hj hno
    exact absurd (List.mem_range.2 hj) hno
/-- The guard holds. -/
theorem gv_on {e : Env} {o oj : Oper} {j : Nat} {b : Bool} (hg : o.guard = some (j, b)) (hj : ops[j]? = some oj) {d : Nat} (hd : oj.dst = some d) (he : e.get d = .bool b) : gv ops e o = some true := by
  simp [gv, hg, hj, hd, he]
/-- A row of one. -/
theorem op_row1 {ρ : Operand → Value} {K : Value → Heap → Prop} {dst : Option Tmp} {ty : TypeId} {pos : String} {aft : Array Edge} {g : Option (Nat × Bool)} {t e by_ : Nat} {z v : Value} {x : Operand} [td : TyD P t (.slice e)] [ti : TyI P e 1 by_ z] (hz : oneB z = true) (hx : ρ x = v) (h1 : oneB v = true)
    (kk : K (.slice (some ⟨h.next, 0, some 1⟩) 1 1) (h.alloc ⟨[v], e, true⟩)) : AOp P ⟨dst, .buildSlice t 1 #[(0, x)], ty, pos, aft, g⟩ ρ h K :=
  op_row [v] hz rfl (by show [(0, ρ x)] = _; rw [hx]; rfl) rfl (by intro u hu; rw [List.mem_singleton.1 hu]; exact h1) kk
end
end Go.Eng

/-
  The engine, part Q: arrays by value, a slice against nil, results of two kinds.
-/
namespace Go.Eng
open Go

variable {P : Program} {ρ : Operand → Value} {h : Heap} {K : Value → Heap → Prop} {dst : Option Tmp} {ty : TypeId} {pos : String} {aft : Array Edge} {g : Option (Nat × Bool)}

/-- Two arrays of whole numbers. -/
theorem run_part_int {e : TypeId} {k : IntKind} [te : TyD P e (.int k)] (w : World) (cs : Array Value) (o : Nat) (v : Value) (hv : cs[o]? = some v) : (part e cs o).run P w = .ok v w := by
  simp [part, te.isAgg, aggB, hv]
theorem run_equalIn_int' {e : TypeId} {k : IntKind} [te : TyD P e (.int k)] (w : World) (d : Nat) (a b : Int) : (Op.equalIn (d + 1) e (.int k a) (.int k b)).run P w = .ok (decide (a = b)) w := by
  simp [Op.equalIn, te.run]
  by_cases h : a = b <;> simp [h]
theorem run_eqRowIn {t e : TypeId} {k : IntKind} {by_ : Nat} {z : Value} {n : Nat} [td : TyD P t (.array n e)] [te : TyD P e (.int k)] [ti : TyI P e 1 by_ z] (w : World) (d : Nat) (hd : ∀ a b, (Op.equalIn d e (.int k a) (.int k b)).run P w = .ok (decide (a = b)) w) (xs ys : List Int) (hx : xs.length = n) (hy : ys.length = n) :
    (Op.equalIn (d + 1) t (.agg (iv k xs).toArray) (.agg (iv k ys).toArray)).run P w = .ok (decide (xs = ys)) w := by
  simp only [Op.equalIn, Sem.run_bind, td.run, Result.andThen_ok, ti.size]
  rw [Std.Legacy.Range.forIn_eq_forIn_range']
  have key : ∀ m s, s + m = n → (xs.take s = ys.take s) →
      ((forIn (List.range' s m 1) ((none, ()) : Option Bool × Unit) fun i _ => do
        let a ← part e (iv k xs).toArray (i * 1)
        let b ← part e (iv k ys).toArray (i * 1)
        let r ← Op.equalIn d e a b
        if (!r) = true then pure (ForInStep.done (some false, ())) else pure (ForInStep.yield (none, ()))) : Sem _).run P w = .ok (if xs = ys then none else some false, ()) w := by
    intro m
    induction m with
    | zero =>
      intro s hs ht
      have : xs = ys := by
        rw [List.take_of_length_le (by omega), List.take_of_length_le (by omega)] at ht
        exact ht
      simp [this]
    | succ m ih =>
      intro s hs ht
      have hxs : xs[s]? = some xs[s] := List.getElem?_eq_getElem (by omega)
      have hys : ys[s]? = some ys[s] := List.getElem?_eq_getElem (by omega)
      have p1 := run_part_int (P := P) (e := e) w (iv k xs).toArray (s * 1) (.int k xs[s]) (by simp [iv, hxs])
      have p2 := run_part_int (P := P) (e := e) w (iv k ys).toArray (s * 1) (.int k ys[s]) (by simp [iv, hys])
      simp only [List.range'_succ, List.forIn_cons, Sem.run_bind, p1, p2, Result.andThen_ok, hd]
      by_cases he : xs[s] = ys[s]
      · simp only [he, decide_true, Bool.not_true, Bool.false_eq_true, if_false, Sem.run_pure, Result.andThen_ok]
        exact ih (s + 1) (by omega) (by rw [List.take_add_one, List.take_add_one, ht, hxs, hys, he])
      · have hne : ¬ xs = ys := by
          intro e
          subst e
          exact he rfl
        simp [he, hne]
  have h1 := key n 0 (by omega) rfl
  simp only [Std.Legacy.Range.size, Nat.sub_zero, Nat.add_one_sub_one, Nat.div_one]
  rw [h1]
  by_cases he : xs = ys <;> simp [he]
theorem run_eqRow {t e : TypeId} {k : IntKind} {by_ : Nat} {z : Value} {n : Nat} [td : TyD P t (.array n e)] [te : TyD P e (.int k)] [ti : TyI P e 1 by_ z] (w : World) (xs ys : List Int) (hx : xs.length = n) (hy : ys.length = n) :
    (Op.equal t (.agg (iv k xs).toArray) (.agg (iv k ys).toArray)).run P w = .ok (decide (xs = ys)) w :=
  run_eqRowIn (P := P) w 9999 (fun a b => run_equalIn_int' (P := P) w 9998 a b) xs ys hx hy
theorem op_eqRow {t t' e : TypeId} {x y : Operand} {k : IntKind} {by_ : Nat} {z : Value} {n : Nat} (xs ys : List Int) [td : TyD P t (.array n e)] [te : TyD P e (.int k)] [ti : TyI P e 1 by_ z] (hg : P.eqGuardType P.depth t = false)
    (hx : ρ x = .agg (iv k xs).toArray) (hy : ρ y = .agg (iv k ys).toArray) (h1 : xs.length = n) (h2 : ys.length = n) (kk : K (.bool (decide (xs = ys))) h) : AOp P ⟨dst, .binOp .eql t x y t', ty, pos, aft, g⟩ ρ h K :=
  .of_pure kk fun φ ac w r => by
    have hone : ∀ (zs : List Int) (c : Value), VRel φ h.next (.agg (iv k zs).toArray) c → c = .agg (iv k zs).toArray := by
      intro zs c hc
      obtain ⟨cs, e1, hs, hr⟩ := hc.agg_inv
      rw [e1]
      congr 1
      apply Array.ext
      · exact hs.symm
      · intro i hi1 hi2
        have hv := hr i _ _ (Array.getElem?_eq_getElem hi2) (Array.getElem?_eq_getElem hi1)
        have : (iv k zs).toArray[i] = .int k (zs[i]'(by simpa [iv] using hi2)) := by simp [iv]
        rw [this] at hv ⊢
        exact hv.int_inv
    have e1 := hone xs _ (hx ▸ r.ev x (by simp [Op.operands]))
    have e2 := hone ys _ (hy ▸ r.ev y (by simp [Op.operands]))
    refine ⟨_, ?_, .bool _⟩
    have hgd : (eqGuard .eql t x y (.agg (iv k xs).toArray) (.agg (iv k ys).toArray)).run P w = .ok () w := by
      simp [eqGuard, hg]
    simp [execOp, e1, e2, hgd, binOp, run_eqRow (P := P) (k := k) w xs ys h1 h2]
/-- A slice against nil. -/
theorem op_eqNil {t t' e : TypeId} {x : Operand} {y : Operand} {a : Option Addr} {n c : Nat} [td : TyD P t (.slice e)] (hx : ρ x = .slice a n c) (hy : ρ y = .slice none 0 0) (kk : K (.bool a.isNone) h) : AOp P ⟨dst, .binOp .eql t x y t', ty, pos, aft, g⟩ ρ h K :=
  .of_pure kk fun φ ac w r => by
    have hv := hx ▸ r.ev x (by simp [Op.operands])
    have h2 := hy ▸ r.ev y (by simp [Op.operands])
    obtain ⟨_, _, e2⟩ := h2.nilSlice_inv
    have he : ∃ a' n' c', ac.eval x = .slice a' n' c' ∧ a'.isNone = a.isNone := by
      cases a with
      | none => obtain ⟨e1, e2, e3⟩ := hv.nilSlice_inv; exact ⟨none, _, _, e3, rfl⟩
      | some a =>
        obtain ⟨i, o, s⟩ := a
        obtain ⟨cap', a', e1, _⟩ := hv.slice_inv
        exact ⟨some a', _, _, e1, rfl⟩
    obtain ⟨a', n', c', e1, e3⟩ := he
    refine ⟨.bool a.isNone, ?_, .bool _⟩
    simp [execOp, e1, e2, eqGuard, binOp, run_equal_slice_nil (P := P) w t e a' n' c' td.eq, e3]
/-- An array's zero, avs a literal. -/
theorem op_buildZ {t e sz by_ n : Nat} {z : Value} [td : TyD P t (.array n e)] [ti : TyI P t sz by_ z] {vs : List Value} {es eb : Nat} {ez : Value} [te : TyI P e es eb ez] (hz : z = .agg vs.toArray) (kk : K (.agg vs.toArray) h) : AOp P ⟨dst, .build t #[], ty, pos, aft, g⟩ ρ h K :=
  .of_pure kk fun φ ac w r => by
    have hv := VRels.scalars (φ := φ) (n := h.next) ti.plain
    subst hz
    refine ⟨.agg vs.toArray, ?_, .agg _ _ rfl (fun k x y hx hy => ?_)⟩
    · have hrun : (Instr.build t (#[] : Array (Nat × Value))).run P w = .ok (.agg vs.toArray) w := by
        simp [Instr.build, ti.zero, td.run, te.size, Instr.fill, Value.cells]
      simp [execOp, hrun]
    · obtain ⟨c, hc, hr⟩ := hv.get (j := k) (x := x) (by simpa [Value.cells] using hx)
      have : y = c := by
        simp [Value.cells] at hc hy
        simpa [hc] using hy.symm
      exact this ▸ hr
/-- Results: one in memory, one in a slot. -/
theorem ResV.cell2 {fn : Func} {env : Env} {a u : Tmp} {t : TypeId} {i o sz by_ : Nat} {z : Value} {s : Option Nat} {b : Blk} {d : TypeDesc} [td : TyD P t d] [ti : TyI P t sz by_ z] (hr : fn.results = #[.cell a t, .tmp u]) (hx : env.get a = .pointer (some ⟨i, o, s⟩)) (ha : aggB d = true)
    (hi : h.get i = some b) (hl : o + sz ≤ b.cells.length) : ResV P fn env h (.tuple #[.agg ((b.cells.drop o).take sz).toArray, env.get u]) := by
  intro N φ tmps w r
  obtain ⟨v, h1, h2⟩ := load_run (P := P) (t := t) r.sim (hx ▸ r.env a) ha hi hl
  refine ⟨.tuple #[v, tmps.getD u undef], ?_, .tuple2 h2 (r.env u)⟩
  have h3 : (results fn tmps).run P w = (do let x ← loadVar t (← asAddr (tmps.getD a undef)); pure (.tuple #[x, tmps.getD u undef]) : Sem Value).run P w := by
    simp only [results, hr]
    simp only [List.mapM_toArray, List.mapM_cons, List.mapM_nil, Sem.run_bind, Sem.run_map, Sem.run_pure]
    cases (asAddr (tmps.getD a undef)).run P w with
    | halt x w1 => rfl
    | ok x w1 =>
      simp only [Result.andThen_ok]
      cases (loadVar t x).run P w1 with
      | halt y w2 => rfl
      | ok y w2 => rfl
  rw [h3]
  simp only [Sem.run_bind] at h1 ⊢
  cases h4 : (asAddr (tmps.getD a undef)).run P w with
  | halt x w1 => rw [h4] at h1; cases h1
  | ok x w1 =>
    rw [h4] at h1
    simp only [Result.andThen_ok] at h1 ⊢
    rw [h1]
    simp
/-- A call that leaves nothing behind, whose result speaks of elder blocks alone. -/
theorem ACalls.resetB {f : FuncId} {args : List Value} {Q : Value → Heap → Prop} (p : ACalls P f args h fun v h' => Bdd h.next v ∧ Ext h h' ∧ Q v h) : ACalls P f args h Q :=
  fun φ w cargs s va => (p φ w cargs s va).mono fun e w' hr => by
    cases e with
    | returned c =>
      obtain ⟨v, h', φ', ⟨⟨φ0, c0, hb⟩, hx, q⟩, r1, r2, r3⟩ := hr
      exact ⟨v, h, φ', q, r1.lower hb, s.reset r2 r3.agree hx, r3.reset hx⟩
    | _ => exact hr
theorem Bdd.plain {n : Nat} {v : Value} (h : plainV v = true) : Bdd n v := ⟨fun _ => ⟨0, 0, 0⟩, v, .of_plain h⟩
theorem Bdd.pair {n : Nat} {a b : Value} (_ha : Bdd n a) (_hb : Bdd n b) (hp : plainV a = true) (hq : plainV b = true) : Bdd n (.tuple #[a, b]) :=
  ⟨fun _ => ⟨0, 0, 0⟩, .tuple #[a, b], .tuple2 (.of_plain hp) (.of_plain hq)⟩
theorem plain_iv (k : IntKind) (zs : List Int) : plainV (.agg (iv k zs).toArray) = true := by
  show (iv k zs).toArray.all scalar = true
  rw [List.all_toArray]
  refine List.all_eq_true.2 fun v hv => ?_
  obtain ⟨z, _, rfl⟩ := List.mem_map.1 hv
  rfl
end Go.Eng

/-
  The engine, part R: calls whose answer is known and that leave nothing.
-/
namespace Go.Eng
open Go

variable {P : Program} {ρ : Operand → Value} {h : Heap} {K : Value → Heap → Prop} {dst : Option Tmp} {ty : TypeId} {pos : String} {aft : Array Edge} {g : Option (Nat × Bool)}

theorem op_callS {x : Operand} {f : FuncId} {fi ca : Array Value} {args : Array Operand} {aT : Array TypeId} [fc : FnC P f] {evs : List Value} {v : Value} (hx : ρ x = .func (.func f) fi ca) (he : fi.toList ++ (args.toList.map ρ ++ ca.toList) = evs)
    (c : ACalls P f evs h fun u h' => u = v ∧ h' = h) (kk : K v h) : AOp P ⟨dst, .call ⟨.value x, args, aT⟩, ty, pos, aft, g⟩ ρ h K :=
  op_call hx he (c.mono (by rintro u h' ⟨rfl, rfl⟩; exact kk))
theorem ACalls.val {f : FuncId} {args : List Value} {v v' : Value} (e : v = v') (c : ACalls P f args h fun u h' => u = v ∧ h' = h) : ACalls P f args h fun u h' => u = v' ∧ h' = h := e ▸ c
end Go.Eng

/-
  The engine, part S: code that ranges over functions, and the functions that are ranged over: objects besides the cells, marks, yields.
-/
namespace Go.Eng
open Go

/-- Objects that are no cells turn; none of the cells does. -/
structure Aside (w w' : World) : Prop where
  size : w.heap.size ≤ w'.heap.size
  cells : ∀ (k : Nat) (o : Obj), w.heap[k]? = some o → keptB o = true → w'.heap[k]? = some o
theorem kept_of_cells {o : Obj} (h : o.isCells = true) : keptB o = true := by
  cases o <;> first | rfl | cases h
theorem Sim.aside {P : Program} {φ : Ren} {h : Heap} {w w' : World} (s : Sim P φ h w) (q : Aside w w') : Sim P φ h w' where
  next := s.next
  low i b hi := Nat.lt_of_lt_of_le (s.low i b hi) q.size
  apart := s.apart
  glob := s.glob
  objs i o hi := by
    obtain ⟨x, h1, h2, _⟩ := (s.objs i o hi).obj
    exact (s.objs i o hi).world (fun _ _ => rfl) (s.ltO hi) (Nat.le_refl _) (by rw [q.cells _ _ h1 h2, h1])
  apartO := s.apartO
  blk i b hi := by
    have hb := s.blk i b hi
    unfold BRel at hb ⊢
    split
    · rename_i ho
      rw [if_pos ho] at hb
      obtain ⟨arr, fr, h1, h2⟩ := hb
      exact ⟨arr, fr, q.cells _ _ h1 rfl, h2⟩
    · rename_i ho
      rw [if_neg ho] at hb
      intro k v hk
      obtain ⟨c, hc, hr⟩ := hb k v hk
      obtain ⟨o, h1, h2⟩ := cells_of_cell hc
      have h3 := q.cells _ _ h1 (kept_of_cells h2)
      refine ⟨c, ?_, hr⟩
      unfold World.cell? at hc ⊢
      rw [h3]
      rw [h1] at hc
      exact hc
theorem Sim.not_owned {P : Program} {φ : Ren} {h : Heap} {w : World} (s : Sim P φ h w) {k : Nat} {o : Obj} (hk : w.heap[k]? = some o) (ho : keptB o = false) : ¬ Owned φ h k := by
  rintro (⟨i, b, h1, h2, rfl⟩ | ⟨i, x, h1, rfl⟩)
  · obtain ⟨arr, fr, h3, _⟩ := s.owned h1 h2
    rw [hk] at h3
    cases h3
    cases ho
  · obtain ⟨y, h3, h4, _⟩ := (s.objs i x h1).obj
    rw [hk] at h3
    cases h3
    rw [ho] at h4
    cases h4
theorem lt_of_get {w : World} {k : Nat} {o : Obj} (hk : w.heap[k]? = some o) : k < w.heap.size := (Array.getElem?_eq_some_iff.1 hk).1
theorem Step.other {P : Program} {φ φ' : Ren} {h h' : Heap} {w w' : World} (s : Sim P φ h w) (t : Step φ h w φ' h' w') {k : Nat} {o : Obj} (hk : w.heap[k]? = some o) (ho : keptB o = false) : w'.heap[k]? = some o := by
  rw [t.frame k (lt_of_get hk) (s.not_owned hk ho)]; exact hk
theorem Aside.put {w : World} {l : Nat} {o o' : Obj} (hl : w.heap[l]? = some o) (ho : keptB o = false) : Aside w (w.putObj l o') where
  size := by simp [World.putObj]
  cells k x hk hx := by
    rw [World.putObj_heap_other (by rintro rfl; rw [hl] at hk; cases hk; rw [ho] at hx; cases hx)]
    exact hk
theorem Aside.alloc (w : World) (o : Obj) : Aside w (w.alloc o) where
  size := by show w.heap.size ≤ (w.heap.push o).size; simp
  cells k x hk hx := by
    have := lt_of_get hk
    show (w.heap.push o)[k]? = _
    rw [Array.getElem?_push_lt this]
    rw [Array.getElem?_eq_getElem this] at hk
    exact hk
theorem alloc_get_old {w : World} {o x : Obj} {k : Nat} (hk : w.heap[k]? = some x) : (w.alloc o).heap[k]? = some x := by
  have := lt_of_get hk
  show (w.heap.push o)[k]? = _
  rw [Array.getElem?_push_lt this]
  rw [Array.getElem?_eq_getElem this] at hk
  exact hk

/-- A step but for some objects. -/
structure StepX (x : Nat → Prop) (φ : Ren) (h : Heap) (w : World) (φ' : Ren) (h' : Heap) (w' : World) : Prop where
  next : h.next ≤ h'.next
  agree : ∀ i, i < h.next → φ' i = φ i
  os : w'.os = w.os
  tape : w'.tape = w.tape
  output : w'.output = w.output
  size : w.heap.size ≤ w'.heap.size
  frame : ∀ k, k < w.heap.size → ¬ Owned φ h k → ¬ x k → w'.heap[k]? = w.heap[k]?
  own : ∀ k, Owned φ' h' k → Owned φ h k ∨ w.heap.size ≤ k
theorem Step.x {x : Nat → Prop} {φ φ' : Ren} {h h' : Heap} {w w' : World} (s : Step φ h w φ' h' w') : StepX x φ h w φ' h' w' :=
  ⟨s.next, s.agree, s.os, s.tape, s.output, s.size, fun k a b _ => s.frame k a b, s.own⟩
theorem StepX.full {x : Nat → Prop} {φ φ' : Ren} {h h' : Heap} {w w' : World} (s : StepX x φ h w φ' h' w') (hx : ∀ k, k < w.heap.size → ¬ x k) : Step φ h w φ' h' w' :=
  ⟨s.next, s.agree, s.os, s.tape, s.output, s.size, fun k a b => s.frame k a b (hx k a), s.own⟩
theorem StepX.wider {x y : Nat → Prop} {φ φ' : Ren} {h h' : Heap} {w w' : World} (s : StepX x φ h w φ' h' w') (hx : ∀ k, k < w.heap.size → x k → y k) : StepX y φ h w φ' h' w' :=
  ⟨s.next, s.agree, s.os, s.tape, s.output, s.size, fun k a b c => s.frame k a b (fun d => c (hx k a d)), s.own⟩
theorem StepX.refl (x : Nat → Prop) (φ : Ren) (h : Heap) (w : World) : StepX x φ h w φ h w := (Step.refl φ h w).x
theorem StepX.trans {x : Nat → Prop} {φ1 φ2 φ3 : Ren} {h1 h2 h3 : Heap} {w1 w2 w3 : World} (a : StepX x φ1 h1 w1 φ2 h2 w2) (b : StepX x φ2 h2 w2 φ3 h3 w3) : StepX x φ1 h1 w1 φ3 h3 w3 where
  next := Nat.le_trans a.next b.next
  agree i hi := (b.agree i (Nat.lt_of_lt_of_le hi a.next)).trans (a.agree i hi)
  os := b.os.trans a.os
  tape := b.tape.trans a.tape
  output := b.output.trans a.output
  size := Nat.le_trans a.size b.size
  frame k hk ho hx := by
    rw [b.frame k (Nat.lt_of_lt_of_le hk a.size) (fun h => (a.own k h).elim ho (fun h' => by omega)) hx, a.frame k hk ho hx]
  own k hk := (b.own k hk).elim (fun h => a.own k h) (fun h => .inr (Nat.le_trans a.size h))
theorem StepX.mono {x : Nat → Prop} {φ φ' : Ren} {h h' : Heap} {w w' : World} (s : StepX x φ h w φ' h' w') {v c : Value} (r : VRel φ h.next v c) : VRel φ' h'.next v c := r.mono s.agree s.next
/-- An object is put that is newer than the step's beginning, or excepted. -/
theorem StepX.put {x : Nat → Prop} {φ φ' : Ren} {h h' : Heap} {w w' : World} (s : StepX x φ h w φ' h' w') {l : Nat} (o : Obj) (hl : w.heap.size ≤ l ∨ x l) : StepX x φ h w φ' h' (w'.putObj l o) :=
  ⟨s.next, s.agree, s.os, s.tape, s.output, by simpa [World.putObj] using s.size, fun k a b c => by
    rw [World.putObj_heap_other (by rintro rfl; rcases hl with hl | hl; omega; exact c hl)]
    exact s.frame k a b c, s.own⟩
theorem StepX.alloc {x : Nat → Prop} {φ φ' : Ren} {h h' : Heap} {w w' : World} (s : StepX x φ h w φ' h' w') (o : Obj) : StepX x φ h w φ' h' (w'.alloc o) :=
  ⟨s.next, s.agree, s.os, s.tape, s.output, by have := s.size; show w.heap.size ≤ (w'.heap.push o).size; simp; omega, fun k a b c => by
    have := s.size
    have h1 : k < w'.heap.size := by omega
    show (w'.heap.push o)[k]? = _
    rw [Array.getElem?_push_lt h1, ← Array.getElem?_eq_getElem h1]
    exact s.frame k a b c, s.own⟩

/-- The marks of the ranges over functions that an activation has come by, where B says. -/
def Marks (B : Nat → Prop) (ds : List Deferred) (w : World) : Prop :=
  ∃ Ds : List Nat, ds = Ds.map (fun D => { target := .collected D, args := #[] }) ∧ Ds.Nodup ∧ ∀ D ∈ Ds, B D ∧ w.heap[D]? = some (.deferred (some []))
theorem Marks.nil (B : Nat → Prop) (w : World) : Marks B [] w := ⟨[], rfl, .nil, by simp⟩
theorem Marks.keep {B : Nat → Prop} {ds : List Deferred} {w w' : World} (m : Marks B ds w) (hk : ∀ (D : Nat), w.heap[D]? = some (Obj.deferred (some [])) → w'.heap[D]? = some (Obj.deferred (some []))) : Marks B ds w' := by
  obtain ⟨Ds, h1, h2, h3⟩ := m
  exact ⟨Ds, h1, h2, fun D hD => ⟨(h3 D hD).1, hk D (h3 D hD).2⟩⟩
theorem Marks.step {P : Program} {B : Nat → Prop} {ds : List Deferred} {φ φ' : Ren} {h h' : Heap} {w w' : World} (m : Marks B ds w) (s : Sim P φ h w) (t : Step φ h w φ' h' w') : Marks B ds w' :=
  m.keep fun _D hD => t.other s hD rfl

/-- Where code stands: what may turn besides; what is known of the world besides (its state told by a pending jump, if there is one); the marks' base. -/
structure Ctx (P : Program) where
  x : Nat → Prop
  L : Option Code → Ren → Heap → World → Prop
  B : Nat → Prop
  st : ∀ {s : Option Code} {φ φ' : Ren} {h h' : Heap} {w w' : World}, Sim P φ h w → L s φ h w → Step φ h w φ' h' w' → L s φ' h' w'
/-- A fence that lets all through, in a round or not. -/
abbrev Fc (ro : Option Nat) : Fence := { Fence.wide with round := ro }

abbrev XQ := Env → Heap → Option Code → Prop
def XPost {P : Program} (C : Ctx P) (N : Nat) (φ : Ren) (h : Heap) (w : World) (K : XQ) (a' : Act) (w' : World) : Prop :=
  ∃ env' h' s' φ', K env' h' s' ∧ Marks C.B a'.defers w' ∧ Rel P N φ' env' h' a'.tmps w' ∧ StepX C.x φ h w φ' h' w' ∧ C.L s' φ' h' w'
def XWp {P : Program} (C : Ctx P) (ro : Option Nat) (N : Nat) (c : Code) (Q : Exit → XQ) (env : Env) (h : Heap) (s : Option Code) : Prop :=
  ∀ φ a w, C.L s φ h w → Marks C.B a.defers w → Rel P N φ env h a.tmps w → c.wpIn (Fc ro) 0 P (fun ex a' w' => XPost C N φ h w (Q ex) a' w') a w

section rules
variable {P : Program} {C : Ctx P} {ro : Option Nat} {N : Nat} {Q : Exit → XQ} {env : Env} {h : Heap} {s : Option Code}

theorem XPost.trans {φ φ' : Ren} {h h' : Heap} {w w' : World} {K : XQ} {a : Act} {w2 : World} (p : XPost C N φ' h' w' K a w2) (t : StepX C.x φ h w φ' h' w') : XPost C N φ h w K a w2 := by
  obtain ⟨e, h2, s2, φ2, k, d, r, u, l⟩ := p
  exact ⟨e, h2, s2, φ2, k, d, r, t.trans u, l⟩
theorem XPost.mono {φ : Ren} {h : Heap} {w : World} {K K' : XQ} {a : Act} {w2 : World} (p : XPost C N φ h w K a w2) (hk : ∀ e h' s', K e h' s' → K' e h' s') : XPost C N φ h w K' a w2 := by
  obtain ⟨e, h2, s2, φ2, k, r⟩ := p
  exact ⟨e, h2, s2, φ2, hk _ _ _ k, r⟩
theorem XPost.now {φ : Ren} {h : Heap} {w : World} {K : XQ} {env : Env} {a : Act} (k : K env h s) (l : C.L s φ h w) (d : Marks C.B a.defers w) (r : Rel P N φ env h a.tmps w) : XPost C N φ h w K a w :=
  ⟨env, h, s, φ, k, d, r, StepX.refl _ _ _ _, l⟩
theorem XWp.mono {c : Code} {Q' : Exit → XQ} (p : XWp C ro N c Q env h s) (hq : ∀ ex e h' s', Q ex e h' s' → Q' ex e h' s') : XWp C ro N c Q' env h s :=
  fun φ a w l d r => wpIn_mono (p φ a w l d r) fun ex _ _ hp => hp.mono (hq ex)
theorem XWp.weak {c : Code} {env0 : Env} {h0 : Heap} (p : XWp C ro N c Q env0 h0 s) (k : Weak env h env0 h0) : XWp C ro N c Q env h s :=
  fun φ a w l d r => wpIn_mono (p φ a w (C.st r.sim l (Step.weak k.next k.ext)) d (r.weak k)) fun _ _ _ hp => hp.trans (Step.weak k.next k.ext).x
theorem XWp.wf {c : Code} (p : WF h → XWp C ro N c Q env h s) : XWp C ro N c Q env h s := fun φ a w l d r => p r.sim.next φ a w l d r
theorem XWp.heap {c : Code} {h' : Heap} (e : h' = h) (p : XWp C ro N c Q env h s) : XWp C ro N c Q env h' s := e ▸ p
theorem XWp.skip (k : Q .normal env h s) : XWp C ro N .skip Q env h s := fun _ _ _ l d r => wpIn_skip (XPost.now k l d r)
theorem XWp.exit {id : Nat} (k : Q (.exit id) env h s) : XWp C ro N (.exit id) Q env h s := fun _ _ _ l d r => wpIn_exit (XPost.now k l d r)
theorem XWp.ret (k : Q .ret env h s) : XWp C ro N .ret Q env h s := fun _ _ _ l d r => wpIn_ret (XPost.now k l d r)
theorem XWp.label {i : Nat} (k : Q .normal env h s) : XWp C ro N (.label i) Q env h s := fun _ _ _ l d r => wpIn_label (XPost.now k l d r)

@[reducible] def thenX (K : XQ) (Q : Exit → XQ) : Exit → XQ
  | .normal => K
  | ex => Q ex
/-- As thenX, but Q stands there once alone. -/
@[reducible] def seqX (C : Ctx P) (ro : Option Nat) (N : Nat) (y : Code) (Q : Exit → XQ) : Exit → XQ
  | .normal => XWp C ro N y Q
  | ex => Q ex
theorem XWp.seq {x y : Code} (p : XWp C ro N x (seqX C ro N y Q) env h s) : XWp C ro N (.seq x y) Q env h s := by
  intro φ a w l d r
  refine wpIn_seq (wpIn_mono (p φ a w l d r) fun ex a' w' hp => ?_)
  cases ex with
  | normal =>
    obtain ⟨e, h2, s2, φ2, k, d2, r2, t, l2⟩ := hp
    exact wpIn_mono (k φ2 a' w' l2 d2 r2) fun _ _ _ hp2 => hp2.trans t
  | _ => exact hp
theorem XWp.cond {c : Operand} {x y : Code} {t : Bool} (hc : ev P env c = .bool t) (ht : t = true → XWp C ro N x Q env h s) (hf : t = false → XWp C ro N y Q env h s) : XWp C ro N (.cond c x y) Q env h s := by
  intro φ a w l d r
  have hv := r.ev c
  rw [hc] at hv
  exact wpIn_cond_split hv.bool_inv (fun e => ht e φ a w l d r) (fun e => hf e φ a w l d r)
theorem XWp.condP {c : Operand} {x y : Code} {p : Prop} {ip : Decidable p} (hc : ev P env c = .bool (@decide p ip)) (ht : p → XWp C ro N x Q env h s) (hf : ¬ p → XWp C ro N y Q env h s) : XWp C ro N (.cond c x y) Q env h s :=
  .cond hc (fun e => ht (of_decide_eq_true e)) (fun e => hf (of_decide_eq_false e))
theorem XWp.condT {c : Operand} {x y : Code} (hc : ev P env c = .bool true) (p : XWp C ro N x Q env h s) : XWp C ro N (.cond c x y) Q env h s := .cond hc (fun _ => p) (fun e => by cases e)
theorem XWp.condF {c : Operand} {x y : Code} (hc : ev P env c = .bool false) (p : XWp C ro N y Q env h s) : XWp C ro N (.cond c x y) Q env h s := .cond hc (fun e => by cases e) (fun _ => p)
@[reducible] def blockX (id : Nat) (Q : Exit → XQ) : Exit → XQ
  | .exit id', e, h, s => if id' = id then Q .normal e h s else Q (.exit id') e h s
  | ex, e, h, s => Q ex e h s
theorem XWp.block {id : Nat} {c : Code} (p : XWp C ro N c (blockX id Q) env h s) : XWp C ro N (.block id c) Q env h s := by
  intro φ a w l d r
  refine wpIn_block (wpIn_mono (p φ a w l d r) fun ex a' w' hp => ?_)
  cases ex with
  | exit id' =>
    simp only [Exit.inBlock]
    split
    · rename_i he
      exact hp.mono fun e h' s' k => by simpa [blockX, he] using k
    · rename_i he
      exact hp.mono fun e h' s' k => by simpa [blockX, he] using k
  | _ => exact hp
/-- A loop. -/
theorem XWp.loop {α : Type} {c : Code} (E : α → Env) (H : α → Heap) (V : α → Prop) (m : α → Nat) (y0 : α) (hx : V y0) (hw : Weak env h (E y0) (H y0))
    (round : ∀ y, V y → XWp C ro N c (thenX (fun e h' s' => s' = s ∧ ∃ z, V z ∧ m z < m y ∧ Weak e h' (E z) (H z)) Q) (E y) (H y) s) : XWp C ro N (.loop c) Q env h s := by
  intro φ a w l d r b k cs hro hb hr
  have key : ∀ n y φ' a' w', m y = n → V y → C.L s φ' (H y) w' → Marks C.B a'.defers w' → Rel P N φ' (E y) (H y) a'.tmps w' → StepX C.x φ h w φ' (H y) w' →
      ∃ e a2 w2, XPost C N φ h w (Q e) a2 w2 ∧ ArrivesIn (Machine.fenced P (Fc ro)) P (lone (b.atR a' (.code c :: .inLoop c :: k)) cs w') b k cs e a2 w2 := by
    intro n
    induction n using Nat.strongRecOn with
    | _ n ih =>
      intro y φ' a' w' hn hv hl' hd' r' st
      obtain ⟨e, a1, w1, hq, harr⟩ := round y hv φ' a' w' hl' hd' r' b (.inLoop c :: k) cs hro hb hr
      cases e with
      | normal =>
        obtain ⟨e1, h1, s1, φ1, ⟨rfl, z, hz, hlt, hwk⟩, d1, r1, t1, l1⟩ := hq
        have st1 : StepX C.x φ h w φ1 (H z) w1 := (st.trans t1).trans (Step.weak hwk.next hwk.ext).x
        obtain ⟨e2, a2, w2, hq2, harr2⟩ := ih (m z) (hn ▸ hlt) z φ1 a1 w1 rfl hz (C.st r1.sim l1 (Step.weak hwk.next hwk.ext)) d1 (r1.weak hwk) st1
        exact ⟨e2, a2, w2, hq2, .of_steps (StepsIn.trans harr (.one (fenced_calm hb hr rfl) stepR_inLoop)) harr2⟩
      | exit id => exact ⟨_, a1, w1, hq.trans st, .pass (x := .inLoop c) rfl (fun _ _ => .inl (by simp)) harr⟩
      | goto i => exact ⟨_, a1, w1, hq.trans st, .pass (x := .inLoop c) rfl (fun _ _ => .inl (by simp)) harr⟩
      | ret => exact ⟨_, a1, w1, hq.trans st, .pass (x := .inLoop c) rfl (fun _ _ => .inl (by simp)) harr⟩
      | panic ch => exact ⟨_, a1, w1, hq.trans st, .pass (x := .inLoop c) rfl (fun _ _ => .inl (by simp)) harr⟩
      | outgrown => exact ⟨_, a1, w1, hq.trans st, .pass (x := .inLoop c) rfl (fun _ _ => .inl (by simp)) harr⟩
  obtain ⟨e, a2, w2, hq, harr⟩ := key _ y0 φ a w rfl hx (C.st r.sim l (Step.weak hw.next hw.ext)) d (r.weak hw) (Step.weak hw.next hw.ext).x
  exact ⟨e, a2, w2, hq, .of_steps (.one (fenced_calm hb hr rfl) stepR_loop) harr⟩
end rules

/-! ### Operations -/
theorem wpIn_of_wp {P : Program} {ro : Option Nat} {o : Oper} {a : Act} {w : World} {next : Act → World → Prop} {Q : Exit → Act → World → Prop} (hnd : ∀ c, o.op ≠ .defer c) (p : o.wp P a w next Q) : o.wpIn (Fc ro) 0 P a w next Q := by
  refine ⟨fun _ _ => trivial, ?_⟩
  rw [show (Fc ro).round = ro from rfl, Oper.semAt_eq ro a.eval o hnd]
  unfold Oper.wp at p
  generalize (execOp a.eval o).run P w = r at p ⊢
  unfold Oper.upon at p
  split at p
  · exact p
  · exact p
  · exact p
  · refine ⟨(fun e => by cases e), ?_⟩
    have := (callsIn_wide (n := 0 - 1)).2 p
    exact this
  · rename_i row args w' 
    refine ⟨(fun e => by cases e), ?_⟩
    intro c cs _
    obtain ⟨v, w2, hr, hs⟩ := p c cs
    exact ⟨v, w2, hr, stepsIn_wide.2 hs⟩
  · exact p
  · exact p.elim
def deferB : Op → Bool
  | .defer _ => true
  | _ => false
theorem deferB_no {op : Op} (h : deferB op = false) : ∀ c, op ≠ .defer c := by
  rintro c rfl
  cases h

theorem uponIn_mono {P : Program} {F : Fence} {o : Oper} {a : Act} {next next' : Act → World → Prop} {Q Q' : Exit → Act → World → Prop} (hn : ∀ a w, next a w → next' a w) (hq : ∀ e a w, Q e a w → Q' e a w) :
    ∀ r, o.uponIn F 0 P a next Q r → o.uponIn F 0 P a next' Q' r := by
  intro r hr
  unfold Oper.uponIn at hr ⊢
  split at hr
  · exact hn _ _ hr
  · exact hn _ _ hr
  · exact hn _ _ hr
  · refine ⟨hr.1, CallsIn.mono hr.2 fun e w' k => ?_⟩
    cases e with
    | returned v => exact hn _ _ k
    | panicked c => exact hq _ _ _ k
    | outgrown => exact letsOut_mono hq k
  · exact ⟨hr.1, RowsIn.mono hr.2 fun _ _ k => hn _ _ k⟩
  · refine ⟨hr.1, RoundIn.mono hr.2 fun e w' k => ?_⟩
    cases e with
    | returned v => exact hn _ _ k
    | panicked c => exact hq _ _ _ k
    | outgrown => exact letsOut_mono hq k
  · exact hq _ _ _ hr
  · exact hr.elim
theorem wpListIn_mono {P : Program} {F : Fence} {ops : Array Oper} {Q Q' : Exit → Act → World → Prop} (hq : ∀ e a w, Q e a w → Q' e a w) : ∀ (l : List Oper) (a : Act) (w : World), wpListIn F 0 P ops Q l a w → wpListIn F 0 P ops Q' l a w
  | [], _, _, p => hq _ _ _ p
  | o :: rest, a, w, p => by
    simp only [wpListIn] at p ⊢
    split
    · rename_i hw
      rw [if_pos hw] at p
      exact ⟨p.1, uponIn_mono (wpListIn_mono hq rest) hq _ p.2⟩
    · rename_i hw
      rw [if_neg hw] at p
      exact ⟨p.1, wpListIn_mono hq rest _ _ p.2⟩

def XL {P : Program} (C : Ctx P) (ro : Option Nat) (N : Nat) (ops : Array Oper) (l : List Oper) (Q : Exit → XQ) (env : Env) (h : Heap) (s : Option Code) : Prop :=
  ∀ φ a w, C.L s φ h w → Marks C.B a.defers w → Rel P N φ env h a.tmps w → wpListIn (Fc ro) 0 P ops (fun ex a' w' => XPost C N φ h w (Q ex) a' w') l a w
section ops
variable {P : Program} {C : Ctx P} {ro : Option Nat} {N : Nat} {ops : Array Oper} {rest : List Oper} {Q : Exit → XQ} {env : Env} {h : Heap} {s : Option Code}
theorem XWp.region {id : Nat} (p : XL C ro N ops ops.toList Q env h s) : XWp C ro N (.region id ops false) Q env h s :=
  fun φ a w l d r => wpIn_region_list (p φ a w l d r)
theorem XL.nil (k : Q .normal env h s) : XL C ro N ops [] Q env h s := fun _ _ _ l d r => XPost.now k l d r
theorem XL.heap {l : List Oper} {h' : Heap} (e : h' = h) (p : XL C ro N ops l Q env h s) : XL C ro N ops l Q env h' s := e ▸ p
theorem XL.set {d : Tmp} {op : Op} {ty : TypeId} {pos : String} {aft : Array Edge} {g : Option (Nat × Bool)} (hd : Nat.blt d N = true) (hg : gv ops env ⟨some d, op, ty, pos, aft, g⟩ = some true) (hnd : deferB op = false)
    (p : AOp P ⟨some d, op, ty, pos, aft, g⟩ (ev P env) h fun v h' => XL C ro N ops rest Q ((d, v) :: env) h' s) : XL C ro N ops (⟨some d, op, ty, pos, aft, g⟩ :: rest) Q env h s := by
  intro φ a w l hdf r
  simp only [wpListIn, wanted_of r hg, if_true]
  refine wpIn_of_wp (deferB_no hnd) (p φ a w ⟨r.sim, fun x _ => r.ev x⟩ _ _ fun c w' φ' h' v k vr sm st => ?_)
  exact wpListIn_mono (fun _ _ _ hp => hp.trans st.x) _ _ _ (k φ' _ w' (C.st r.sim l st) (by rw [put_defers]; exact hdf.step r.sim st) ((r.step sm st).put (some d) (dstB_lt hd) vr))
theorem XL.eff {op : Op} {ty : TypeId} {pos : String} {aft : Array Edge} {g : Option (Nat × Bool)} (hg : gv ops env ⟨none, op, ty, pos, aft, g⟩ = some true) (hnd : deferB op = false) (p : AOp P ⟨none, op, ty, pos, aft, g⟩ (ev P env) h fun _ h' => XL C ro N ops rest Q env h' s) :
    XL C ro N ops (⟨none, op, ty, pos, aft, g⟩ :: rest) Q env h s := by
  intro φ a w l hdf r
  simp only [wpListIn, wanted_of r hg, if_true]
  refine wpIn_of_wp (deferB_no hnd) (p φ a w ⟨r.sim, fun x _ => r.ev x⟩ _ _ fun c w' φ' h' v k vr sm st => ?_)
  exact wpListIn_mono (fun _ _ _ hp => hp.trans st.x) _ _ _ (k φ' _ w' (C.st r.sim l st) (by rw [put_defers]; exact hdf.step r.sim st) (r.step sm st))
theorem XL.skip {d : Option Tmp} {op : Op} {ty : TypeId} {pos : String} {aft : Array Edge} {g : Option (Nat × Bool)} (hd : dstB N d = true) (hg : gv ops env ⟨d, op, ty, pos, aft, g⟩ = some false)
    (p : XL C ro N ops rest Q (env.put d skipV) h s) : XL C ro N ops (⟨d, op, ty, pos, aft, g⟩ :: rest) Q env h s := by
  intro φ a w l hdf r
  simp only [wpListIn, wanted_of r hg, Bool.false_eq_true, if_false]
  exact ⟨fun _ _ => trivial, p φ _ w l (by rw [put_defers]; exact hdf) (r.put d (dstB_lt hd) .skip)⟩
end ops
end Go.Eng

/-
  The engine, part T: ranges over functions, yields, and the contracts of both.
-/
namespace Go.Eng
open Go

abbrev yieldV (l : Nat) : Value := .func (.yield l) #[] #[]
/-- What a yield comes to, said of the abstract heap. -/
def YRes {P : Program} (C : Ctx P) (φ : Ren) (h : Heap) (w : World) (K : Value → Heap → Option Code → Prop) : Ending → World → Prop
  | .returned c, w' => ∃ v h' s' φ', K v h' s' ∧ VRel φ' h'.next v c ∧ Sim P φ' h' w' ∧ StepX C.x φ h w φ' h' w' ∧ C.L s' φ' h' w' ∧
      ∀ D : Nat, w.heap[D]? = some (Obj.deferred (some [])) → w'.heap[D]? = some (Obj.deferred (some []))
  | _, _ => False
def YSpec {P : Program} (C : Ctx P) (ro : Option Nat) (l : Nat) (args : List Value) (h : Heap) (s : Option Code) (K : Value → Heap → Option Code → Prop) : Prop :=
  ∀ φ w cargs, C.L s φ h w → Sim P φ h w → VRels φ h.next args cargs → YieldAt (Fc ro) (0 - 1) P l cargs.toArray w (YRes C φ h w K)
/-- A call of a function in such a place. -/
def XCalls {P : Program} (C : Ctx P) (f : FuncId) (args : List Value) (h : Heap) (s : Option Code) (K : Value → Heap → Option Code → Prop) : Prop :=
  ∀ φ w cargs, C.L s φ h w → Sim P φ h w → VRels φ h.next args cargs → CallsIn (Fc none) 0 P f cargs.toArray w (YRes C φ h w K)

section
variable {P : Program} {C : Ctx P} {ro : Option Nat} {N : Nat} {ops : Array Oper} {rest : List Oper} {Q : Exit → XQ} {env : Env} {h : Heap} {s : Option Code}

/-- A yield. -/
theorem XL.yield {d : Tmp} {x : Operand} {args : Array Operand} {aT : Array TypeId} {l : Nat} {ty : TypeId} {pos : String} {aft : Array Edge} {g : Option (Nat × Bool)} (hd : Nat.blt d N = true)
    (hg : gv ops env ⟨some d, .call ⟨.value x, args, aT⟩, ty, pos, aft, g⟩ = some true) (hx : ev P env x = yieldV l)
    (hy : YSpec C ro l (args.toList.map (ev P env)) h s fun v h' s' => XL C ro N ops rest Q ((d, v) :: env) h' s') : XL C ro N ops (⟨some d, .call ⟨.value x, args, aT⟩, ty, pos, aft, g⟩ :: rest) Q env h s := by
  intro φ a w hl hdf r
  simp only [wpListIn, wanted_of r hg, if_true]
  have hv := hx ▸ r.ev x
  obtain ⟨f', d', e1, s1, s2, _, _⟩ := hv.func_inv
  have hf0 : f' = #[] := Array.eq_empty_of_size_eq_zero s1.symm
  subst hf0
  have hargs : VRels φ h.next (args.toList.map (ev P env)) (args.toList.map a.eval) := VRels.map fun y _ => r.ev y
  obtain ⟨fn, tmps, assign, body, hrun, hround⟩ := hy φ w _ hl r.sim hargs
  have harr : (args.toList.map a.eval).toArray = args.map a.eval := by apply Array.ext'; simp
  rw [harr] at hrun
  refine ⟨fun _ _ => trivial, ?_⟩
  rw [show (Fc ro).round = ro from rfl, Oper.semAt_eq ro a.eval _ (by intro c e; cases e)]
  have hex : (execOp a.eval ⟨some d, .call ⟨.value x, args, aT⟩, ty, pos, aft, g⟩).run P w = .ok (.round l fn tmps assign body) w := by
    simp only [execOp, resolve, e1, Deferred.ofValue, Sem.run_bind, Sem.run_pure, Result.andThen_ok, invoke]
    simpa using hrun
  rw [hex]
  refine ⟨(fun e => by cases e), RoundIn.mono hround fun e w' hr => ?_⟩
  cases e with
  | returned c =>
    obtain ⟨v, h', s', φ', k, v1, v2, v3, v4, v5⟩ := hr
    have r' : Rel P N φ' env h' a.tmps w' := ⟨v2, r.size, fun t => v3.mono (r.env t)⟩
    exact wpListIn_mono (fun _ _ _ hp => hp.trans v3) _ _ _ (k φ' _ w' v4 (by rw [put_defers]; exact hdf.keep v5) (r'.put (some d) (dstB_lt hd) v1))
  | _ => exact hr.elim

/-- The parameters of a round, set. -/
def setPs : List Tmp → List Value → Env → Env
  | t :: ts, v :: vs, e => setPs ts vs ((t, v) :: e)
  | _, _, e => e
theorem setPs_rel {φ : Ren} {w : World} : ∀ {ts : List Tmp} {vs cs : List Value} {env : Env} {tmps : Array Value}, ts.all (fun t => Nat.blt t N) = true → VRels φ h.next vs cs → Rel P N φ env h tmps w →
    Rel P N φ (setPs ts vs env) h ((ts.zip cs).foldl (fun (t : Array Value) (p : Tmp × Value) => t.setIfInBounds p.1 p.2) tmps) w
  | [], _, _, _, _, _, _, r => by simpa [setPs] using r
  | t :: ts, [], _, _, _, _, va, r => by cases va; simpa [setPs] using r
  | t :: ts, v :: vs, _, env, tmps, hb, va, r => by
    cases va with
    | cons hv hvs =>
      simp only [List.all_cons, Bool.and_eq_true] at hb
      simp only [setPs, List.zip_cons_cons, List.foldl_cons]
      refine setPs_rel hb.2 hvs ?_
      have := r.put (a := ⟨tmps, []⟩) (some t) (by rintro x hx; cases hx; simpa [Nat.blt_eq] using hb.1) hv
      exact this

/-- The ends of a round. -/
@[reducible] def roundX (T : Heap → Prop) (F : Heap → Code → Prop) : Exit → XQ
  | .normal, _, h, _ => T h
  | .ret, _, h, _ => F h .ret
  | .exit id, _, h, _ => F h (.exit id)
  | _, _, _, _ => False
/-- Yields, told by an index. -/
def YS {P : Program} (C : Ctx P) (l : Nat) {ι : Type} (Pre : ι → Heap → List Value → Prop) (T : ι → Heap → Prop) (F : ι → Heap → Code → Prop) : Prop :=
  ∀ i H args, Pre i H args → YSpec C none l args H none fun v h' s' => (v = .bool true ∧ s' = none ∧ T i h') ∨ (v = .bool false ∧ ∃ j, s' = some j ∧ F i h' j)

/-- The place of a range's rounds: the record avs it is; what has happened since the loop was entered. -/
def roundCtx (P : Program) (l : Nat) (rec : Loop) (φ0 : Ren) (h0 : Heap) (w0 : World) : Ctx P where
  x := fun k => k = l
  L := fun _ φ h w => StepX (fun k => k = l) φ0 h0 w0 φ h w ∧ w.heap[l]? = some (.loop rec)
  B := fun _ => False
  st := fun s l t => ⟨l.1.trans t.x, t.other s l.2 rfl⟩
/-- The record behind a pending jump. -/
def recOf (rec : Loop) : Option Code → Loop
  | none => rec
  | some j => { rec with state := .done, pending := some j }
/-- The place of the function that is ranged over. -/
def seqCtx (P : Program) (l : Nat) (rec : Loop) (φ0 : Ren) (h0 : Heap) (w0 : World) : Ctx P where
  x := fun k => k = l
  L := fun s φ h w => StepX (fun k => k = l) φ0 h0 w0 φ h w ∧ w.heap[l]? = some (.loop (recOf rec s))
  B := fun _ => False
  st := fun s l t => ⟨l.1.trans t.x, t.other s l.2 rfl⟩

theorem marks_false {ds : List Deferred} {w : World} (m : Marks (fun _ => False) ds w) : ds = [] := by
  obtain ⟨Ds, h1, _, h3⟩ := m
  cases Ds with
  | nil => exact h1
  | cons D Ds => exact ((h3 D (by simp)).1).elim

/-- Marks stay. -/
def Ctx.Quiet {P : Program} (C : Ctx P) : Prop := ∀ (s s' : Option Code) (φ φ' : Ren) (h h' : Heap) (w w' : World), Sim P φ h w → StepX C.x φ h w φ' h' w' → C.L s φ h w → C.L s' φ' h' w' →
  ∀ D : Nat, w.heap[D]? = some (Obj.deferred (some [])) → w'.heap[D]? = some (Obj.deferred (some []))
theorem seqCtx_quiet {P : Program} (l : Nat) (rec : Loop) (φ0 : Ren) (h0 : Heap) (w0 : World) : (seqCtx P l rec φ0 h0 w0).Quiet := by
  intro s s' φ φ' h h' w w' sm st l1 _ D hD
  have hne : ¬ D = l := by rintro rfl; have h2 := l1.2; rw [hD] at h2; cases h2
  rw [st.frame D (lt_of_get hD) (sm.not_owned hD rfl) hne]
  exact hD
theorem YSpec.mono {P : Program} {C : Ctx P} {ro : Option Nat} {l : Nat} {args : List Value} {h : Heap} {s : Option Code} {K K' : Value → Heap → Option Code → Prop} (p : YSpec C ro l args h s K) (hk : ∀ v h' s', WF h' → h.next ≤ h'.next → K v h' s' → K' v h' s') : YSpec C ro l args h s K' := by
  intro φ w cargs hl sm va
  obtain ⟨fn, tmps, assign, body, hrun, hround⟩ := p φ w cargs hl sm va
  refine ⟨fn, tmps, assign, body, hrun, RoundIn.mono hround fun e w' hr => ?_⟩
  cases e with
  | returned c =>
    obtain ⟨v, h', s', φ', k, v1, v2, v3, v4, v5⟩ := hr
    exact ⟨v, h', s', φ', hk v h' s' v2.next v3.next k, v1, v2, v3, v4, v5⟩
  | _ => exact hr

/-- A range over a function. -/
theorem XWp.rangeFunc {gop : Operand} {ps : Array Tmp} {assign body : Code} {gf : FuncId} {fi ca : List Value} [fc : FnC P gf] {ι : Type} (Pre : ι → Heap → List Value → Prop) (T : ι → Heap → Prop) (F : ι → Heap → Code → Prop) (E : Heap → Prop) (J : Heap → Code → Prop)
    (hx : ev P env gop = .func (.func gf) fi.toArray ca.toArray) (_hxC : ∀ k, ¬ C.x k) (hB : ∀ φ w, C.L s φ h w → C.B w.heap.size) (hps : ps.toList.all (fun t => Nat.blt t N) = true)
    (hlen : ∀ i H args, Pre i H args → args.length = ps.size)
    (seq : ∀ (C1 : Ctx P) l, C1.Quiet → YS C1 l Pre T F → XCalls C1 gf (fi ++ (yieldV l :: ca)) h none fun _ h' s' => (s' = none ∧ E h') ∨ ∃ j, s' = some j ∧ J h' j)
    (bod : ∀ (Ca Cb : Ctx P) l i H args, Pre i H args → XWp Ca (some l) N assign (thenX (fun e h' _ => XWp Cb (some l) N body (roundX (T i) (F i)) e h' none) (fun _ _ _ _ => False)) (setPs ps.toList args env) H none)
    (fin : ∀ h', h.next ≤ h'.next → E h' → Q .normal env h' s) (jmp : ∀ h' j, h.next ≤ h'.next → J h' j → XWp C none N j Q env h' s) : XWp C none N (.rangeFunc gop ps assign body) Q env h s := by
  intro φ a w hl hm r
  refine wpIn_rangeFunc fun fnid _ => ?_
  have hv := hx ▸ r.ev gop
  obtain ⟨f', d', e1, s1, s2, q1, q2⟩ := hv.func_inv
  obtain ⟨fn, hf, hb, hn⟩ := fc.ex
  have hbn : fn.body.isNone = false := by
    cases hbb : fn.body with
    | none => rw [hbb] at hb; cases hb
    | some _ => rfl
  obtain ⟨D, hD⟩ : ∃ D, D = w.heap.size := ⟨_, rfl⟩
  obtain ⟨rec, hrec⟩ : ∃ rec : Loop, rec = { state := .ready, pending := none, fn := fnid, tmps := a.tmps, params := ps, assign := assign, body := body, defers := w.heap.size } := ⟨_, rfl⟩
  have henter := run_enterLoop_outer (P := P) (w := w) fnid a.tmps ps assign body
  rw [← hrec] at henter
  obtain ⟨w1, hw1⟩ : ∃ w1, w1 = (w.alloc (.deferred (some []))).alloc (.loop rec) := ⟨_, rfl⟩
  rw [← hw1] at henter
  have hDw : w1.heap[D]? = some (Obj.deferred (some [])) := by
    rw [hw1, hD]
    exact alloc_get_old (World.alloc_heap_new _ _)
  have hlw : w1.heap[D + 1]? = some (Obj.loop rec) := by
    have := World.alloc_heap_new (w.alloc (.deferred (some []))) (.loop rec)
    rw [World.size_alloc] at this
    rw [hw1, hD]
    exact this
  have sim1 : Sim P φ h w1 := by rw [hw1]; exact (r.sim.aside (.alloc _ _)).aside (.alloc _ _)
  have st1 : StepX (fun _ => False) φ h w φ h w1 := by rw [hw1]; exact ((StepX.refl _ _ _ _).alloc _).alloc _
  have hst0 : rec.state = .ready := by rw [hrec]
  have hpd0 : rec.pending = none := by rw [hrec]
  have hps0 : rec.params = ps := by rw [hrec]
  have htm0 : rec.tmps = a.tmps := by rw [hrec]
  have has0 : rec.assign = assign := by rw [hrec]
  have hbo0 : rec.body = body := by rw [hrec]
  clear hrec
  obtain ⟨l, hl1⟩ : ∃ l, l = D + 1 := ⟨_, rfl⟩
  rw [← hl1] at hlw
  have hlsz : w.heap.size ≤ l := by omega
  have hev : (resolve a.eval (rangeCall gop l) 0).run P w1 = .ok { target := .fn (.func gf) d', args := f' ++ #[yieldV l] } w1 := by
    have hmap : (#[Operand.const (yieldV l)] : Array Operand).map a.eval = #[yieldV l] := by simp [Act.eval]
    simp only [resolve, hmap, e1, Deferred.ofValue, Sem.run_pure]
  have hinv : (invoke (.fn (.func gf) d') (f' ++ #[yieldV l])).run P w1 = .ok (.enter gf (f'.toList ++ (yieldV l :: d'.toList)).toArray) w1 := by
    have harr : (f' ++ #[yieldV l] ++ d') = (f'.toList ++ (yieldV l :: d'.toList)).toArray := by apply Array.ext'; simp
    simp only [invoke, callFunc, Sem.run_bind, run_program, Result.andThen_ok, hf, hn, hbn, Bool.false_eq_true, if_false, Sem.run_pure]
    rw [harr]
  refine ⟨l, _, w1, _, w1, gf, _, w1, by rw [hl1, hD]; exact henter, hev, fun _ _ => trivial, hinv, (fun e => by cases e), ?_⟩
  have hargs : VRels φ h.next (fi ++ (yieldV l :: ca)) (f'.toList ++ (yieldV l :: d'.toList)) := by
    refine VRels.append (by simpa using VRels.ofArr s1 q1) (.cons (.func _ _ _ _ _ rfl rfl (by simp) (by simp)) (by simpa using VRels.ofArr s2 q2))
  have ys : YS (seqCtx P l rec φ h w1) l Pre T F := by
    intro i H args hpre φ' w' cargs hL sm va
    obtain ⟨hstp, hrecl⟩ := hL
    replace hrecl : w'.heap[l]? = some (.loop rec) := hrecl
    have hcl : cargs.toArray.size = rec.params.size := by
      have := va.length
      rw [hlen i H args hpre] at this
      simp [hps0, this]
    refine ⟨_, _, _, _, run_yield hrecl hcl, ?_⟩
    rw [has0, hbo0, hps0, htm0]
    have hrel : Rel P N φ' env H a.tmps w' := ⟨sm, r.size, fun t => hstp.mono (r.env t)⟩
    have hrel2 := setPs_rel hps va hrel
    have hfold : (ps.zip cargs.toArray).foldl (fun tmps (p : Tmp × Value) => tmps.setIfInBounds p.1 p.2) a.tmps = (ps.toList.zip cargs).foldl (fun (t : Array Value) (p : Tmp × Value) => t.setIfInBounds p.1 p.2) a.tmps := by
      rw [← Array.foldl_toList]
      simp
    refine roundIn_of_wpIn trivial ?_
    rw [hfold]
    have hb1 := bod (roundCtx P l rec φ' H w') (roundCtx P l { rec with state := .busy } φ' H w') l i H args hpre φ' ⟨_, []⟩ w' ⟨StepX.refl _ _ _ _, hrecl⟩ (Marks.nil _ _) hrel2
    refine wpIn_mono hb1 fun ex a1 w2 hp => ?_
    cases ex with
    | normal =>
      obtain ⟨e2, h2, s3, φ2, k2, m2, r2, t2, L2⟩ := hp
      refine ⟨_, run_beginRound L2.2 hst0, ?_⟩
      have sm2 : Sim P φ2 h2 (w2.putObj l (.loop { rec with state := .busy })) := r2.sim.aside (.put L2.2 rfl)
      have hbusy : (w2.putObj l (.loop { rec with state := .busy })).heap[l]? = some (.loop { rec with state := .busy }) := World.putObj_heap_same (lt_of_get L2.2)
      have t2' : StepX (fun k => k = l) φ' H w' φ2 h2 (w2.putObj l (.loop { rec with state := .busy })) := t2.put _ (.inr rfl)
      have hb2 := k2 φ2 a1 _ ⟨t2', hbusy⟩ (by rw [marks_false m2]; exact Marks.nil _ _) ⟨sm2, r2.size, r2.env⟩
      refine wpIn_mono hb2 fun ex3 a3 w3 hp3 => ?_
      have hrest : ∀ (jump : Option Code) (K : Heap → Prop), (∃ env' h' s' φ3, K h' ∧ Marks (fun _ => False) a3.defers w3 ∧ Rel P N φ3 env' h' a3.tmps w3 ∧ StepX (fun k => k = l) φ2 h2 (w2.putObj l (.loop { rec with state := .busy })) φ3 h' w3 ∧ (roundCtx P l { rec with state := .busy } φ' H w').L s' φ3 h' w3) →
          (∀ h', K h' → (jump = none ∧ T i h') ∨ ∃ j, jump = some j ∧ F i h' j) →
          ∃ v w4, (Instr.endRound l jump).run P w3 = .ok v w4 ∧ YRes (seqCtx P l rec φ h w1) φ' H w' (fun v h' s' => (v = .bool true ∧ s' = none ∧ T i h') ∨ (v = .bool false ∧ ∃ j, s' = some j ∧ F i h' j)) (.returned v) w4 := by
        rintro jump K ⟨e4, h4, s4, φ4, k4, m4, r4, t4, L4⟩ hK
        refine ⟨_, _, run_endRound jump L4.2, ?_⟩
        have hmk : ∀ D' : Nat, w'.heap[D']? = some (Obj.deferred (some [])) → (w3.putObj l (.loop { rec with state := if jump.isNone then .ready else .done, pending := jump })).heap[D']? = some (Obj.deferred (some [])) := by
          intro D' hD'
          have hne : D' ≠ l := by rintro rfl; rw [hrecl] at hD'; cases hD'
          rw [World.putObj_heap_other hne, L4.1.frame D' (lt_of_get hD') (sm.not_owned hD' rfl) hne]
          exact hD'
        have sm4 : Sim P φ4 h4 (w3.putObj l (.loop { rec with state := if jump.isNone then .ready else .done, pending := jump })) := r4.sim.aside (.put L4.2 rfl)
        have st4 : StepX (fun k => k = l) φ' H w' φ4 h4 (w3.putObj l (.loop { rec with state := if jump.isNone then .ready else .done, pending := jump })) := L4.1.put _ (.inr rfl)
        have hat : (w3.putObj l (.loop { rec with state := if jump.isNone then .ready else .done, pending := jump })).heap[l]? = some (.loop { rec with state := if jump.isNone then .ready else .done, pending := jump }) := World.putObj_heap_same (lt_of_get L4.2)
        refine ⟨.bool jump.isNone, h4, jump, φ4, ?_, .bool _, sm4, st4, ⟨hstp.trans st4, ?_⟩, hmk⟩
        · rcases hK h4 k4 with ⟨rfl, ht⟩ | ⟨j, rfl, hF⟩
          · exact .inl ⟨rfl, rfl, ht⟩
          · exact .inr ⟨rfl, j, rfl, hF⟩
        · rw [hat]
          congr 2
          cases jump with
          | none =>
            show ({ rec with state := .ready, pending := none } : Loop) = rec
            cases rec
            simp only at hst0 hpd0
            subst hst0 hpd0
            rfl
          | some j => rfl
      cases ex3 with
      | normal =>
        obtain ⟨v, w4, h1, h2⟩ := hrest none (T i) hp3 (fun h' hk => .inl ⟨rfl, hk⟩)
        exact ⟨v, w4, h1, h2⟩
      | ret =>
        obtain ⟨v, w4, h1, h2⟩ := hrest (some .ret) (fun h' => F i h' .ret) hp3 (fun h' hk => .inr ⟨_, rfl, hk⟩)
        exact ⟨v, w4, h1, h2⟩
      | exit id =>
        obtain ⟨v, w4, h1, h2⟩ := hrest (some (.exit id)) (fun h' => F i h' (.exit id)) hp3 (fun h' hk => .inr ⟨_, rfl, hk⟩)
        exact ⟨v, w4, h1, h2⟩
      | goto g => obtain ⟨_, _, _, _, k, _⟩ := hp3; exact k.elim
      | panic c => obtain ⟨_, _, _, _, k, _⟩ := hp3; exact k.elim
      | outgrown => obtain ⟨_, _, _, _, k, _⟩ := hp3; exact k.elim
    | exit id => obtain ⟨_, _, _, _, k, _⟩ := hp; exact k.elim
    | goto g => obtain ⟨_, _, _, _, k, _⟩ := hp; exact k.elim
    | ret => obtain ⟨_, _, _, _, k, _⟩ := hp; exact k.elim
    | panic c => obtain ⟨_, _, _, _, k, _⟩ := hp; exact k.elim
    | outgrown => obtain ⟨_, _, _, _, k, _⟩ := hp; exact k.elim
  have hcall := seq (seqCtx P l rec φ h w1) l (seqCtx_quiet _ _ _ _ _) ys φ w1 _ ⟨StepX.refl _ _ _ _, hlw⟩ sim1 hargs
  refine CallsIn.mono hcall fun e w3 hr => ?_
  cases e with
  | returned c =>
    obtain ⟨v, h', s', φ', k, v1, v2, v3, v4, v5⟩ := hr
    have hbusy : (recOf rec s').state ≠ .busy := by
      cases s' with
      | none => show rec.state ≠ .busy; rw [hst0]; intro e; cases e
      | some j => intro e; cases e
    have hpend : (recOf rec s').pending = s' := by
      cases s' with
      | none => exact hpd0
      | some j => rfl
    refine ⟨_, _, run_endLoop v4.2 hbusy, ?_⟩
    generalize hw4 : w3.putObj l (.loop { recOf rec s' with state := .exhausted }) = w4
    rw [hpend]
    have sm4 : Sim P φ' h' w4 := by rw [← hw4]; exact v2.aside (.put v4.2 rfl)
    have st4 : Step φ h w φ' h' w4 := by
      have h1 : StepX (fun k => k = l) φ h w φ' h' w3 := (st1.wider (y := fun k => k = l) (fun k _ e => e.elim)).trans v3
      rw [← hw4]
      refine (h1.put (.loop { recOf rec s' with state := .exhausted }) (.inl hlsz)).full fun k hk e => ?_
      omega
    have hDl : D ≠ l := by omega
    have hD4 : w4.heap[D]? = some (Obj.deferred (some [])) := by
      rw [← hw4, World.putObj_heap_other hDl]
      exact v5 D hDw
    have hm4 : Marks C.B ([{ target := .collected w.heap.size, args := #[] }] ++ a.defers) w4 := by
      obtain ⟨Ds, m1, m2, m3⟩ := hm.step r.sim st4
      refine ⟨D :: Ds, by rw [m1, hD]; rfl, List.nodup_cons.2 ⟨fun hin => ?_, m2⟩, fun D' hD' => ?_⟩
      · obtain ⟨Ds', n1, n2, n3⟩ := hm
        have hmap : Ds = Ds' := by
          have := m1.symm.trans n1
          have hinj : ∀ (x y : List Nat), x.map (fun D => ({ target := .collected D, args := #[] } : Deferred)) = y.map (fun D => ({ target := .collected D, args := #[] } : Deferred)) → x = y := by
            intro x
            induction x with
            | nil => intro y e; cases y with | nil => rfl | cons _ _ => simp at e
            | cons a x ih =>
              intro y e
              cases y with
              | nil => simp at e
              | cons b y =>
                simp at e
                rw [e.1, ih y (by simpa using e.2)]
          exact hinj _ _ this
        subst hmap
        have := lt_of_get (n3 D hin).2
        omega
      · rcases List.mem_cons.1 hD' with rfl | hD'
        · exact ⟨by rw [hD]; exact hB φ w hl, hD4⟩
        · exact m3 D' hD'
    have r4 : Rel P N φ' env h' a.tmps w4 := ⟨sm4, r.size, fun t => st4.mono (r.env t)⟩
    have L4 := C.st r.sim hl st4
    rcases k with ⟨rfl, hE⟩ | ⟨j, rfl, hJ⟩
    · exact ⟨env, h', s, φ', fin h' st4.next hE, hm4, r4, st4.x, L4⟩
    · have := jmp h' j st4.next hJ φ' ⟨a.tmps, [{ target := .collected w.heap.size, args := #[] }] ++ a.defers⟩ _ L4 hm4 r4
      exact wpIn_mono this fun _ _ _ hp => hp.trans st4.x
  | _ => exact hr.elim

@[reducible] def endX (K : XQ) : Exit → XQ
  | .normal, e, h, s => K e h s
  | .ret, e, h, s => K e h s
  | _, _, _, _ => False
/-- The place of a function that ranges over functions. -/
def freeCtx (P : Program) (b : Nat) : Ctx P where
  x := fun _ => False
  L := fun _ _ _ w => b ≤ w.heap.size
  B := fun D => b ≤ D
  st := fun _ l t => Nat.le_trans l t.size

theorem entry_rel {φ : Ren} {w : World} {args cargs : List Value} {n : Nat} (sm : Sim P φ h w) (va : VRels φ h.next args cargs) (hn : cargs.length ≤ n) : Rel P n φ (entry args) h (cargs.toArray ++ Array.replicate (n - cargs.toArray.size) undef) w := by
  refine ⟨sm, by simp; omega, fun t => ?_⟩
  have h1 := va.at t
  rw [show (entry args).get t = args.getD t undef from by unfold entry; rw [entryFrom_get]; simp]
  by_cases ht : t < cargs.length
  · have e : (cargs.toArray ++ Array.replicate (n - cargs.toArray.size) undef).getD t undef = cargs.getD t undef := by
      simp [Array.getD_eq_getD_getElem?, Array.getElem?_append, ht]
    rw [e]; exact h1
  · have e : args.getD t undef = undef := by have := va.length; simp [List.getD_eq_getElem?_getD, List.getElem?_eq_none (show args.length ≤ t by omega)]
    rw [e]; exact .und _

theorem leaves {fn : Func} {φ0 : Ren} {h0 : Heap} {w0 : World} {K : Value → Heap → Prop} {env' : Env} {h' : Heap} {φ' : Ren} {v : Value} {tmps : Array Value} (hv : ResV P fn env' h' v) (hK : K v h') : ∀ (Ds : List Nat) (w' : World), Ds.Nodup → (∀ D ∈ Ds, w0.heap.size ≤ D ∧ w'.heap[D]? = some (Obj.deferred (some []))) →
    Rel P fn.ntmps φ' env' h' tmps w' → StepX (fun _ => False) φ0 h0 w0 φ' h' w' →
    LeavesInM (Fc none) 0 P fn tmps (ARes P φ0 h0 w0 K) (Ds.map fun D => { target := .collected D, args := #[] }) .returning w'
  | [], w', _, _, r, t => by
    obtain ⟨c, hc, hr⟩ := hv _ _ _ _ r
    exact ⟨c, hc, v, h', φ', hK, hr, r.sim, t.full (fun _ _ e => e)⟩
  | D :: Ds, w', hnd, hd, r, t => by
    obtain ⟨n1, n2⟩ := List.nodup_cons.1 hnd
    have hD := hd D (by simp)
    refine ⟨(by intro e; cases e), .inl ⟨D, _, rfl, run_takeDeferred hD.2, ?_⟩⟩
    refine leaves hv hK Ds _ n2 (fun D' hD' => ?_) ⟨r.sim.aside (.put hD.2 rfl), r.size, r.env⟩ (t.put _ (.inl hD.1))
    have hne : D' ≠ D := by rintro rfl; exact n1 hD'
    rw [World.putObj_heap_other hne]
    exact hd D' (by simp [hD'])

/-- A function's contract, where it ranges over functions. -/
theorem ACalls.bodyX {f : FuncId} {fn : Func} {c : Code} {args : List Value} {K : Value → Heap → Prop} (hf : P.funcs[f]? = some fn) (hb : fn.body = some c) (hn : args.length ≤ fn.ntmps)
    (p : ∀ b, XWp (freeCtx P b) none fn.ntmps c (endX fun env h' _ => ∃ v, ResV P fn env h' v ∧ K v h') (entry args) h none) : ACalls P f args h K := by
  intro φ w cargs sm va
  refine (callsIn_wide (n := 0)).1 ?_
  have hlen := va.length
  have hw := p w.heap.size φ ⟨cargs.toArray ++ Array.replicate (fn.ntmps - cargs.toArray.size) undef, []⟩ w (Nat.le_refl _) (Marks.nil _ _) (entry_rel sm va (by omega))
  refine callsIn_of_wp_marks hf hb trivial (wpIn_mono hw fun ex a' w' hp => ?_)
  have key : (∃ env' h' s' φ', (∃ v, ResV P fn env' h' v ∧ K v h') ∧ Marks (freeCtx P w.heap.size).B a'.defers w' ∧ Rel P fn.ntmps φ' env' h' a'.tmps w' ∧ StepX (fun _ => False) φ h w φ' h' w' ∧ (freeCtx P w.heap.size).L s' φ' h' w') → LeavesInM (Fc none) 0 P fn a'.tmps (ARes P φ h w K) a'.defers .returning w' := by
    rintro ⟨env', h', s', φ', ⟨v, hv, hK⟩, ⟨Ds, m1, m2, m3⟩, r, t, _⟩
    rw [m1]
    exact leaves hv hK Ds w' m2 m3 r t
  cases ex with
  | normal => exact key hp
  | ret => exact key hp
  | exit id => obtain ⟨_, _, _, _, k, _⟩ := hp; exact k.elim
  | goto g => obtain ⟨_, _, _, _, k, _⟩ := hp; exact k.elim
  | panic c => obtain ⟨_, _, _, _, k, _⟩ := hp; exact k.elim
  | outgrown => obtain ⟨_, _, _, _, k, _⟩ := hp; exact k.elim

/-- The same place, without marks. -/
def Ctx.bare (C : Ctx P) : Ctx P := { C with B := fun _ => False }
/-- The contract of a function that yields, and ranges over none. -/
theorem XCalls.body {f : FuncId} {fn : Func} {c : Code} {args : List Value} {K : Value → Heap → Option Code → Prop} (hf : P.funcs[f]? = some fn) (hb : fn.body = some c) (hn : args.length ≤ fn.ntmps)
    (p : XWp C.bare none fn.ntmps c (endX fun env h' s' => ∃ v, ResV P fn env h' v ∧ K v h' s') (entry args) h s) (hD : C.Quiet) : XCalls C f args h s K := by
  intro φ w cargs hl sm va
  have hlen := va.length
  have hw := p φ ⟨cargs.toArray ++ Array.replicate (fn.ntmps - cargs.toArray.size) undef, []⟩ w hl (Marks.nil _ _) (entry_rel sm va (by omega))
  refine callsIn_of_wp_marks hf hb trivial (wpIn_mono hw fun ex a' w' hp => ?_)
  have key : (∃ env' h' s' φ', (∃ v, ResV P fn env' h' v ∧ K v h' s') ∧ Marks (fun _ => False) a'.defers w' ∧ Rel P fn.ntmps φ' env' h' a'.tmps w' ∧ StepX C.x φ h w φ' h' w' ∧ C.L s' φ' h' w') → LeavesInM (Fc none) 0 P fn a'.tmps (YRes C φ h w K) a'.defers .returning w' := by
    rintro ⟨env', h', s', φ', ⟨v, hv, hK⟩, m, r, t, L⟩
    rw [marks_false m]
    obtain ⟨c, hc, hr⟩ := hv _ _ _ _ r
    exact ⟨c, hc, v, h', s', φ', hK, hr, r.sim, t, L, hD _ _ _ _ _ _ _ _ sm t hl L⟩
  cases ex with
  | normal => exact key hp
  | ret => exact key hp
  | exit id => obtain ⟨_, _, _, _, k, _⟩ := hp; exact k.elim
  | goto g => obtain ⟨_, _, _, _, k, _⟩ := hp; exact k.elim
  | panic c => obtain ⟨_, _, _, _, k, _⟩ := hp; exact k.elim
  | outgrown => obtain ⟨_, _, _, _, k, _⟩ := hp; exact k.elim
end
end Go.Eng

/-
  The engine, part U: regions whose order is drawn, where code ranges over functions.
-/
namespace Go.Eng
open Go

/-- What an operation does to the heap: nothing, and it reads none · nothing · it lets be what was there · anything. -/
inductive KdX where
  | P | R | X | W
def kdWX : KdX → Bool
  | .W => true
  | _ => false
def kdRX : KdX → Bool
  | .R => true
  | _ => false
def kdPX : KdX → Bool
  | .P => true
  | _ => false
def pairX (ops : Array Oper) (A : Array Nat) (p q : Nat × KdX) : Bool :=
  !edgeB ops p.1 q.1 && (ancB A q.1 p.1 || (kdRX p.2 && !kdWX q.2 && apartB ops p.1 q.1) || (kdPX p.2 && apartB ops p.1 q.1))
def pairsX (ops : Array Oper) (A : Array Nat) : List (Nat × KdX) → Bool
  | [] => true
  | p :: σ => !edgeB ops p.1 p.1 && σ.all (fun q => !Nat.beq p.1 q.1 && pairX ops A p q) && pairsX ops A σ
def drawX (ops : Array Oper) (σ : List (Nat × KdX)) : Bool :=
  let A := Region.before ops
  Nat.beq σ.length ops.size && (List.range ops.size).all (fun i => σ.any fun p => Nat.beq p.1 i) && σ.all (fun p => Nat.blt p.1 ops.size) && A.all (fun x => Nat.blt x (2 ^ ops.size)) && rangeB ops && pairsX ops A σ && closeB ops A

theorem pairsX_sub {ops : Array Oper} {A : Array Nat} : ∀ {σ1 σ2 : List (Nat × KdX)} {p : Nat × KdX}, pairsX ops A (σ1 ++ p :: σ2) = true → pairsX ops A (σ1 ++ σ2) = true ∧ (∀ s ∈ σ1, pairX ops A s p = true ∧ s.1 ≠ p.1) ∧ (∀ s ∈ σ2, s.1 ≠ p.1)
  | [], σ2, p, hp => by
    simp only [List.nil_append, pairsX, Bool.and_eq_true, List.all_eq_true] at hp
    refine ⟨hp.2, by simp, fun s hs he => ?_⟩
    have := (hp.1.2 s hs).1
    rw [he] at this
    simp at this
  | q :: σ1, σ2, p, hp => by
    simp only [List.cons_append, pairsX, Bool.and_eq_true, List.all_eq_true] at hp
    obtain ⟨⟨h0, h1⟩, h2⟩ := hp
    obtain ⟨g1, g2, g3⟩ := pairsX_sub h2
    refine ⟨?_, ?_, g3⟩
    · simp only [List.cons_append, pairsX, Bool.and_eq_true, List.all_eq_true]
      refine ⟨⟨h0, fun s hs => h1 s ?_⟩, g1⟩
      rcases List.mem_append.1 hs with h | h
      · exact List.mem_append_left _ h
      · exact List.mem_append_right _ (by simp [h])
    · intro s hs
      rcases List.mem_cons.1 hs with rfl | hs
      · obtain ⟨u1, u2⟩ := h1 p (List.mem_append_right _ (by simp))
        refine ⟨u2, fun he => ?_⟩
        rw [he] at u1
        simp at u1
      · exact g2 s hs


def XDAL {P : Program} (C : Ctx P) (s : Option Code) (N : Nat) (ops : Array Oper) (Q : Exit → XQ) : List (Nat × KdX) → Env → Heap → Prop
  | [], env, h => ∀ φ a w, C.L s φ h w → Marks C.B a.defers w → Rel P N φ env h a.tmps w → XPost C N φ h w (Q .normal) a w
  | (i, .R) :: σ, env, h => ∃ o, ops[i]? = some o ∧ dstB N o.dst = true ∧ ∃ v, ((gv ops env o = some true ∧ ROp P o (ev P env) h v) ∨ (gv ops env o = some false ∧ v = skipV)) ∧ XDAL C s N ops Q σ (env.put o.dst v) h
  | (i, .P) :: σ, env, h => ∃ o, ops[i]? = some o ∧ dstB N o.dst = true ∧ ∃ v, ((gv ops env o = some true ∧ ∀ h', AOp P o (ev P env) h' fun v' h'' => v' = v ∧ h'' = h') ∨ (gv ops env o = some false ∧ v = skipV)) ∧ XDAL C s N ops Q σ (env.put o.dst v) h
  | (i, .X) :: σ, env, h => ∃ o, ops[i]? = some o ∧ dstB N o.dst = true ∧
      ((gv ops env o = some true ∧ AOp P o (ev P env) h fun v h' => Ext h h' ∧ XDAL C s N ops Q σ (env.put o.dst v) h') ∨ (gv ops env o = some false ∧ XDAL C s N ops Q σ (env.put o.dst skipV) h))
  | (i, .W) :: σ, env, h => ∃ o, ops[i]? = some o ∧ dstB N o.dst = true ∧
      ((gv ops env o = some true ∧ AOp P o (ev P env) h fun v h' => XDAL C s N ops Q σ (env.put o.dst v) h') ∨ (gv ops env o = some false ∧ XDAL C s N ops Q σ (env.put o.dst skipV) h))


section
variable {P : Program} {C : Ctx P} {ro : Option Nat} {s : Option Code} {N : Nat} {ops : Array Oper} {Q : Exit → XQ}

theorem XDAL.eqE : ∀ {σ : List (Nat × KdX)} {e e' : Env} {h : Heap}, XDAL C s N ops Q σ e h → EqE e e' → XDAL C s N ops Q σ e' h
  | [], e, e', h, p, q => fun φ a w hl hd r => p φ a w hl hd (r.eqE fun t => (q t).symm)
  | (i, .R) :: σ, e, e', h, p, q => by
    obtain ⟨o, ho, hd, v, hv, k⟩ := p
    refine ⟨o, ho, hd, v, ?_, XDAL.eqE k (q.put _ _)⟩
    rw [← q.gv o]
    exact hv.imp (fun ⟨a, b⟩ => ⟨a, b.congr fun x _ => q.ev x⟩) id
  | (i, .P) :: σ, e, e', h, p, q => by
    obtain ⟨o, ho, hd, v, hv, k⟩ := p
    refine ⟨o, ho, hd, v, ?_, XDAL.eqE k (q.put _ _)⟩
    rw [← q.gv o]
    exact hv.imp (fun ⟨a, b⟩ => ⟨a, fun h' => (b h').congr fun x _ => q.ev x⟩) id
  | (i, .X) :: σ, e, e', h, p, q => by
    obtain ⟨o, ho, hd, hv⟩ := p
    refine ⟨o, ho, hd, ?_⟩
    rw [← q.gv o]
    exact hv.imp (fun ⟨a, b⟩ => ⟨a, (b.congr fun x _ => q.ev x).mono fun v h' _ ⟨k1, k2⟩ => ⟨k1, XDAL.eqE k2 (q.put _ _)⟩⟩) (fun ⟨a, b⟩ => ⟨a, XDAL.eqE b (q.put _ _)⟩)
  | (i, .W) :: σ, e, e', h, p, q => by
    obtain ⟨o, ho, hd, hv⟩ := p
    refine ⟨o, ho, hd, ?_⟩
    rw [← q.gv o]
    exact hv.imp (fun ⟨a, b⟩ => ⟨a, (b.congr fun x _ => q.ev x).mono fun v h' _ k => XDAL.eqE k (q.put _ _)⟩) (fun ⟨a, b⟩ => ⟨a, XDAL.eqE b (q.put _ _)⟩)


theorem XDAL.swap {i j : Nat} {k : KdX} {oi oj : Oper} {σ : List (Nat × KdX)} {e : Env} {h : Heap} (hi : ops[i]? = some oi) (hj : ops[j]? = some oj) (hap : oj.apart ops oi = true) (hk : kdWX k = false)
    (p : XDAL C s N ops Q ((j, .R) :: (i, k) :: σ) e h) : XDAL C s N ops Q ((i, k) :: (j, .R) :: σ) e h := by
  obtain ⟨a1, a2, a3⟩ := Oper.apart_spec hap
  obtain ⟨o, ho, hd, vj, hvj, p⟩ := p
  rw [hj] at ho; cases ho
  have later : ∀ (vi : Value) (h' : Heap), Ext h h' → h.next ≤ h'.next → XDAL C s N ops Q σ ((e.put oj.dst vj).put oi.dst vi) h' → XDAL C s N ops Q ((j, .R) :: σ) (e.put oi.dst vi) h' := by
    intro vi h' hx hn pk
    refine ⟨oj, hj, hd, vj, ?_, pk.eqE (EqE.swap e a2 vj vi)⟩
    rw [gv_put a3]
    exact hvj.imp (fun ⟨q1, q2⟩ => ⟨q1, (q2.ext hx hn).congr fun x hx => (ev_put a3 x hx).symm⟩) id
  cases k with
  | P =>
    obtain ⟨o, ho, hdi, vi, hvi, p⟩ := p
    rw [hi] at ho; cases ho
    rw [gv_put a1] at hvi
    exact ⟨oi, hi, hdi, vi, hvi.imp (fun ⟨q1, q2⟩ => ⟨q1, fun h' => (q2 h').congr (ev_put a1)⟩) id, later vi h (Ext.refl h) (Nat.le_refl _) p⟩
  | R =>
    obtain ⟨o, ho, hdi, vi, hvi, p⟩ := p
    rw [hi] at ho; cases ho
    rw [gv_put a1] at hvi
    exact ⟨oi, hi, hdi, vi, hvi.imp (fun ⟨q1, q2⟩ => ⟨q1, q2.congr (ev_put a1)⟩) id, later vi h (Ext.refl h) (Nat.le_refl _) p⟩
  | X =>
    obtain ⟨o, ho, hdi, hvi⟩ := p
    rw [hi] at ho; cases ho
    rw [gv_put a1] at hvi
    refine ⟨oi, hi, hdi, ?_⟩
    exact hvi.imp (fun ⟨q1, q2⟩ => ⟨q1, (q2.congr (ev_put a1)).mono fun v h' hn ⟨k1, k2⟩ => ⟨k1, later v h' k1 hn k2⟩⟩) (fun ⟨q1, q2⟩ => ⟨q1, later skipV h (Ext.refl h) (Nat.le_refl _) q2⟩)
  | W => cases hk

theorem XDAL.swapP {i j : Nat} {k : KdX} {oi oj : Oper} {σ : List (Nat × KdX)} {e : Env} {h : Heap} (hi : ops[i]? = some oi) (hj : ops[j]? = some oj) (hap : oj.apart ops oi = true)
    (p : XDAL C s N ops Q ((j, .P) :: (i, k) :: σ) e h) : XDAL C s N ops Q ((i, k) :: (j, .P) :: σ) e h := by
  obtain ⟨a1, a2, a3⟩ := Oper.apart_spec hap
  obtain ⟨o, ho, hd, vj, hvj, p⟩ := p
  rw [hj] at ho; cases ho
  have later : ∀ (vi : Value) (h' : Heap), XDAL C s N ops Q σ ((e.put oj.dst vj).put oi.dst vi) h' → XDAL C s N ops Q ((j, .P) :: σ) (e.put oi.dst vi) h' := by
    intro vi h' pk
    refine ⟨oj, hj, hd, vj, ?_, pk.eqE (EqE.swap e a2 vj vi)⟩
    rw [gv_put a3]
    exact hvj.imp (fun ⟨q1, q2⟩ => ⟨q1, fun h' => (q2 h').congr fun x hx => (ev_put a3 x hx).symm⟩) id
  cases k with
  | P =>
    obtain ⟨o, ho, hdi, vi, hvi, p⟩ := p
    rw [hi] at ho; cases ho
    rw [gv_put a1] at hvi
    exact ⟨oi, hi, hdi, vi, hvi.imp (fun ⟨q1, q2⟩ => ⟨q1, fun h' => (q2 h').congr (ev_put a1)⟩) id, later vi h p⟩
  | R =>
    obtain ⟨o, ho, hdi, vi, hvi, p⟩ := p
    rw [hi] at ho; cases ho
    rw [gv_put a1] at hvi
    exact ⟨oi, hi, hdi, vi, hvi.imp (fun ⟨q1, q2⟩ => ⟨q1, q2.congr (ev_put a1)⟩) id, later vi h p⟩
  | X =>
    obtain ⟨o, ho, hdi, hvi⟩ := p
    rw [hi] at ho; cases ho
    rw [gv_put a1] at hvi
    refine ⟨oi, hi, hdi, ?_⟩
    exact hvi.imp (fun ⟨q1, q2⟩ => ⟨q1, (q2.congr (ev_put a1)).mono fun v h' hn ⟨k1, k2⟩ => ⟨k1, later v h' k2⟩⟩) (fun ⟨q1, q2⟩ => ⟨q1, later skipV h q2⟩)
  | W =>
    obtain ⟨o, ho, hdi, hvi⟩ := p
    rw [hi] at ho; cases ho
    rw [gv_put a1] at hvi
    refine ⟨oi, hi, hdi, ?_⟩
    exact hvi.imp (fun ⟨q1, q2⟩ => ⟨q1, (q2.congr (ev_put a1)).mono fun v h' hn k2 => later v h' k2⟩) (fun ⟨q1, q2⟩ => ⟨q1, later skipV h q2⟩)

theorem XDAL.front {i : Nat} {k : KdX} {oi : Oper} {σ2 : List (Nat × KdX)} (hi : ops[i]? = some oi) : ∀ {σ1 : List (Nat × KdX)} {e : Env} {h : Heap},
    (∀ s ∈ σ1, (s.2 = .P ∨ (s.2 = .R ∧ kdWX k = false)) ∧ ∃ oj, ops[s.1]? = some oj ∧ oj.apart ops oi = true) → XDAL C s N ops Q (σ1 ++ (i, k) :: σ2) e h → XDAL C s N ops Q ((i, k) :: (σ1 ++ σ2)) e h
  | [], _, _, _, p => p
  | (j, kj) :: σ1, e, h, hs, p => by
    obtain ⟨h1, oj, h3, h4⟩ := hs (j, kj) (by simp)
    simp only at h1 h3
    rcases h1 with rfl | ⟨rfl, h2⟩
    · obtain ⟨o, ho, hd, v, hv, p⟩ := p
      have p' := XDAL.front (σ2 := σ2) hi (fun s hs' => hs s (by simp [hs'])) p
      exact XDAL.swapP hi h3 h4 ⟨o, ho, hd, v, hv, p'⟩
    · obtain ⟨o, ho, hd, v, hv, p⟩ := p
      have p' := XDAL.front (σ2 := σ2) hi (fun s hs' => hs s (by simp [hs'])) p
      exact XDAL.swap hi h3 h4 h2 ⟨o, ho, hd, v, hv, p'⟩
theorem wpAnyIn_mono {Qc Qc' : Exit → Act → World → Prop} (hq : ∀ e a w, Qc e a w → Qc' e a w) : ∀ (fuel : Nat) (L : Array Bool) (a : Act) (w : World), wpAnyIn (Fc ro) 0 P .any ops Qc fuel L a w → wpAnyIn (Fc ro) 0 P .any ops Qc' fuel L a w
  | 0, L, a, w, p => ⟨p.1, hq _ _ _ p.2⟩
  | fuel + 1, L, a, w, p => by
    refine ⟨fun hr => hq _ _ _ (p.1 hr), fun i hi => ?_⟩
    have := p.2 i hi
    unfold wpOpIn at this ⊢
    split
    · rename_i ho
      simp only [ho] at this
      exact wpAnyIn_mono hq fuel _ a w this
    · rename_i o ho
      simp only [ho] at this
      split
      · rename_i hw
        rw [if_pos hw] at this
        exact ⟨this.1, uponIn_mono (wpAnyIn_mono hq fuel _) hq _ this.2⟩
      · rename_i hw
        rw [if_neg hw] at this
        exact ⟨this.1, wpAnyIn_mono hq fuel _ _ w this.2⟩

theorem any_orderX (hdf : ops.all (fun o => deferB o.op == false) = true) (A : Array Nat) (hr : rangeB ops = true) (hc : closeB ops A = true) (hA : ∀ i j, ancB A i j = true → j < ops.size) : ∀ (n : Nat) (σ : List (Nat × KdX)) (L : Array Bool) (env : Env) (h : Heap) (φ : Ren) (a : Act) (w : World), σ.length = n → L.size = ops.size →
    (∀ i, i < ops.size → (L.getD i true = false ↔ ∃ k, (i, k) ∈ σ)) → (∀ s ∈ σ, s.1 < ops.size) → (∀ i j, L.getD i false = true → ancB A i j = true → L.getD j false = true) → pairsX ops A σ = true →
    C.L s φ h w → Marks C.B a.defers w → Rel P N φ env h a.tmps w → XDAL C s N ops Q σ env h → wpAnyIn (Fc ro) 0 P .any ops (fun ex a' w' => XPost C N φ h w (Q ex) a' w') n L a w := by
  intro n
  induction n with
  | zero =>
    intro σ L env h φ a w hn hL hmem _ _ _ hl hd r p
    have : σ = [] := List.eq_nil_of_length_eq_zero hn
    subst this
    refine ⟨?_, p φ a w hl hd r⟩
    apply List.eq_nil_iff_forall_not_mem.2
    intro i hi
    obtain ⟨h1, o, h2, _⟩ := mem_ready.1 hi
    have hlt : i < ops.size := (Array.getElem?_eq_some_iff.1 h2).1
    obtain ⟨k, hk⟩ := (hmem i hlt).1 h1
    cases hk
  | succ n ih =>
    intro σ L env h φ a w hn hL hmem hlt hclo hpr hl hd r p
    have hin : ∀ j, j < ops.size → (¬ ∃ k, (j, k) ∈ σ) → L.getD j false = true := by
      intro j hj hno
      cases hq : L.getD j true with
      | false => exact absurd ((hmem j hj).1 hq) hno
      | true =>
        have hjl : j < L.size := by omega
        simp only [Array.getD_eq_getD_getElem?, Array.getElem?_eq_getElem hjl, Option.getD_some] at hq ⊢
        exact hq
    have hrange : ∀ (i : Nat) (o : Oper), ops[i]? = some o → ∀ e ∈ o.after, Region.binds .any e = true → e.on < ops.size := by
      intro i o ho e he hb
      have h1 := Array.all_eq_true_iff_forall_mem.1 hr o (Array.mem_of_getElem? ho)
      have h2 := Array.all_eq_true_iff_forall_mem.1 h1 e he
      simp only [hb, Bool.not_true, Bool.false_or] at h2
      simpa [Nat.blt_eq] using h2
    refine ⟨fun hnil => ?_, fun i hi => ?_⟩
    · exfalso
      obtain ⟨⟨i0, k0⟩, σ', rfl⟩ : ∃ s σ', σ = s :: σ' := by
        cases σ with
        | nil => simp at hn
        | cons s σ' => exact ⟨s, σ', rfl⟩
      have hi0 := hlt (i0, k0) (by simp)
      have ho0 : ops[i0]? = some ops[i0] := Array.getElem?_eq_getElem hi0
      have : i0 ∈ Region.ready .any ops L := by
        refine mem_ready.2 ⟨(hmem i0 hi0).2 ⟨k0, by simp⟩, ops[i0], ho0, fun e he hb => ?_⟩
        have hedge : edgeB ops i0 e.on = true := (edgeB_iff ho0).2 ⟨e, he, hb, rfl⟩
        refine hin e.on (hrange i0 _ ho0 e he hb) ?_
        rintro ⟨k, hk⟩
        simp only [pairsX, Bool.and_eq_true, List.all_eq_true, Bool.not_eq_eq_eq_not, Bool.not_true] at hpr
        rcases List.mem_cons.1 hk with hk | hk
        · cases hk
          rw [hpr.1.1] at hedge; cases hedge
        · have := (hpr.1.2 _ hk).2
          simp only [pairX, Bool.and_eq_true, Bool.not_eq_eq_eq_not, Bool.not_true] at this
          rw [this.1] at hedge; cases hedge
      rw [hnil] at this
      cases this
    · obtain ⟨hi1, o, ho, hedges⟩ := mem_ready.1 hi
      have hilt : i < ops.size := (Array.getElem?_eq_some_iff.1 ho).1
      obtain ⟨k, hk⟩ := (hmem i hilt).1 hi1
      obtain ⟨σ1, σ2, rfl⟩ := List.append_of_mem hk
      obtain ⟨hp1, hp2, hp3⟩ := pairsX_sub hpr
      have hanc : ∀ j, ancB A i j = true → L.getD j false = true := by
        intro j hj
        have hjl := hA i j hj
        have h1 := List.all_eq_true.1 (List.all_eq_true.1 hc i (List.mem_range.2 hilt)) j (List.mem_range.2 hjl)
        simp only [hj, Bool.not_true, Bool.false_or, Bool.or_eq_true, List.any_eq_true, Bool.and_eq_true] at h1
        rcases h1 with h1 | ⟨m, _, h2, h3⟩
        · obtain ⟨e, he, hb, rfl⟩ := (edgeB_iff ho).1 h1
          exact hedges e he hb
        · obtain ⟨e, he, hb, rfl⟩ := (edgeB_iff ho).1 h2
          exact hclo _ j (hedges e he hb) h3
      have hfr : ∀ s ∈ σ1, (s.2 = .P ∨ (s.2 = .R ∧ kdWX k = false)) ∧ ∃ oj, ops[s.1]? = some oj ∧ oj.apart ops o = true := by
        intro s hs
        obtain ⟨u1, u2⟩ := hp2 s hs
        simp only [pairX, Bool.and_eq_true, Bool.or_eq_true, Bool.not_eq_eq_eq_not, Bool.not_true] at u1
        have hap : apartB ops s.1 i = true → ∃ oj, ops[s.1]? = some oj ∧ oj.apart ops o = true := by
          intro u5
          unfold apartB at u5
          rw [ho] at u5
          cases hoj : ops[s.1]? with
          | none => rw [hoj] at u5; cases u5
          | some oj => rw [hoj] at u5; exact ⟨oj, rfl, u5⟩
        rcases u1.2 with (u3 | ⟨⟨u3, u4⟩, u5⟩) | ⟨u3, u5⟩
        · exfalso
          have h1 := hanc s.1 u3
          have h2 := (hmem s.1 (hlt s (by simp [hs]))).2 ⟨s.2, by simp [hs]⟩
          have hjl : s.1 < L.size := by rw [hL]; exact hlt s (by simp [hs])
          simp only [Array.getD_eq_getD_getElem?, Array.getElem?_eq_getElem hjl, Option.getD_some] at h1 h2
          rw [h1] at h2; cases h2
        · refine ⟨.inr ⟨?_, u4⟩, hap u5⟩
          cases hs2 : s.2 with
          | R => rfl
          | P => rw [hs2] at u3; cases u3
          | X => rw [hs2] at u3; cases u3
          | W => rw [hs2] at u3; cases u3
        · refine ⟨.inl ?_, hap u5⟩
          cases hs2 : s.2 with
          | P => rfl
          | R => rw [hs2] at u3; cases u3
          | X => rw [hs2] at u3; cases u3
          | W => rw [hs2] at u3; cases u3
      have pf := XDAL.front ho hfr p
      have hL' : (L.setIfInBounds i true).size = ops.size := by simp [hL]
      have hlen' : (σ1 ++ σ2).length = n := by simp at hn ⊢; omega
      have hmem' : ∀ j, j < ops.size → ((L.setIfInBounds i true).getD j true = false ↔ ∃ k, (j, k) ∈ σ1 ++ σ2) := by
        intro j hj
        by_cases hji : i = j
        · subst hji
          have : (L.setIfInBounds i true).getD i true = true := by
            simp [Array.getD_eq_getD_getElem?]
          rw [this]
          constructor
          · intro e; cases e
          · rintro ⟨k', hk'⟩
            exfalso
            rcases List.mem_append.1 hk' with h1 | h1
            · exact (hp2 _ h1).2 rfl
            · exact hp3 _ h1 rfl
        · rw [getD_set_ne _ hji, hmem j hj]
          constructor
          · rintro ⟨k', hk'⟩
            refine ⟨k', ?_⟩
            rcases List.mem_append.1 hk' with h1 | h1
            · exact List.mem_append_left _ h1
            · rcases List.mem_cons.1 h1 with h2 | h2
              · cases h2; exact absurd rfl hji
              · exact List.mem_append_right _ h2
          · rintro ⟨k', hk'⟩
            refine ⟨k', ?_⟩
            rcases List.mem_append.1 hk' with h1 | h1
            · exact List.mem_append_left _ h1
            · exact List.mem_append_right _ (by simp [h1])
      have hlt' : ∀ s ∈ σ1 ++ σ2, s.1 < ops.size := by
        intro s hs
        refine hlt s ?_
        rcases List.mem_append.1 hs with h1 | h1
        · exact List.mem_append_left _ h1
        · exact List.mem_append_right _ (by simp [h1])
      have hclo' : ∀ x y, (L.setIfInBounds i true).getD x false = true → ancB A x y = true → (L.setIfInBounds i true).getD y false = true := by
        intro x y hx hxy
        refine getD_set_true ?_
        by_cases hxi : i = x
        · subst hxi; exact hanc y hxy
        · rw [getD_set_ne _ hxi] at hx
          exact hclo x y hx hxy
      have go : ∀ (φ' : Ren) (env' : Env) (h' : Heap) (a' : Act) (w' : World), C.L s φ' h' w' → Marks C.B a'.defers w' → Rel P N φ' env' h' a'.tmps w' → Step φ h w φ' h' w' → XDAL C s N ops Q (σ1 ++ σ2) env' h' →
          wpAnyIn (Fc ro) 0 P .any ops (fun ex a2 w2 => XPost C N φ h w (Q ex) a2 w2) n (L.setIfInBounds i true) a' w' := by
        intro φ' env' h' a' w' hl' hd' r' st p'
        exact wpAnyIn_mono (fun _ _ _ hp => hp.trans st.x) _ _ _ _ (ih (σ1 ++ σ2) _ env' h' φ' a' w' hlen' hL' hmem' hlt' hclo' hp1 hl' hd' r' p')
      have run : ∀ (K : Value → Heap → Prop), dstB N o.dst = true → gv ops env o = some true → AOp P o (ev P env) h K → (∀ v h', K v h' → XDAL C s N ops Q (σ1 ++ σ2) (env.put o.dst v) h') →
          wpOpIn (Fc ro) 0 P ops (fun ex a2 w2 => XPost C N φ h w (Q ex) a2 w2) i (wpAnyIn (Fc ro) 0 P .any ops (fun ex a2 w2 => XPost C N φ h w (Q ex) a2 w2) n (L.setIfInBounds i true)) a w := by
        intro K hdst hg hop hk
        simp only [wpOpIn, ho, wanted_of r hg, if_true]
        have hnd : deferB o.op = false := by
          have := Array.all_eq_true_iff_forall_mem.1 hdf o (Array.mem_of_getElem? ho)
          simpa using this
        refine wpIn_of_wp (deferB_no hnd) (hop φ a w ⟨r.sim, fun x _ => r.ev x⟩ _ _ fun c w' φ' h' v kv vr sm st => ?_)
        exact go φ' _ h' _ w' (C.st r.sim hl st) (by rw [put_defers]; exact hd.step r.sim st) ((r.step sm st).put o.dst (dstB_lt hdst) vr) st (hk v h' kv)
      have skip : dstB N o.dst = true → gv ops env o = some false → XDAL C s N ops Q (σ1 ++ σ2) (env.put o.dst skipV) h →
          wpOpIn (Fc ro) 0 P ops (fun ex a2 w2 => XPost C N φ h w (Q ex) a2 w2) i (wpAnyIn (Fc ro) 0 P .any ops (fun ex a2 w2 => XPost C N φ h w (Q ex) a2 w2) n (L.setIfInBounds i true)) a w := by
        intro hdst hg hk
        simp only [wpOpIn, ho, wanted_of r hg, Bool.false_eq_true, if_false]
        refine ⟨fun _ _ => trivial, ?_⟩
        exact go φ _ h _ w hl (by rw [put_defers]; exact hd) (r.put o.dst (dstB_lt hdst) .skip) (Step.refl _ _ _) hk
      cases k with
      | P =>
        obtain ⟨o', ho', hdst, v, hv, pk⟩ := pf
        rw [ho] at ho'; cases ho'
        rcases hv with ⟨g1, g2⟩ | ⟨g1, rfl⟩
        · exact run _ hdst g1 (g2 h) fun v' h' ⟨e1, e2⟩ => by subst e1 e2; exact pk
        · exact skip hdst g1 pk
      | R =>
        obtain ⟨o', ho', hdst, v, hv, pk⟩ := pf
        rw [ho] at ho'; cases ho'
        rcases hv with ⟨g1, g2⟩ | ⟨g1, rfl⟩
        · exact run _ hdst g1 (g2 h (Ext.refl h) (Nat.le_refl _)) fun v' h' ⟨e1, e2⟩ => by subst e1 e2; exact pk
        · exact skip hdst g1 pk
      | X =>
        obtain ⟨o', ho', hdst, hv⟩ := pf
        rw [ho] at ho'; cases ho'
        rcases hv with ⟨g1, g2⟩ | ⟨g1, g2⟩
        · exact run _ hdst g1 g2 fun v' h' ⟨_, e2⟩ => e2
        · exact skip hdst g1 g2
      | W =>
        obtain ⟨o', ho', hdst, hv⟩ := pf
        rw [ho] at ho'; cases ho'
        rcases hv with ⟨g1, g2⟩ | ⟨g1, g2⟩
        · exact run _ hdst g1 g2 fun v' h' e2 => e2
        · exact skip hdst g1 g2

/-- A region whose order is drawn. -/
theorem XWp.draw {id : Nat} {σ : List (Nat × KdX)} {env : Env} {h : Heap} (hm : P.follows .mixedOrders = true) (hdf : ops.all (fun o => deferB o.op == false) = true) (hb : drawX ops σ = true) (p : XDAL C s N ops Q σ env h) : XWp C ro N (.region id ops true) Q env h s := by
  intro φ a w hl hd r
  simp only [drawX, Bool.and_eq_true] at hb
  obtain ⟨⟨⟨⟨⟨⟨b1, b2⟩, b3⟩, b4⟩, b5⟩, b6⟩, b7⟩ := hb
  have b1' : σ.length = ops.size := Nat.eq_of_beq_eq_true b1
  refine wpIn_region_any hm ?_
  have r' : Rel P N φ env h a.tmps w.drew := ⟨r.sim.drew, r.size, r.env⟩
  refine wpAnyIn_mono (fun _ _ _ hp => hp.trans Step.drew.x) _ _ _ _ (any_orderX (ro := ro) hdf (Region.before ops) b5 b7 ?_ ops.size σ (Array.replicate ops.size false) env h φ a w.drew b1' (by simp) ?_ ?_ ?_ b6 (C.st r.sim hl Step.drew) (hd.step r.sim (Step.drew (φ := φ) (h := h))) r' p)
  · intro i j hij
    unfold ancB at hij
    rcases Nat.lt_or_ge j ops.size with hl | hl
    · exact hl
    · exfalso
      have hx : (Region.before ops).getD i 0 < 2 ^ ops.size := by
        rcases Nat.lt_or_ge i (Region.before ops).size with h1 | h1
        · have := Array.all_eq_true_iff_forall_mem.1 b4 ((Region.before ops)[i]) (by simp)
          rw [Array.getD_eq_getD_getElem?, Array.getElem?_eq_getElem h1]
          simpa [Nat.blt_eq] using this
        · rw [Array.getD_eq_getD_getElem?, Array.getElem?_eq_none h1]
          exact Nat.two_pow_pos _
      have := Nat.testBit_lt_two_pow (Nat.lt_of_lt_of_le hx (Nat.pow_le_pow_right (by omega) hl))
      rw [this] at hij
      cases hij
  · intro i hi
    have h1 : (Array.replicate ops.size false).getD i true = false := by
      simp [Array.getD_eq_getD_getElem?, hi]
    rw [h1]
    simp only [true_iff]
    have := List.all_eq_true.1 b2 i (List.mem_range.2 hi)
    obtain ⟨⟨j, k⟩, h2, h3⟩ := List.any_eq_true.1 this
    have : j = i := Nat.eq_of_beq_eq_true h3
    subst this
    exact ⟨k, h2⟩
  · intro s hs
    simpa [Nat.blt_eq] using List.all_eq_true.1 b3 s hs
  · intro i j hi
    exfalso
    by_cases hl : i < ops.size
    · simp [Array.getD_eq_getD_getElem?, hl] at hi
    · simp [Array.getD_eq_getD_getElem?, hl] at hi


section steps
variable {i : Nat} {σ : List (Nat × KdX)} {env : Env} {h : Heap} {d : Tmp} {op : Op} {ty : TypeId} {pos : String} {aft : Array Edge} {g : Option (Nat × Bool)}
theorem XDAL.r {v : Value} (ho : ops[i]? = some ⟨some d, op, ty, pos, aft, g⟩) (hd : Nat.blt d N = true) (hg : gv ops env ⟨some d, op, ty, pos, aft, g⟩ = some true) (hv : ∀ h', Ext h h' → h.next ≤ h'.next → AOp P ⟨some d, op, ty, pos, aft, g⟩ (ev P env) h' fun v' h'' => v' = v ∧ h'' = h')
    (k : XDAL C s N ops Q σ ((d, v) :: env) h) : XDAL C s N ops Q ((i, .R) :: σ) env h := ⟨_, ho, hd, v, .inl ⟨hg, hv⟩, k⟩
theorem XDAL.p {v : Value} (ho : ops[i]? = some ⟨some d, op, ty, pos, aft, g⟩) (hd : Nat.blt d N = true) (hg : gv ops env ⟨some d, op, ty, pos, aft, g⟩ = some true) (hv : ∀ h', AOp P ⟨some d, op, ty, pos, aft, g⟩ (ev P env) h' fun v' h'' => v' = v ∧ h'' = h')
    (k : XDAL C s N ops Q σ ((d, v) :: env) h) : XDAL C s N ops Q ((i, .P) :: σ) env h := ⟨_, ho, hd, v, .inl ⟨hg, hv⟩, k⟩
theorem XDAL.skip {kd : KdX} (ho : ops[i]? = some ⟨some d, op, ty, pos, aft, g⟩) (hd : Nat.blt d N = true) (hg : gv ops env ⟨some d, op, ty, pos, aft, g⟩ = some false)
    (k : XDAL C s N ops Q σ ((d, skipV) :: env) h) : XDAL C s N ops Q ((i, kd) :: σ) env h := by
  cases kd
  · exact ⟨_, ho, hd, skipV, .inr ⟨hg, rfl⟩, k⟩
  · exact ⟨_, ho, hd, skipV, .inr ⟨hg, rfl⟩, k⟩
  · exact ⟨_, ho, hd, .inr ⟨hg, k⟩⟩
  · exact ⟨_, ho, hd, .inr ⟨hg, k⟩⟩
theorem XDAL.x (ho : ops[i]? = some ⟨some d, op, ty, pos, aft, g⟩) (hd : Nat.blt d N = true) (hg : gv ops env ⟨some d, op, ty, pos, aft, g⟩ = some true) (hv : AOp P ⟨some d, op, ty, pos, aft, g⟩ (ev P env) h fun v h' => Ext h h' ∧ XDAL C s N ops Q σ ((d, v) :: env) h') :
    XDAL C s N ops Q ((i, .X) :: σ) env h := ⟨_, ho, hd, .inl ⟨hg, hv⟩⟩
theorem XDAL.w (ho : ops[i]? = some ⟨some d, op, ty, pos, aft, g⟩) (hd : Nat.blt d N = true) (hg : gv ops env ⟨some d, op, ty, pos, aft, g⟩ = some true) (hv : AOp P ⟨some d, op, ty, pos, aft, g⟩ (ev P env) h fun v h' => XDAL C s N ops Q σ ((d, v) :: env) h') :
    XDAL C s N ops Q ((i, .W) :: σ) env h := ⟨_, ho, hd, .inl ⟨hg, hv⟩⟩
theorem XDAL.w0 (ho : ops[i]? = some ⟨none, op, ty, pos, aft, g⟩) (hg : gv ops env ⟨none, op, ty, pos, aft, g⟩ = some true) (hv : AOp P ⟨none, op, ty, pos, aft, g⟩ (ev P env) h fun _ h' => XDAL C s N ops Q σ env h') :
    XDAL C s N ops Q ((i, .W) :: σ) env h := ⟨_, ho, rfl, .inl ⟨hg, hv⟩⟩
theorem XDAL.heap {h' : Heap} (e : h' = h) (p : XDAL C s N ops Q σ env h) : XDAL C s N ops Q σ env h' := e ▸ p
theorem XDAL.nil (k : Q .normal env h s) : XDAL C s N ops Q [] env h := fun _ _ _ hl hd r => XPost.now k hl hd r
end steps

end
end Go.Eng

/-
  The engine, part V: scopes of labels that nothing jumps back to.
-/
namespace Go.Eng
open Go

section
variable {F : Fence} {n : Nat} {P : Program} {b : Frame} {a : Act} {k : List Item} {cs : List Frame} {w : World} {Q : Exit → Act → World → Prop}
theorem stepR_scope {c : Code} : step P (lone (b.atR a (.code (.scope c) :: k)) cs w) = .next (lone (b.atR a (.code c :: .inScope c :: k)) cs w) :=
  step_lone_go (by simp [stepG, stepG.exec, Frame.atR])
theorem stepR_inScope {c : Code} : step P (lone (b.atR a (.inScope c :: k)) cs w) = .next (lone (b.atR a k) cs w) :=
  step_lone_go (by simp [stepG, stepG.exec, Frame.atR])
theorem wpIn_scope {c : Code} (h : c.wpIn F n P (Exit.noGoto Q) a w) : (Code.scope c).wpIn F n P Q a w := by
  intro b k cs hro hb hr
  have h0 : (lone (b.atR a (.code (.scope c) :: k)) cs w).fenced P F := fenced_calm hb hr rfl
  obtain ⟨e, a₁, w₁, hq, harr⟩ := h b (.inScope c :: k) cs hro hb hr
  cases e with
  | normal => exact ⟨.normal, a₁, w₁, hq, .head h0 stepR_scope (StepsIn.trans harr (.one (fenced_calm hb hr rfl) stepR_inScope))⟩
  | exit id =>
    have hx : exitTo id (.inScope c :: k) = exitTo id k := by simp [exitTo]
    exact ⟨_, a₁, w₁, hq, fun k' hk => .head h0 stepR_scope (harr.1 k' (by rw [hx]; exact hk)),
      fun hr' hk => let ⟨k₁, h1, h2⟩ := harr.2 hr' (by rw [hx]; exact hk); ⟨k₁, h1, .head h0 stepR_scope h2⟩⟩
  | goto l => exact hq.elim
  | ret => exact ⟨_, a₁, w₁, hq, .of_steps (.one h0 stepR_scope) harr⟩
  | panic ch => exact ⟨_, a₁, w₁, hq, .of_steps (.one h0 stepR_scope) harr⟩
  | outgrown => exact ⟨_, a₁, w₁, hq, .of_steps (.one h0 stepR_scope) harr⟩
end

section
variable {P : Program} {C : Ctx P} {ro : Option Nat} {N : Nat} {env : Env} {h : Heap} {s : Option Code}
@[reducible] def noGoX (Q : Exit → XQ) : Exit → XQ
  | .goto _, _, _, _ => False
  | ex, e, h, s => Q ex e h s
theorem XWp.scope {c : Code} {Q : Exit → XQ} (p : XWp C ro N c (noGoX Q) env h s) : XWp C ro N (.scope c) Q env h s := by
  intro φ a w l d r
  refine wpIn_scope (wpIn_mono (p φ a w l d r) fun ex a' w' hp => ?_)
  cases ex with
  | goto g => obtain ⟨_, _, _, _, k, _⟩ := hp; exact k.elim
  | _ => exact hp
@[reducible] def noGoQ (Q : Exit → Env → Heap → Prop) : Exit → Env → Heap → Prop
  | .goto _, _, _ => False
  | ex, e, h => Q ex e h
theorem AWp.scope {c : Code} {Q : Exit → Env → Heap → Prop} (p : AWp P N c (noGoQ Q) env h) : AWp P N (.scope c) Q env h := by
  intro φ a w d r
  refine wp_scope_straight (wp_mono (p φ a w d r) fun ex a' w' hp => ?_)
  cases ex with
  | goto g => obtain ⟨_, _, _, k, _⟩ := hp; exact k.elim
  | _ => exact hp
end
end Go.Eng

/-
  Disks, in plain words: files by their names.
-/
namespace Go.Dsk
open Go Go.Eng

/-- What lasts of a file, and what is loose. -/
abbrev File := List UInt8 × List UInt8
abbrev FL := List (List UInt8 × File × Nat)
def allF (f : File) : List UInt8 := f.1 ++ f.2
def fileV (f : File) : Value := .agg #[.string (bstr f.1), .string (bstr f.2)]
def kvF (l : FL) : KV := l.map fun e => (e.1, fileV e.2.1, e.2.2)
theorem getS_kv (l : FL) (s : List UInt8) : getS (kvF l) s = (getS l s).map fileV := by
  induction l with
  | nil => rfl
  | cons e l ih =>
    unfold getS kvF at ih ⊢
    simp only [List.map_cons, List.find?_cons]
    cases he : e.1 == s with
    | true => rfl
    | false => simpa using ih
theorem hasS_kv (l : FL) (s : List UInt8) : hasS (kvF l) s = hasS l s := by simp [hasS, kvF, List.any_map]; rfl
theorem putS_kv (l : FL) (s : List UInt8) (f : File) (c : Nat) : putS (kvF l) s (fileV f) c = kvF (putS l s f c) := by
  induction l with
  | nil => rfl
  | cons e l ih =>
    obtain ⟨k, u, b⟩ := e
    show (if k == s then _ else _) = kvF (if k == s then _ else _)
    split
    · rfl
    · show _ :: putS (kvF l) s (fileV f) c = _ :: kvF (putS l s f c)
      rw [ih]
theorem delS_kv (l : FL) (s : List UInt8) : delS (kvF l) s = kvF (delS l s) := by
  induction l with
  | nil => rfl
  | cons e l ih =>
    obtain ⟨k, u, b⟩ := e
    show (if k == s then _ else _) = kvF (if k == s then _ else _)
    split
    · rfl
    · show _ :: delS (kvF l) s = _ :: kvF (delS l s)
      rw [ih]
theorem kvF_length (l : FL) : (kvF l).length = l.length := by simp [kvF]
section gen
variable {α : Type}
theorem getS_none {l : List (List UInt8 × α × Nat)} {s : List UInt8} : getS l s = none ↔ hasS l s = false := by
  induction l with
  | nil => simp [getS, hasS]
  | cons e l ih =>
    unfold getS hasS at ih ⊢
    simp only [List.find?_cons, List.any_cons]
    cases he : e.1 == s with
    | true => simp
    | false => simp
theorem has_mem {l : List (List UInt8 × α × Nat)} {s : List UInt8} : hasS l s = true ↔ s ∈ l.map (·.1) := by
  simp [hasS]
theorem del_none {l : List (List UInt8 × α × Nat)} {s : List UInt8} (h : hasS l s = false) : delS l s = l := by
  induction l with
  | nil => rfl
  | cons e l ih =>
    obtain ⟨k, u, b⟩ := e
    simp only [hasS, List.any_cons, Bool.or_eq_false_iff] at h
    simp [delS, h.1, ih h.2]
theorem put_none {l : List (List UInt8 × α × Nat)} {s : List UInt8} {v : α} {c : Nat} (h : hasS l s = false) : putS l s v c = l ++ [(s, v, c)] := by
  induction l with
  | nil => rfl
  | cons e l ih =>
    obtain ⟨k, u, b⟩ := e
    simp only [hasS, List.any_cons, Bool.or_eq_false_iff] at h
    simp [putS, h.1, ih h.2]
theorem del_sub (l : List (List UInt8 × α × Nat)) (s : List UInt8) : (delS l s).Sublist l := by
  induction l with
  | nil => exact List.Sublist.slnil
  | cons e l ih =>
    obtain ⟨k, u, b⟩ := e
    show (if k == s then l else (k, u, b) :: delS l s).Sublist _
    split
    · exact List.sublist_cons_self _ _
    · exact ih.cons_cons _
theorem del_names {l : List (List UInt8 × α × Nat)} {s : List UInt8} (hn : (l.map (·.1)).Nodup) : ∀ e, e ∈ delS l s ↔ e ∈ l ∧ e.1 ≠ s := by
  induction l with
  | nil => intro e; simp [delS]
  | cons d l ih =>
    obtain ⟨k, u, b⟩ := d
    intro e
    simp only [List.map_cons, List.nodup_cons] at hn
    have ih := ih hn.2 e
    show e ∈ (if k == s then l else (k, u, b) :: delS l s) ↔ _
    by_cases hk : k = s
    · subst hk
      simp only [beq_self_eq_true, if_true, List.mem_cons]
      constructor
      · intro h
        exact ⟨.inr h, fun he => hn.1 (List.mem_map.2 ⟨e, h, he⟩)⟩
      · rintro ⟨h | h, hne⟩
        · subst h; exact absurd rfl hne
        · exact h
    · rw [if_neg (by simpa using hk), List.mem_cons, ih, List.mem_cons]
      constructor
      · rintro (h | ⟨h1, h2⟩)
        · subst h; exact ⟨.inl rfl, hk⟩
        · exact ⟨.inr h1, h2⟩
      · rintro ⟨h | h, hne⟩
        · exact .inl h
        · exact .inr ⟨h, hne⟩
theorem del_has {l : List (List UInt8 × α × Nat)} {s : List UInt8} (hn : (l.map (·.1)).Nodup) (t : List UInt8) : hasS (delS l s) t = (hasS l t && !(t == s)) := by
  rw [Bool.eq_iff_iff, has_mem, Bool.and_eq_true, has_mem]
  simp only [List.mem_map, del_names hn, Bool.not_eq_true', beq_eq_false_iff_ne]
  constructor
  · rintro ⟨e, ⟨h1, h2⟩, rfl⟩; exact ⟨⟨e, h1, rfl⟩, h2⟩
  · rintro ⟨⟨e, h1, rfl⟩, h2⟩; exact ⟨e, ⟨h1, h2⟩, rfl⟩
theorem get_mem {l : List (List UInt8 × α × Nat)} {s : List UInt8} {v : α} (h : getS l s = some v) : ∃ b, (s, v, b) ∈ l := by
  unfold getS at h
  cases hf : l.find? (fun e => e.1 == s) with
  | none => rw [hf] at h; cases h
  | some e =>
    rw [hf] at h
    have h1 := List.find?_some hf
    have h2 := List.mem_of_find?_eq_some hf
    obtain ⟨k, u, b⟩ := e
    simp at h1 h
    subst h1 h
    exact ⟨b, h2⟩
theorem mem_get {l : List (List UInt8 × α × Nat)} (hn : (l.map (·.1)).Nodup) {s : List UInt8} {v : α} {b : Nat} (h : (s, v, b) ∈ l) : getS l s = some v := by
  induction l with
  | nil => cases h
  | cons e l ih =>
    simp only [List.map_cons, List.nodup_cons] at hn
    unfold getS at ih ⊢
    rw [List.find?_cons]
    rcases List.mem_cons.1 h with rfl | h
    · simp
    · have : (e.1 == s) = false := beq_eq_false_iff_ne.2 (fun he => hn.1 (he ▸ List.mem_map.2 ⟨_, h, rfl⟩))
      rw [this]
      exact ih hn.2 h
end gen
/-- How many bytes all files have. -/
def used (l : FL) : Nat := (l.map fun e => (allF e.2.1).length).sum
theorem used_push (l : FL) (s : List UInt8) (f : File) (c : Nat) : used (l ++ [(s, f, c)]) = used l + (allF f).length := by simp [used]
theorem used_del (l : FL) (s : List UInt8) : used (delS l s) + (allF ((getS l s).getD ([], []))).length = used l := by
  induction l with
  | nil => rfl
  | cons e l ih =>
    obtain ⟨k, u, b⟩ := e
    show used (if k == s then l else (k, u, b) :: delS l s) + _ = _
    by_cases hk : (k == s) = true
    · rw [if_pos hk]
      have : getS ((k, u, b) :: l) s = some u := by simp [getS, hk]
      rw [this]
      simp [used]
      omega
    · have hk' : (k == s) = false := by simpa using hk
      rw [if_neg hk]
      have : getS ((k, u, b) :: l) s = getS l s := by simp [getS, hk']
      rw [this]
      have e1 : used ((k, u, b) :: delS l s) = (allF u).length + used (delS l s) := by simp [used]
      have e2 : used ((k, u, b) :: l) = (allF u).length + used l := by simp [used]
      omega
def okByte (b : UInt8) : Bool := decide (33 ≤ b.toNat ∧ b.toNat ≤ 126)
/-- May a file have that name? -/
def goodN (s : List UInt8) : Bool := decide (1 ≤ s.length ∧ s.length ≤ 32) && s.all okByte
/-- The state of a disk's map: names apart, places apart, room. -/
structure DOk (room : Nat) (l : FL) (c : Nat) : Prop where
  names : (l.map (·.1)).Nodup
  borns : (l.map (·.2.2)).Nodup
  lt : ∀ e ∈ l, e.2.2 < c
  used : used l ≤ room
  cnt : l.length ≤ 128
  good : ∀ e ∈ l, goodN e.1 = true
/-- A name is a file's, in the place of the one that it was. -/
def putD (l : FL) (s : List UInt8) (f : File) (c : Nat) : FL := delS l s ++ [(s, f, c)]
theorem DOk.del {room : Nat} {l : FL} {c : Nat} (d : DOk room l c) (s : List UInt8) : DOk room (delS l s) c := by
  have hs := del_sub l s
  have hu := used_del l s
  exact ⟨d.names.sublist (hs.map _), d.borns.sublist (hs.map _), fun e he => d.lt e (hs.subset he), by have := d.used; omega, Nat.le_trans hs.length_le d.cnt, fun e he => d.good e (hs.subset he)⟩
theorem DOk.put {room : Nat} {l : FL} {c : Nat} (d : DOk room l c) {s : List UInt8} {f : File} (hg : goodN s = true) (hu : Dsk.used (delS l s) + (allF f).length ≤ room) (hc : (delS l s).length ≤ 127) : DOk room (putD l s f c) (c + 1) := by
  have dd := d.del s
  refine ⟨?_, ?_, ?_, by unfold putD; rw [used_push]; exact hu, by unfold putD; rw [List.length_append, List.length_singleton]; omega, ?_⟩
  · unfold putD
    rw [List.map_append, List.nodup_append]
    refine ⟨dd.names, by simp, fun a ha b hb => ?_⟩
    simp only [List.map_cons, List.map_nil, List.mem_singleton] at hb
    subst hb
    intro he
    subst he
    obtain ⟨e, h1, h2⟩ := List.mem_map.1 ha
    exact ((del_names d.names e).1 h1).2 h2
  · unfold putD
    rw [List.map_append, List.nodup_append]
    refine ⟨dd.borns, by simp, fun a ha b hb => ?_⟩
    simp only [List.map_cons, List.map_nil, List.mem_singleton] at hb
    subst hb
    obtain ⟨e, h1, h2⟩ := List.mem_map.1 ha
    have := dd.lt e h1
    omega
  · intro e he
    unfold putD at he
    rcases List.mem_append.1 he with h | h
    · have := dd.lt e h; omega
    · rw [List.mem_singleton.1 h]; exact Nat.lt_succ_self c
  · intro e he
    unfold putD at he
    rcases List.mem_append.1 he with h | h
    · exact dd.good e h
    · rw [List.mem_singleton.1 h]; exact hg
theorem del_length {α : Type} {l : List (List UInt8 × α × Nat)} {s : List UInt8} (h : hasS l s = true) : (delS l s).length + 1 = l.length := by
  induction l with
  | nil => cases h
  | cons e l ih =>
    obtain ⟨k, u, b⟩ := e
    show (if k == s then l else (k, u, b) :: delS l s).length + 1 = _
    by_cases hk : (k == s) = true
    · rw [if_pos hk]; rfl
    · rw [if_neg hk]
      have : hasS l s = true := by
        have hk' : (k == s) = false := by simpa using hk
        simpa [hasS, hk'] using h
      have := ih this
      simp only [List.length_cons]
      omega
/-! What a disk answers: a number, and its files then. -/
def openE (l : FL) (s : List UInt8) (more : List (List UInt8)) : Int := if !(goodN s && more.all goodN) then 2 else if hasS l s then 0 else 6
def fileOf (l : FL) (s : List UInt8) : File := (getS l s).getD ([], [])
def fullB (room : Nat) (l : FL) (s : List UInt8) (b : List UInt8) : Bool := (!hasS l s && decide (128 ≤ l.length)) || decide (room < used l + b.length)
def appE (room : Nat) (l : FL) (s : List UInt8) (b : List UInt8) : Int := if !goodN s then 2 else if fullB room l s b then 5 else 0
def appL (room : Nat) (l : FL) (c : Nat) (s : List UInt8) (b : List UInt8) : FL := if appE room l s b = 0 then putD l s ((fileOf l s).1, (fileOf l s).2 ++ b) c else l
def appC (room : Nat) (l : FL) (c : Nat) (s : List UInt8) (b : List UInt8) : Nat := if appE room l s b = 0 then c + 1 else c
theorem DOk.app {room : Nat} {l : FL} {c : Nat} (d : DOk room l c) (s b : List UInt8) : DOk room (appL room l c s b) (appC room l c s b) := by
  unfold appL appC
  by_cases he : appE room l s b = 0
  · rw [if_pos he, if_pos he]
    have hg : goodN s = true := by
      cases hg : goodN s with
      | true => rfl
      | false => unfold appE at he; rw [hg] at he; simp at he
    have hf : fullB room l s b = false := by
      cases hf : fullB room l s b with
      | false => rfl
      | true => unfold appE at he; rw [hg, hf] at he; simp at he
    unfold fullB at hf
    simp only [Bool.or_eq_false_iff, decide_eq_false_iff_not, Bool.and_eq_false_iff, Bool.not_eq_false'] at hf
    have hu := used_del l s
    refine d.put hg ?_ ?_
    · have : (allF ((fileOf l s).1, (fileOf l s).2 ++ b)).length = (allF (fileOf l s)).length + b.length := by simp [allF]; omega
      rw [this]
      unfold fileOf
      omega
    · cases hh : hasS l s with
      | true => have := del_length hh; have := d.cnt; omega
      | false =>
        rw [del_none hh]
        rcases hf.1 with h1 | h1
        · rw [hh] at h1; cases h1
        · omega
  · rw [if_neg he, if_neg he]; exact d
end Go.Dsk

/-
  CRC-32C, in plain Lean: registers, runs, linearity. No program is in sight.
-/
namespace Go.Crc
open Go Go.Eng

abbrev W := BitVec 32
def poly : W := 0x82f63b78#32
/-- One bit. -/
def fall (r : W) : W := (r >>> 1) ^^^ (if r.getLsbD 0 then poly else 0#32)
def it {α : Type} (f : α → α) : Nat → α → α
  | 0, x => x
  | n + 1, x => it f n (f x)
def step8 (r : W) : W := it fall 8 r
def ofB (b : UInt8) : W := BitVec.ofNat 32 b.toNat
def feed (r : W) (b : UInt8) : W := step8 (r ^^^ ofB b)
def feeds (r : W) (l : List UInt8) : W := l.foldl feed r
def more (s : W) (l : List UInt8) : W := ~~~ feeds (~~~ s) l
def sum (l : List UInt8) : W := more 0#32 l

def Lin (L : W → W) : Prop := ∀ a b, L (a ^^^ b) = L a ^^^ L b
theorem Lin.zero {L : W → W} (h : Lin L) : L 0#32 = 0#32 := by
  have h1 := h 0#32 0#32
  have h2 : (0#32 : W) ^^^ 0#32 = 0#32 := by simp
  rw [h2] at h1
  have h3 : L 0#32 ^^^ L 0#32 = 0#32 := by simp
  rw [h3] at h1
  exact h1
theorem lin_fall : Lin fall := by
  intro a b
  apply BitVec.eq_of_getLsbD_eq
  intro i hi
  simp only [fall, BitVec.getLsbD_xor, BitVec.getLsbD_ushiftRight]
  cases ha : a.getLsbD 0 <;> cases hb : b.getLsbD 0 <;> simp <;> cases a.getLsbD (1 + i) <;> cases b.getLsbD (1 + i) <;> cases poly.getLsbD i <;> rfl
theorem Lin.it {L : W → W} (h : Lin L) : ∀ n, Lin (it L n)
  | 0 => fun _ _ => rfl
  | n + 1 => fun a b => by
    simp only [Crc.it]
    rw [h a b]
    exact Lin.it h n _ _
theorem lin_step8 : Lin step8 := lin_fall.it 8
theorem Lin.comp {L M : W → W} (h : Lin L) (k : Lin M) : Lin (fun x => L (M x)) := fun a b => by simp only [k a b, h (M a) (M b)]

theorem it_add {α : Type} (f : α → α) : ∀ m n x, it f (m + n) x = it f n (it f m x)
  | 0, n, x => by simp [it]
  | m + 1, n, x => by
    rw [show m + 1 + n = (m + n) + 1 from by omega]
    simp only [it]
    exact it_add f m n (f x)
theorem it_succ {α : Type} (f : α → α) (n : Nat) (x : α) : it f (n + 1) x = f (it f n x) := it_add f n 1 x
theorem it_dbl {α : Type} (f : α → α) : ∀ n x, it (fun y => f (f y)) n x = it f (2 * n) x
  | 0, x => rfl
  | n + 1, x => by
    rw [show 2 * (n + 1) = 2 * n + 1 + 1 from by omega]
    simp only [it]
    exact it_dbl f n _
theorem it_odd {α : Type} (f : α → α) (n : Nat) (x : α) (h : n % 2 = 1) : it f n x = it (fun y => f (f y)) (n / 2) (f x) := by
  rw [it_dbl]
  have : n = 2 * (n / 2) + 1 := by omega
  rw [show it f n x = it f (2 * (n / 2) + 1) x from by rw [← this]]
  rfl
theorem it_even {α : Type} (f : α → α) (n : Nat) (x : α) (h : n % 2 = 0) : it f n x = it (fun y => f (f y)) (n / 2) x := by
  rw [it_dbl]
  congr 1
  omega

/-! The bytes of a register. -/
def byteOf (r : W) (k : Nat) : Nat := (r.toNat / 2 ^ (8 * k)) % 256
/-- The register of which byte k / 256 alone is k % 256. -/
def ent (k : Nat) : W := BitVec.ofNat 32 (k % 256) <<< (8 * (k / 256))
theorem ent_get (b a i : Nat) (hb : b < 256) (ha : a < 4) (hi : i < 32) : (ent (a * 256 + b)).getLsbD i = (decide (8 * a ≤ i) && b.testBit (i - 8 * a)) := by
  have h1 : (a * 256 + b) % 256 = b := by omega
  have h2 : (a * 256 + b) / 256 = a := by omega
  simp only [ent, h1, h2, BitVec.getLsbD_shiftLeft, BitVec.getLsbD_ofNat]
  by_cases h3 : 8 * a ≤ i
  · have h4 : ¬ i < 8 * a := by omega
    have h5 : i - 8 * a < 32 := by omega
    simp [hi, h3, h4, h5]
  · have h4 : i < 8 * a := by omega
    simp [h3, h4]
theorem testBit_byteOf (r : W) (k i : Nat) : (byteOf r k).testBit i = (decide (i < 8) && r.getLsbD (8 * k + i)) := by
  unfold byteOf
  rw [show (256 : Nat) = 2 ^ 8 from rfl, Nat.testBit_mod_two_pow, ← Nat.shiftRight_eq_div_pow, Nat.testBit_shiftRight]
  rfl
theorem byteOf_lt (r : W) (k : Nat) : byteOf r k < 256 := Nat.mod_lt _ (by omega)
theorem bytes_xor (r : W) : r = ent (0 * 256 + byteOf r 0) ^^^ ent (1 * 256 + byteOf r 1) ^^^ ent (2 * 256 + byteOf r 2) ^^^ ent (3 * 256 + byteOf r 3) := by
  apply BitVec.eq_of_getLsbD_eq
  intro i hi
  simp only [BitVec.getLsbD_xor]
  rw [ent_get _ 0 i (byteOf_lt r 0) (by omega) hi, ent_get _ 1 i (byteOf_lt r 1) (by omega) hi, ent_get _ 2 i (byteOf_lt r 2) (by omega) hi, ent_get _ 3 i (byteOf_lt r 3) (by omega) hi]
  simp only [testBit_byteOf]
  by_cases h1 : i < 8
  · have e1 : ¬ 8 ≤ i := by omega
    have e2 : ¬ 16 ≤ i := by omega
    have e3 : ¬ 24 ≤ i := by omega
    simp [h1, e1, e2, e3]
  · by_cases h2 : i < 16
    · have e1 : 8 ≤ i := by omega
      have e2 : ¬ 16 ≤ i := by omega
      have e3 : ¬ 24 ≤ i := by omega
      have e4 : i - 8 < 8 := by omega
      have e5 : 8 + (i - 8) = i := by omega
      simp [h1, e1, e2, e3, e4, e5]
    · by_cases h3 : i < 24
      · have e1 : 8 ≤ i := by omega
        have e2 : 16 ≤ i := by omega
        have e3 : ¬ 24 ≤ i := by omega
        have e4 : ¬ i - 8 < 8 := by omega
        have e5 : i - 16 < 8 := by omega
        have e6 : 16 + (i - 16) = i := by omega
        simp [h1, e1, e2, e3, e4, e5, e6]
      · have e1 : 8 ≤ i := by omega
        have e2 : 16 ≤ i := by omega
        have e3 : 24 ≤ i := by omega
        have e4 : ¬ i - 8 < 8 := by omega
        have e5 : ¬ i - 16 < 8 := by omega
        have e6 : i - 24 < 8 := by omega
        have e7 : 24 + (i - 24) = i := by omega
        simp [h1, e1, e2, e3, e4, e5, e6, e7]
theorem Lin.bytes {L : W → W} (h : Lin L) (r : W) : L r = L (ent (0 * 256 + byteOf r 0)) ^^^ L (ent (1 * 256 + byteOf r 1)) ^^^ L (ent (2 * 256 + byteOf r 2)) ^^^ L (ent (3 * 256 + byteOf r 3)) := by
  rw [← h, ← h, ← h, ← bytes_xor]

/-- A register whose low bits are noughts falls without a feedback. -/
theorem fall_even (r : W) (h : r.getLsbD 0 = false) : fall r = r >>> 1 := by
  unfold fall
  rw [h]
  simp
theorem it_fall_shift (r : W) : ∀ n, (∀ i, i < n → r.getLsbD i = false) → it fall n r = r >>> n
  | 0, _ => by simp [it]
  | n + 1, h => by
    have h1 := it_add fall n 1 r
    rw [h1, it_fall_shift r n (fun i hi => h i (by omega))]
    simp only [it]
    rw [fall_even]
    · rw [BitVec.shiftRight_add]
    · rw [BitVec.getLsbD_ushiftRight]
      simpa using h n (by omega)
theorem step8_shift (r : W) (h : ∀ i, i < 8 → r.getLsbD i = false) : step8 r = r >>> 8 := it_fall_shift r 8 h

/-- A table's row: one byte at once. -/
theorem step8_byte (s : W) : step8 s = step8 (ent (byteOf s 0)) ^^^ (s >>> 8) := by
  have hx : s = ent (byteOf s 0) ^^^ ((s >>> 8) <<< 8) := by
    apply BitVec.eq_of_getLsbD_eq
    intro i hi
    have := ent_get (byteOf s 0) 0 i (byteOf_lt s 0) (by omega) hi
    simp only [Nat.zero_mul, Nat.zero_add, Nat.mul_zero, Nat.zero_le, decide_true, Bool.true_and, Nat.sub_zero] at this
    simp only [BitVec.getLsbD_xor, this, testBit_byteOf, BitVec.getLsbD_shiftLeft, BitVec.getLsbD_ushiftRight]
    by_cases h1 : i < 8
    · simp [h1]
    · have e : 8 + (i - 8) = i := by omega
      simp [h1, hi, e]
  have h2 : step8 ((s >>> 8) <<< 8) = s >>> 8 := by
    rw [step8_shift]
    · apply BitVec.eq_of_getLsbD_eq
      intro i hi
      simp only [BitVec.getLsbD_ushiftRight, BitVec.getLsbD_shiftLeft]
      by_cases h1 : 8 + i < 32
      · have e : 8 + i - 8 = i := by omega
        simp [h1]
      · have : s.getLsbD (8 + i) = false := BitVec.getLsbD_of_ge s _ (by omega)
        simp [h1, this]
    · intro i hi
      simp only [BitVec.getLsbD_shiftLeft]
      simp [hi]
  calc step8 s = step8 (ent (byteOf s 0) ^^^ ((s >>> 8) <<< 8)) := by rw [← hx]
    _ = step8 (ent (byteOf s 0)) ^^^ step8 ((s >>> 8) <<< 8) := lin_step8 _ _
    _ = step8 (ent (byteOf s 0)) ^^^ (s >>> 8) := by rw [h2]
/-- The run of one nought, at a byte that is not the lowest. -/
theorem step8_ent (b a : Nat) (hb : b < 256) (ha : a < 3) : step8 (ent ((a + 1) * 256 + b)) = ent (a * 256 + b) := by
  rw [step8_shift]
  · apply BitVec.eq_of_getLsbD_eq
    intro i hi
    rw [BitVec.getLsbD_ushiftRight, ent_get b a i hb (by omega) hi]
    by_cases h1 : 8 + i < 32
    · rw [ent_get b (a + 1) _ hb (by omega) h1]
      have e1 : (8 * (a + 1) ≤ 8 + i) ↔ (8 * a ≤ i) := by omega
      have e2 : 8 + i - 8 * (a + 1) = i - 8 * a := by omega
      simp [e1, e2]
    · rw [BitVec.getLsbD_of_ge _ _ (by omega)]
      have h2 : b.testBit (i - 8 * a) = false := Nat.testBit_lt_two_pow (Nat.lt_of_lt_of_le hb (by
        have : (256 : Nat) = 2 ^ 8 := rfl
        rw [this]
        exact Nat.pow_le_pow_right (by omega) (by omega)))
      simp [h2]
  · intro i hi
    rw [ent_get b (a + 1) i hb (by omega) (by omega)]
    have : ¬ 8 * (a + 1) ≤ i := by omega
    simp [this]

theorem feeds_append (r : W) (a b : List UInt8) : feeds r (a ++ b) = feeds (feeds r a) b := by simp [feeds]
theorem more_append (s : W) (a b : List UInt8) : more s (a ++ b) = more (more s a) b := by simp [more, feeds_append]
theorem more_sum (a b : List UInt8) : more (sum a) b = sum (a ++ b) := (more_append _ _ _).symm
theorem feeds_zeros : ∀ (n : Nat) (r : W), feeds r (List.replicate n 0) = it step8 n r
  | 0, r => rfl
  | n + 1, r => by
    have : feed r 0 = step8 r := by simp [feed, ofB]
    simp only [List.replicate_succ, feeds, List.foldl_cons, this, it]
    exact feeds_zeros n _
/-- What a register makes of bytes: its own run, and theirs. -/
theorem feeds_split : ∀ (l : List UInt8) (r s : W), feeds (r ^^^ s) l = it step8 l.length r ^^^ feeds s l
  | [], r, s => rfl
  | b :: l, r, s => by
    simp only [feeds, List.foldl_cons, List.length_cons, it]
    have h : feed (r ^^^ s) b = step8 r ^^^ feed s b := by
      unfold feed
      rw [BitVec.xor_assoc, lin_step8]
    rw [h]
    exact feeds_split l _ _
theorem not_xor (z : W) : ~~~ z = z ^^^ ~~~ (0#32 : W) := by
  have : ∀ o : W, o = 0#32 → ~~~ z = z ^^^ ~~~ o := by
    intro o ho
    apply BitVec.eq_of_getLsbD_eq
    intro i hi
    rw [BitVec.getLsbD_not, BitVec.getLsbD_xor, BitVec.getLsbD_not, ho, BitVec.getLsbD_zero]
    simp [hi]
  exact this _ rfl
theorem sum_append (a b : List UInt8) : sum (a ++ b) = it step8 b.length (sum a) ^^^ sum b := by
  rw [← more_sum]
  have h1 : more (sum a) b = ~~~ feeds (sum a ^^^ ~~~ (0#32 : W)) b := by rw [← not_xor]; rfl
  rw [h1, feeds_split]
  have h2 : sum b = ~~~ feeds (~~~ (0#32 : W)) b := rfl
  rw [h2, not_xor (_ ^^^ _), not_xor (feeds _ b), BitVec.xor_assoc]
end Go.Crc

/-
  The engine's operations on registers of 32 bits.
-/
namespace Go.Crc
open Go Go.Eng

def u32 (x : W) : Value := .int .u32 (x.toNat : Int)

variable {P : Program} {ρ : Operand → Value} {h : Heap} {K : Value → Heap → Prop} {dst : Option Tmp} {ty : TypeId} {pos : String} {aft : Array Edge} {g : Option (Nat × Bool)} {t t' : TypeId} {x y : Operand}

theorem ofInt_toNat (a : W) : BitVec.ofInt 32 (a.toNat : Int) = a := by
  apply BitVec.eq_of_toNat_eq
  simp
theorem wrap_toNat (a : W) : IntKind.u32.wrap (a.toNat : Int) = (a.toNat : Int) := by
  rw [IntKind.wrap_u32]
  have := a.isLt
  omega
theorem op_x32 {a b : W} (hx : ρ x = u32 a) (hy : ρ y = u32 b) (kk : K (u32 (a ^^^ b)) h) : AOp P ⟨dst, .binOp .xor t x y t', ty, pos, aft, g⟩ ρ h K :=
  op_int hx hy (v := u32 (a ^^^ b)) (by
    simp only [binI, if_true]
    show some (Value.int .u32 (IntKind.u32.wrap ((BitVec.ofInt 32 (a.toNat : Int) ^^^ BitVec.ofInt 32 (b.toNat : Int)).toNat : Int))) = _
    rw [ofInt_toNat, ofInt_toNat, wrap_toNat]; rfl) kk
theorem op_x32c {a : W} (b : W) {c : Int} (hc : c = (b.toNat : Int)) (hx : ρ x = u32 a) (hy : ρ y = .int .u32 c) (kk : K (u32 (a ^^^ b)) h) : AOp P ⟨dst, .binOp .xor t x y t', ty, pos, aft, g⟩ ρ h K := by
  subst hc
  exact op_x32 hx hy kk
theorem op_o32c {a : W} (b : W) {c : Int} (hc : c = (b.toNat : Int)) (hx : ρ x = u32 a) (hy : ρ y = .int .u32 c) (kk : K (u32 (a ||| b)) h) : AOp P ⟨dst, .binOp .or t x y t', ty, pos, aft, g⟩ ρ h K := by
  subst hc
  exact op_int hx hy (v := u32 (a ||| b)) (by
    simp only [binI, if_true]
    show some (Value.int .u32 (IntKind.u32.wrap ((BitVec.ofInt 32 (a.toNat : Int) ||| BitVec.ofInt 32 (b.toNat : Int)).toNat : Int))) = _
    rw [ofInt_toNat, ofInt_toNat, wrap_toNat]; rfl) kk
theorem op_q32 {a : W} (hx : ρ x = u32 a) (hy : ρ y = .int .u32 2) (kk : K (u32 (a >>> 1)) h) : AOp P ⟨dst, .binOp .quo t x y t', ty, pos, aft, g⟩ ρ h K :=
  op_int hx hy (v := u32 (a >>> 1)) (by
    simp only [binI, if_true]
    rw [if_neg (by omega), Int.tdiv_eq_ediv_of_nonneg (by omega), IntKind.wrap_u32]
    simp only [u32, BitVec.toNat_ushiftRight, Nat.shiftRight_eq_div_pow]
    have := a.isLt
    congr 2
    omega) kk
theorem op_s32 {a : W} {k : IntKind} (n : Nat) {c : Int} (hc : c = (n : Int)) (hn : n ≤ 32) (hx : ρ x = u32 a) (hy : ρ y = .int k c) (kk : K (u32 (a >>> n)) h) : AOp P ⟨dst, .binOp .shr t x y t', ty, pos, aft, g⟩ ρ h K := by
  subst hc
  exact op_int hx hy (v := u32 (a >>> n)) (by
    simp only [binI]
    rw [if_neg (by omega)]
    simp only [u32, BitVec.toNat_ushiftRight, Nat.shiftRight_eq_div_pow]
    have hm : min (n : Int).toNat IntKind.u32.bits = n := by
      have : IntKind.u32.bits = 32 := rfl
      omega
    rw [hm, Int.fdiv_eq_ediv_of_nonneg _ (by exact Int.le_of_lt (Int.pow_pos (by omega)))]
    congr 2) kk
theorem op_c32 {a : W} (hx : ρ x = u32 a) (kk : K (u32 (~~~ a)) h) : AOp P ⟨dst, .unOp .xor t x, ty, pos, aft, g⟩ ρ h K :=
  op_com hx (by
    have hm : BitVec.ofInt IntKind.u32.bits (if IntKind.u32.signed then -1 else IntKind.u32.max) = BitVec.allOnes 32 := rfl
    have : (BitVec.ofInt IntKind.u32.bits (if IntKind.u32.signed then -1 else IntKind.u32.max) ^^^ BitVec.ofInt IntKind.u32.bits (a.toNat : Int)).toNat = (~~~ a).toNat := by
      rw [hm]
      show (BitVec.allOnes 32 ^^^ BitVec.ofInt 32 (a.toNat : Int)).toNat = _
      rw [ofInt_toNat, BitVec.allOnes_xor]
    rw [this, wrap_toNat]
    exact kk)
theorem op_cb32 [TyD P t (.int .u32)] [TyD P t' (.int .u8)] {a : W} (hx : ρ x = u32 a) (kk : K (.int .u8 (byteOf a 0 : Nat)) h) : AOp P ⟨dst, .convert t t' x, ty, pos, aft, g⟩ ρ h K :=
  op_convI (ks := .u32) hx (by
    have : IntKind.u8.wrap (a.toNat : Int) = (byteOf a 0 : Nat) := by
      rw [IntKind.wrap_u8]
      simp [byteOf]
    rw [this]; exact kk)
theorem op_bc32 [TyD P t (.int .u8)] [TyD P t' (.int .u32)] {b : UInt8} (hx : ρ x = .int .u8 (b.toNat : Int)) (kk : K (u32 (ofB b)) h) : AOp P ⟨dst, .convert t t' x, ty, pos, aft, g⟩ ρ h K :=
  op_convI (ks := .u8) hx (by
    have : IntKind.u32.wrap (b.toNat : Int) = ((ofB b).toNat : Int) := by
      rw [IntKind.wrap_u32]
      have := b.toNat_lt
      simp only [ofB, BitVec.toNat_ofNat]
      omega
    rw [this]; exact kk)
theorem op_ic32 [TyD P t (.int .i64)] [TyD P t' (.int .u32)] {a : Int} (hx : ρ x = .int .i64 a) (kk : K (u32 (BitVec.ofInt 32 a)) h) : AOp P ⟨dst, .convert t t' x, ty, pos, aft, g⟩ ρ h K :=
  op_convI (ks := .i64) hx (by
    have : IntKind.u32.wrap a = ((BitVec.ofInt 32 a).toNat : Int) := by
      rw [IntKind.wrap_u32, BitVec.toNat_ofInt]
      omega
    rw [this]; exact kk)
theorem op_shl32 {a : W} {k : IntKind} {c : Int} (n : Nat) (hc : c = (n : Int)) (hn : n ≤ 32) (hx : ρ x = u32 a) (hy : ρ y = .int k c) (kk : K (u32 (a <<< n)) h) : AOp P ⟨dst, .binOp .shl t x y t', ty, pos, aft, g⟩ ρ h K := by
  subst hc
  exact op_int hx hy (v := u32 (a <<< n)) (by
    simp only [binI]
    rw [if_neg (by omega)]
    have hm : min (n : Int).toNat IntKind.u32.bits = n := by
      have : IntKind.u32.bits = 32 := rfl
      omega
    rw [hm, IntKind.wrap_u32]
    simp only [u32, BitVec.toNat_shiftLeft, Nat.shiftLeft_eq]
    congr 2) kk
theorem u32_inj {a b : W} : u32 a = u32 b ↔ a = b := by
  simp only [u32, Value.int.injEq, true_and, Int.natCast_inj]
  exact BitVec.toNat_inj
theorem op_e32 {a b : W} (hx : ρ x = u32 a) (hy : ρ y = u32 b) (kk : K (.bool (decide (a = b))) h) : AOp P ⟨dst, .binOp .eql t x y t', ty, pos, aft, g⟩ ρ h K :=
  op_int hx hy (v := .bool (decide (a = b))) (by
    simp only [binI, if_true]
    congr 2
    simp only [Int.natCast_inj, BitVec.toNat_inj]) kk
theorem op_n32 {a b : W} (hx : ρ x = u32 a) (hy : ρ y = u32 b) (kk : K (.bool (decide (a ≠ b))) h) : AOp P ⟨dst, .binOp .neq t x y t', ty, pos, aft, g⟩ ρ h K :=
  op_int hx hy (v := .bool (decide (a ≠ b))) (by
    simp only [binI, if_true]
    congr 2
    simp only [ne_eq, Int.natCast_inj, BitVec.toNat_inj]) kk
theorem op_e32t {a : W} {c : Int} (hx : ρ x = u32 a) (hy : ρ y = .int .u32 c) (he : (a.toNat : Int) = c) (kk : K (.bool true) h) : AOp P ⟨dst, .binOp .eql t x y t', ty, pos, aft, g⟩ ρ h K :=
  op_int hx hy (v := .bool true) (by
    simp only [binI, if_true, he]
    simp) kk
theorem op_e32T {a b : W} (hx : ρ x = u32 a) (hy : ρ y = u32 b) (he : a = b) (kk : K (.bool true) h) : AOp P ⟨dst, .binOp .eql t x y t', ty, pos, aft, g⟩ ρ h K := op_e32 hx hy (by rw [decide_eq_true he]; exact kk)
theorem op_n32F {a b : W} (hx : ρ x = u32 a) (hy : ρ y = u32 b) (he : a = b) (kk : K (.bool false) h) : AOp P ⟨dst, .binOp .neq t x y t', ty, pos, aft, g⟩ ρ h K := op_n32 hx hy (by rw [decide_eq_false (fun hn => hn he)]; exact kk)
theorem fall_odd (a : W) (hb : a.getLsbD 0 = true) : fall a = (a >>> 1) ^^^ poly := by unfold fall; rw [hb]; rfl
theorem low_bit (a : W) : a.getLsbD 0 = decide (a.toNat % 2 = 1) := by
  simp only [BitVec.getLsbD, Nat.testBit_zero]

/-- The cells of a table. -/
def tabF (f : Nat → W) : List Value := (List.range 1024).map fun k => u32 (f k)
theorem tabF_length (f : Nat → W) : (tabF f).length = 1024 := by simp [tabF]
theorem tabF_get (f : Nat → W) (k : Nat) (hk : k < 1024) : (tabF f)[k]? = some (u32 (f k)) := by simp [tabF, hk]
theorem tabF_set (f : Nat → W) (i : Nat) (v : W) : (tabF f).set i (u32 v) = tabF fun k => if k = i then v else f k := by
  apply List.ext_getElem?
  intro k
  by_cases hk : k < 1024
  · rw [tabF_get _ k hk, List.getElem?_set, tabF_length]
    by_cases hi : i = k
    · subst hi; simp [hk]
    · rw [if_neg hi, tabF_get _ k hk, if_neg (fun e => hi e.symm)]
  · rw [List.getElem?_eq_none (by simp [tabF_length]; omega), List.getElem?_eq_none (by simp [tabF_length]; omega)]
theorem tabF_congr {f f' : Nat → W} (hf : ∀ k, k < 1024 → f k = f' k) : tabF f = tabF f' := by
  apply List.ext_getElem?
  intro k
  by_cases hk : k < 1024
  · rw [tabF_get _ k hk, tabF_get _ k hk, hf k hk]
  · rw [List.getElem?_eq_none (by simp [tabF_length]; omega), List.getElem?_eq_none (by simp [tabF_length]; omega)]
theorem tabF_one (f : Nat → W) : (tabF f).all oneB = true := List.all_eq_true.2 (by intro v hv; obtain ⟨k, _, rfl⟩ := List.mem_map.1 hv; rfl)
theorem tabF_scalar (f : Nat → W) : (tabF f).all scalar = true := List.all_eq_true.2 (by intro v hv; obtain ⟨k, _, rfl⟩ := List.mem_map.1 hv; rfl)
attribute [irreducible] tabF
/-- The table of a run. -/
def tab (L : W → W) : List Value := tabF fun k => L (ent k)
theorem tab_get (L : W → W) (a b : Nat) (ha : a < 4) (hb : b < 256) : (tab L)[a * 256 + b]? = some (u32 (L (ent (a * 256 + b)))) := tabF_get _ _ (by omega)
end Go.Crc

/-
  Disks: is there one; names; a file's bytes.
-/
namespace Go.Proofs.Ytiebmncpdnbcjaa
open Go Go.Eng Go.Dsk
attribute [local irreducible] AWp AL DAL AOp

instance : TyD Try.prog 3 (.int .i64) := ⟨Try.underlying3⟩
instance : TyD Try.prog 21 (.int .i32) := ⟨Try.underlying21⟩
instance : TyD Try.prog 5 (.int .u8) := ⟨Try.underlying5⟩
instance : TyD Try.prog 4 .bool := ⟨Try.underlying4⟩
instance : TyD Try.prog 9 .string := ⟨Try.underlying9⟩
instance : TyD Try.prog 106 (.int .u64) := ⟨Try.underlying106⟩
instance : TyD Try.prog 32 (.int .i64) := ⟨Try.underlying32⟩
instance : TyD Try.prog 23 (.slice 5) := ⟨Try.underlying23⟩
instance : TyD Try.prog 48 (.slice 9) := ⟨Try.underlying48⟩
instance : TyD Try.prog 78 (.map 9 86) := ⟨Try.underlying78⟩
instance : TyD Try.prog 26 (.pointer 80) := ⟨Try.underlying26⟩
abbrev fd (n : String) (t o : Nat) (p : String) (b : Nat) : Field := { name := n, type := t, offset := o, embedded := false, tag := "", pkgPath := p, byteOffset := b }
instance : TyD Try.prog 80 (.struct #[fd "room" 3 0 "hectare/disk" 0, fd "used" 3 1 "hectare/disk" 8, fd "files" 78 2 "hectare/disk" 16]) := ⟨Try.underlying80⟩
instance : TyD Try.prog 86 (.struct #[fd "sure" 9 0 "hectare/disk" 0, fd "loose" 9 1 "hectare/disk" 16]) := ⟨Try.underlying86⟩
instance : TyI Try.prog 3 1 8 (.int .i64 0) := ⟨info_of (by kernel_rfl), rfl, rfl⟩
instance : TyI Try.prog 5 1 1 (.int .u8 0) := ⟨info_of (by kernel_rfl), rfl, rfl⟩
instance : TyI Try.prog 9 1 16 (.string ⟨#[]⟩) := ⟨info_of (by kernel_rfl), rfl, rfl⟩
instance : TyI Try.prog 4 1 1 (.bool false) := ⟨info_of (by kernel_rfl), rfl, rfl⟩
instance : TyI Try.prog 32 1 8 (.int .i64 0) := ⟨info_of (by kernel_rfl), rfl, rfl⟩
instance : TyI Try.prog 23 1 24 (.slice none 0 0) := ⟨info_of (by kernel_rfl), rfl, rfl⟩
instance : TyI Try.prog 48 1 24 (.slice none 0 0) := ⟨info_of (by kernel_rfl), rfl, rfl⟩
instance : TyI Try.prog 26 1 8 (.pointer none) := ⟨info_of (by kernel_rfl), rfl, rfl⟩
instance : TyI Try.prog 78 1 8 (.map none) := ⟨info_of (by kernel_rfl), rfl, rfl⟩
instance : TyI Try.prog 86 2 32 (.agg #[.string ⟨#[]⟩, .string ⟨#[]⟩]) := ⟨info_of (by kernel_rfl), rfl, rfl⟩
instance : TyI Try.prog 80 3 24 (.agg #[.int .i64 0, .int .i64 0, .map none]) := ⟨info_of (by kernel_rfl), rfl, rfl⟩
instance : FAd Try.prog 80 0 0 := FAd.mk' (ft := 3) Try.underlying80 rfl rfl rfl rfl
instance : FAd Try.prog 80 1 1 := FAd.mk' (ft := 3) Try.underlying80 rfl rfl rfl rfl
instance : FAd Try.prog 80 2 2 := FAd.mk' (ft := 78) Try.underlying80 rfl rfl rfl rfl
instance : FAd Try.prog 86 0 0 := FAd.mk' (ft := 9) Try.underlying86 rfl rfl rfl rfl
instance : FAd Try.prog 86 1 1 := FAd.mk' (ft := 9) Try.underlying86 rfl rfl rfl rfl
instance : FnC Try.prog 15 := ⟨Try.f15, Try.func15, by kernel_rfl, by kernel_rfl⟩
instance : FnC Try.prog 50 := ⟨Try.f50, Try.func50, by kernel_rfl, by kernel_rfl⟩
instance : FnC Try.prog 57 := ⟨Try.f57, Try.func57, by kernel_rfl, by kernel_rfl⟩
instance : FnC Try.prog 63 := ⟨Try.f63, Try.func63, by kernel_rfl, by kernel_rfl⟩
instance : FnC Try.prog 64 := ⟨Try.f64, Try.func64, by kernel_rfl, by kernel_rfl⟩
instance : FnC Try.prog 67 := ⟨Try.f67, Try.func67, by kernel_rfl, by kernel_rfl⟩
instance : FnC Try.prog 69 := ⟨Try.f69, Try.func69, by kernel_rfl, by kernel_rfl⟩
instance : FnC Try.prog 45 := ⟨Try.f45, Try.func45, by kernel_rfl, by kernel_rfl⟩


theorem num_c (a : Int) (h : Heap) : ACalls Try.prog 15 [.int .i64 a] h fun u h' => u = .int .i64 a ∧ h' = h := by
  refine ACalls.body Try.func15 rfl rfl ?_
  repeat (first | refine AL.nil ?_ | refine AWp.seq ?_ | refine AWp.region ?_ | refine AWp.ret ?_ | refine AL.set rfl rfl (op_moveI rfl ?_) | refine AL.set rfl rfl (op_assignI rfl ?_))
  exact ⟨_, ResV.tmp rfl, rfl, rfl⟩
abbrev dskB (room used : Int) (m : Option Nat) : Blk := ⟨[.int .i64 room, .int .i64 used, .map m], 80, true⟩
abbrev ptr (i : Nat) : Value := .pointer (some ⟨i, 0, none⟩)
theorem on_c (i : Nat) (room used : Int) (m : Option Nat) (h : Heap) (hi : h.get i = some (dskB room used m)) : ACalls Try.prog 50 [ptr i] h fun u h' => u = .bool m.isSome ∧ h' = h := by
  refine ACalls.body Try.func50 rfl rfl ?_
  repeat (first | refine AL.nil ?_ | refine AWp.seq ?_ | refine AWp.region ?_ | refine AWp.ret ?_ | refine AL.set rfl rfl (op_moveB rfl ?_) | refine AL.set rfl rfl (op_moveP rfl ?_) | refine AL.set rfl rfl (op_assignB rfl ?_) | refine AL.set rfl rfl (op_nePtrNil rfl rfl ?_) | refine AL.set rfl rfl (op_nilCheck rfl ?_) | refine AL.set rfl rfl (op_fa rfl ?_) | refine AL.set rfl rfl (op_load rfl rfl hi rfl ?_) | refine AL.set rfl rfl (op_neMapNil rfl rfl ?_) | refine AL.set rfl rfl (op_pick rfl rfl ?_))
  exact ⟨_, ResV.tmp rfl, rfl, rfl⟩
theorem on_nil (h : Heap) : ACalls Try.prog 50 [.pointer none] h fun u h' => u = .bool false ∧ h' = h := by
  refine ACalls.body Try.func50 rfl rfl ?_
  repeat (first | refine AL.nil ?_ | refine AL.skip rfl rfl ?_ | refine AWp.seq ?_ | refine AWp.region ?_ | refine AWp.ret ?_ | refine AL.set rfl rfl (op_moveB rfl ?_) | refine AL.set rfl rfl (op_moveP rfl ?_) | refine AL.set rfl rfl (op_assignB rfl ?_) | refine AL.set rfl rfl (op_nePtrNil rfl rfl ?_) | refine AL.set rfl rfl (op_pick (v := .bool false) rfl rfl ?_))
  exact ⟨_, ResV.tmp rfl, rfl, rfl⟩
theorem bad_c (c : Nat) (h : Heap) (hc : c ≤ 2147483647) : ACalls Try.prog 63 [.int .i32 (c : Nat)] h fun u h' => u = .bool (decide (c < 33 ∨ 126 < c)) ∧ h' = h := by
  refine ACalls.body Try.func63 rfl rfl ?_
  by_cases h1 : c < 33
  · repeat (first | refine AL.nil ?_ | refine AL.skip rfl rfl ?_ | refine AWp.seq ?_ | refine AWp.region ?_ | refine AWp.ret ?_ | refine AL.set rfl rfl (op_moveI rfl ?_) | refine AL.set rfl rfl (op_moveB rfl ?_) | refine AL.set rfl rfl (op_assignB rfl ?_) | refine AL.set rfl rfl (op_intT rfl rfl rfl (by omega) ?_) | refine AL.set rfl rfl (op_pick (v := .bool true) rfl rfl ?_))
    exact ⟨_, ResV.tmp rfl, by rw [decide_eq_true (.inl h1)]; rfl, rfl⟩
  · by_cases h2 : 126 < c
    · repeat (first | refine AL.nil ?_ | refine AWp.seq ?_ | refine AWp.region ?_ | refine AWp.ret ?_ | refine AL.set rfl rfl (op_moveI rfl ?_) | refine AL.set rfl rfl (op_moveB rfl ?_) | refine AL.set rfl rfl (op_assignB rfl ?_) | refine AL.set rfl rfl (op_intT rfl rfl rfl (by omega) ?_) | refine AL.set rfl rfl (op_intF rfl rfl rfl (by omega) ?_) | refine AL.set rfl rfl (op_pick (v := .bool true) rfl rfl ?_))
      exact ⟨_, ResV.tmp rfl, by rw [decide_eq_true (.inr h2)]; rfl, rfl⟩
    · repeat (first | refine AL.nil ?_ | refine AWp.seq ?_ | refine AWp.region ?_ | refine AWp.ret ?_ | refine AL.set rfl rfl (op_moveI rfl ?_) | refine AL.set rfl rfl (op_moveB rfl ?_) | refine AL.set rfl rfl (op_assignB rfl ?_) | refine AL.set rfl rfl (op_intF rfl rfl rfl (by omega) ?_) | refine AL.set rfl rfl (op_pick (v := .bool false) rfl rfl ?_))
      exact ⟨_, ResV.tmp rfl, by rw [decide_eq_false (by omega)]; rfl, rfl⟩
abbrev badV : Value := .func (.func 63) #[] #[]
theorem okByte_take {s : List UInt8} {p : Nat} {b : UInt8} (hp : (s.take p).all okByte = true) (hb : s[p]? = some b) (hk : okByte b = true) : (s.take (p + 1)).all okByte = true := by
  rw [List.take_add_one, hb, List.all_append, hp]
  simp [hk]
theorem all_not {s : List UInt8} {p : Nat} {b : UInt8} (hb : s[p]? = some b) (hk : okByte b = false) : s.all okByte = false := by
  cases ha : s.all okByte with
  | false => rfl
  | true =>
    have := List.all_eq_true.1 ha b (List.mem_of_getElem? hb)
    rw [hk] at this
    cases this
set_option maxHeartbeats 1000000 in
theorem indexf_c (s : List UInt8) (h : Heap) (_hl : s.length ≤ 1000000000) : ACalls Try.prog 69 [.string (bstr s), badV, .bool true] h fun u h' => ∃ z : Int, u = .int .i64 z ∧ (z = -1 ∨ 0 ≤ z) ∧ decide (0 ≤ z) = !s.all okByte ∧ h' = h := by
  refine ACalls.wf fun wf => ACalls.reset ?_
  refine ACalls.body Try.func69 rfl rfl ?_
  repeat (first | refine AL.nil ?_ | refine AWp.seq ?_ | refine AWp.region ?_ | refine AWp.block ?_ | refine AL.set rfl rfl (op_moveStr rfl ?_) | refine AL.set rfl rfl (op_assignI rfl ?_) | refine AL.set rfl rfl (op_rangeStr rfl ?_))
  refine AWp.loop (α := Nat × Heap) (fun s' => [(1, badV), (2, .bool true), (10, ptr h.next)]) (fun s' => s'.2) (fun s' => s'.1 ≤ s.length ∧ (s.take s'.1).all okByte = true ∧ s'.2.obj h.next = some (.strIter (bstr s) s'.1) ∧ Ext h s'.2 ∧ WF s'.2) (fun s' => s.length - s'.1) (0, h.allocO (.strIter (bstr s) 0))
    ⟨Nat.zero_le _, by simp, Heap.allocO_new _ _, wf.extO _, wf.allocO _⟩ (Weak.same (EW.cons rfl (EW.cons rfl (EW.cons rfl EW.nil)))) ?_
  rintro ⟨p, H⟩ ⟨hp1, hp2, hp3, hp4, hp5⟩
  replace hp1 : p ≤ s.length := hp1
  replace hp2 : (s.take p).all okByte = true := hp2
  replace hp3 : H.obj h.next = some (.strIter (bstr s) p) := hp3
  replace hp4 : Ext h H := hp4
  replace hp5 : WF H := hp5
  show AWp _ _ _ _ [(1, badV), (2, .bool true), (10, ptr h.next)] H
  repeat (first | refine AWp.seq ?_ | refine AWp.region ?_)
  refine AL.set rfl rfl (op_nextStr rfl hp3 ?_ ?_)
  · intro hge
    repeat (first | refine AL.nil ?_ | refine AWp.seq ?_ | refine AWp.region ?_ | refine AWp.condF rfl ?_ | refine AWp.ret ?_ | refine AWp.exit ?_ | refine AL.set rfl rfl (op_assignI rfl ?_) | refine AL.set rfl rfl (op_extract rfl rfl ?_))
    refine ⟨_, ResV.tmp rfl, rfl, hp4, -1, rfl, .inl rfl, ?_, rfl⟩
    have : s.take p = s := List.take_of_length_le hge
    rw [this] at hp2
    rw [hp2]
    rfl
  · intro b c d hb hlo hhi hc
    have hlt : p < s.length := (List.getElem?_eq_some_iff.1 hb).1
    have hx : Ext h (H.setO h.next (.strIter (bstr s) (p + d))) := wf.ext_setO hp4 (Nat.le_refl _) _
    have hg : (H.setO h.next (.strIter (bstr s) (p + d))).obj h.next = some (.strIter (bstr s) (p + d)) := Heap.setO_at _ _ _
    have hw : WF (H.setO h.next (.strIter (bstr s) (p + d))) := hp5.setO (hp5.ltO hp3) _
    generalize H.setO h.next (.strIter (bstr s) (p + d)) = H2 at hx hg hw ⊢
    by_cases hk : okByte b = true
    · have hk2 : 33 ≤ b.toNat ∧ b.toNat ≤ 126 := of_decide_eq_true hk
      obtain ⟨rfl, rfl⟩ := hlo (by omega)
      have cb := bad_c b.toNat H2 hc
      rw [decide_eq_false (by omega)] at cb
      repeat (first | refine AL.nil ?_ | refine AWp.seq ?_ | refine AWp.region ?_ | refine AWp.condT rfl ?_ | refine AWp.condF rfl ?_ | refine AWp.block ?_ | refine AWp.skip ?_ | refine AL.set rfl rfl (op_moveI rfl ?_) | refine AL.set rfl rfl (op_moveB rfl ?_) | refine AL.set rfl rfl (op_moveF rfl ?_) | refine AL.set rfl rfl (op_assignI rfl ?_) | refine AL.set rfl rfl (op_extract rfl rfl ?_) | refine AL.set rfl rfl (op_callS rfl rfl cb ?_) | refine AL.set rfl rfl (op_boolEq rfl rfl ?_))
      exact ⟨(p + 1, H2), ⟨by show p + 1 ≤ _; omega, okByte_take hp2 hb hk, hg, hx, hw⟩, by show s.length - (p + 1) < s.length - p; omega, Weak.same (EW.cons rfl (EW.cons rfl (EW.cons rfl EW.nil)))⟩
    · have hk2 : ¬ (33 ≤ b.toNat ∧ b.toNat ≤ 126) := fun e => hk (decide_eq_true e)
      have hcc : c < 33 ∨ 126 < c := by
        by_cases h8 : b.toNat < 128
        · obtain ⟨rfl, _⟩ := hlo h8; omega
        · have := hhi (by omega); omega
      have cb := bad_c c H2 hc
      rw [decide_eq_true hcc] at cb
      repeat (first | refine AL.nil ?_ | refine AWp.seq ?_ | refine AWp.region ?_ | refine AWp.condT rfl ?_ | refine AWp.ret ?_ | refine AWp.block ?_ | refine AWp.skip ?_ | refine AL.set rfl rfl (op_moveI rfl ?_) | refine AL.set rfl rfl (op_moveB rfl ?_) | refine AL.set rfl rfl (op_moveF rfl ?_) | refine AL.set rfl rfl (op_assignI rfl ?_) | refine AL.set rfl rfl (op_extract rfl rfl ?_) | refine AL.set rfl rfl (op_callS rfl rfl cb ?_) | refine AL.set rfl rfl (op_boolEq rfl rfl ?_))
      refine ⟨_, ResV.tmp rfl, rfl, hx, (p : Nat), rfl, .inr (by omega), ?_, rfl⟩
      rw [all_not hb (by simpa using hk)]
      exact decide_eq_true (by omega)
theorem indexF_c (s : List UInt8) (h : Heap) (hl : s.length ≤ 1000000000) : ACalls Try.prog 67 [.string (bstr s), badV] h fun u h' => ∃ z : Int, u = .int .i64 z ∧ (z = -1 ∨ 0 ≤ z) ∧ decide (0 ≤ z) = !s.all okByte ∧ h' = h := by
  refine ACalls.body Try.func67 rfl rfl ?_
  repeat (first | refine AL.nil ?_ | refine AWp.seq ?_ | refine AWp.region ?_ | refine AL.set rfl rfl (op_moveStr rfl ?_) | refine AL.set rfl rfl (op_moveF rfl ?_) | refine AL.set rfl rfl (op_assignI rfl ?_) | refine AL.set rfl rfl (op_call rfl rfl ((indexf_c s h hl).mono ?_)))
  rintro _ _ ⟨z, rfl, h1, h2, rfl⟩
  repeat (first | refine AL.nil ?_ | refine AWp.ret ?_ | refine AL.set rfl rfl (op_assignI rfl ?_))
  exact ⟨_, ResV.tmp rfl, z, rfl, h1, h2, rfl⟩
theorem containsF_c (s : List UInt8) (h : Heap) (hl : s.length ≤ 1000000000) : ACalls Try.prog 64 [.string (bstr s), badV] h fun u h' => u = .bool (!s.all okByte) ∧ h' = h := by
  refine ACalls.body Try.func64 rfl rfl ?_
  repeat (first | refine AL.nil ?_ | refine AWp.seq ?_ | refine AWp.region ?_ | refine AL.set rfl rfl (op_moveStr rfl ?_) | refine AL.set rfl rfl (op_moveF rfl ?_) | refine AL.set rfl rfl (op_assignB rfl ?_) | refine AL.set rfl rfl (op_call rfl rfl ((indexF_c s h hl).mono ?_)))
  rintro _ _ ⟨z, rfl, h1, h2, rfl⟩
  repeat (first | refine AL.nil ?_ | refine AWp.ret ?_ | refine AL.set rfl rfl (op_assignB rfl ?_) | refine AL.set rfl rfl (op_int rfl rfl rfl ?_))
  refine ⟨_, ResV.tmp rfl, ?_, rfl⟩
  rw [← h2]
  rfl
theorem good_nil {s : List UInt8} (h : s = []) : goodN s = false := by rw [h]; rfl
theorem good_long {s : List UInt8} (h : 32 < s.length) : goodN s = false := by unfold goodN; rw [decide_eq_false (by omega)]; rfl
theorem good_else {s : List UInt8} (h0 : s ≠ []) (h : ¬ 32 < s.length) : goodN s = s.all okByte := by
  have : s.length ≠ 0 := fun e => h0 (List.eq_nil_of_length_eq_zero e)
  unfold goodN
  rw [decide_eq_true (by omega)]
  rfl
set_option maxHeartbeats 1000000 in
theorem good_c (v : Value) (ll : List (List UInt8)) (h : Heap) (hr : RS h v (sv ll)) (hl : ∀ s ∈ ll, s.length ≤ 4611686018427387904) (hn : ll.length ≤ 1000000) : ACalls Try.prog 57 [v] h fun u h' => u = .bool (ll.all goodN) ∧ h' = h := by
  refine ACalls.wf fun wf => ?_
  refine ACalls.body Try.func57 rfl rfl ?_
  have hsl := sv_length ll
  repeat (first | refine AL.nil ?_ | refine AWp.seq ?_ | refine AWp.region ?_ | refine AWp.block ?_ | refine AWp.label ?_ | refine AWp.scope ?_ | refine AL.set rfl rfl (op_moveI rfl ?_) | refine AL.set rfl rfl (op_assignB rfl ?_) | refine AL.set rfl rfl (op_assignF rfl ?_) | refine AL.set rfl rfl (op_lenR hr rfl ?_) | refine AL.set rfl rfl (op_move (by conv => lhs; whnf) ?_))
  refine AWp.loop (α := Nat) (fun k => [(3, badV), (4, .bool true), (7, v), (8, .int .i64 ((sv ll).length : Nat)), (9, .int .i64 (k : Nat))]) (fun _ => h) (fun k => k ≤ ll.length ∧ (ll.take k).all goodN = true) (fun k => ll.length - k) 0 ⟨Nat.zero_le _, by simp⟩
    (Weak.same (EW.cons rfl (EW.cons rfl (EW.cons rfl (EW.cons rfl (EW.cons rfl EW.nil)))))) ?_
  rintro k ⟨hk1, hk2⟩
  by_cases hlt : k < ll.length
  · obtain ⟨s, hs⟩ : ∃ s, ll[k]? = some s := ⟨_, List.getElem?_eq_getElem hlt⟩
    have hs2 : (sv ll)[((k : Nat) : Int).toNat]? = some (.string (bstr s)) := by simpa using sv_get hs
    have hsz := hl s (List.mem_of_getElem? hs)
    have hbad : goodN s = false → ll.all goodN = false := by
      intro hg
      cases ha : ll.all goodN with
      | false => rfl
      | true =>
        have := List.all_eq_true.1 ha s (List.mem_of_getElem? hs)
        rw [hg] at this; cases this
    have e0 : ∀ {K : Value → Heap → Prop} {ρ : Operand → Value} {x y : Operand} {dst : Option Tmp} {ty t t' : TypeId} {pos : String} {aft : Array Edge} {g : Option (Nat × Bool)}, ρ x = .string (bstr s) → ρ y = .string ⟨#[]⟩ → K (.bool (s == [])) h → AOp Try.prog ⟨dst, .binOp .eql t x y t', ty, pos, aft, g⟩ ρ h K := fun hx hy kk => op_sEqC [] rfl hx hy kk
    repeat (first | refine AL.nil ?_ | refine AWp.seq ?_ | refine AWp.region ?_ | refine AWp.condT rfl ?_ | refine AWp.block ?_ | refine AWp.skip ?_ | refine AL.set rfl rfl (op_intT rfl rfl rfl (by omega) ?_))
    refine AL.set rfl rfl (op_indexR hr rfl rfl (by omega) hs2 ?_)
    intro q hq
    by_cases h0 : s = []
    · have hb : (s == []) = true := by rw [h0]; rfl
      rw [hb] at e0
      rw [hbad (good_nil h0)]
      repeat (first | refine AL.nil ?_ | refine AL.skip rfl rfl ?_ | refine AWp.seq ?_ | refine AWp.region ?_ | refine AWp.condT rfl ?_ | refine AWp.ret ?_ | refine AWp.exit ?_ | refine AL.set rfl rfl (op_moveB rfl ?_) | refine AL.set rfl rfl (op_moveStr rfl ?_) | refine AL.set rfl rfl (op_assignB rfl ?_) | refine AL.set rfl rfl (op_assignStr rfl ?_) | refine AL.set rfl rfl (op_loadR hq rfl rfl ?_) | refine AL.set rfl rfl (e0 rfl rfl ?_) | refine AL.set rfl rfl (op_pick (v := .bool true) rfl rfl ?_))
      exact ⟨_, ResV.tmp rfl, rfl, rfl⟩
    have hb : (s == []) = false := by simpa using h0
    rw [hb] at e0
    by_cases h32 : 32 < s.length
    · rw [hbad (good_long h32)]
      repeat (first | refine AL.nil ?_ | refine AL.skip rfl rfl ?_ | refine AWp.seq ?_ | refine AWp.region ?_ | refine AWp.condT rfl ?_ | refine AWp.ret ?_ | refine AWp.exit ?_ | refine AL.set rfl rfl (op_moveB rfl ?_) | refine AL.set rfl rfl (op_moveStr rfl ?_) | refine AL.set rfl rfl (op_assignB rfl ?_) | refine AL.set rfl rfl (op_assignStr rfl ?_) | refine AL.set rfl rfl (op_loadR hq rfl rfl ?_) | refine AL.set rfl rfl (e0 rfl rfl ?_) | refine AL.set rfl rfl (op_lenSB rfl ?_) | refine AL.set rfl rfl (op_intT rfl rfl rfl (by omega) ?_) | refine AL.set rfl rfl (op_pick (v := .bool true) rfl rfl ?_))
      exact ⟨_, ResV.tmp rfl, rfl, rfl⟩
    have cc := containsF_c s h (by omega)
    cases hg : s.all okByte with
    | false =>
      rw [hbad (by rw [good_else h0 h32]; exact hg)]
      rw [hg] at cc
      repeat (first | refine AL.nil ?_ | refine AWp.seq ?_ | refine AWp.region ?_ | refine AWp.condT rfl ?_ | refine AWp.ret ?_ | refine AWp.exit ?_ | refine AL.set rfl rfl (op_moveB rfl ?_) | refine AL.set rfl rfl (op_moveStr rfl ?_) | refine AL.set rfl rfl (op_moveF rfl ?_) | refine AL.set rfl rfl (op_assignB rfl ?_) | refine AL.set rfl rfl (op_assignStr rfl ?_) | refine AL.set rfl rfl (op_loadR hq rfl rfl ?_) | refine AL.set rfl rfl (e0 rfl rfl ?_) | refine AL.set rfl rfl (op_lenSB rfl ?_) | refine AL.set rfl rfl (op_intF rfl rfl rfl (by omega) ?_) | refine AL.set rfl rfl (op_callS rfl rfl cc ?_) | refine AL.set rfl rfl (op_pick (v := .bool false) rfl rfl ?_) | refine AL.set rfl rfl (op_pick (v := .bool true) rfl rfl ?_))
      exact ⟨_, ResV.tmp rfl, rfl, rfl⟩
    | true =>
      rw [hg] at cc
      repeat (first | refine AL.nil ?_ | refine AWp.seq ?_ | refine AWp.region ?_ | refine AWp.condF rfl ?_ | refine AWp.skip ?_ | refine AL.set rfl rfl (op_moveI rfl ?_) | refine AL.set rfl rfl (op_moveB rfl ?_) | refine AL.set rfl rfl (op_moveStr rfl ?_) | refine AL.set rfl rfl (op_moveF rfl ?_) | refine AL.set rfl rfl (op_assignStr rfl ?_) | refine AL.set rfl rfl (op_loadR hq rfl rfl ?_) | refine AL.set rfl rfl (e0 rfl rfl ?_) | refine AL.set rfl rfl (op_lenSB rfl ?_) | refine AL.set rfl rfl (op_intF rfl rfl rfl (by omega) ?_) | refine AL.set rfl rfl (op_callS rfl rfl cc ?_) | refine AL.set rfl rfl (op_pick (v := .bool false) rfl rfl ?_) | refine AL.set rfl rfl (op_add64 rfl rfl (by omega) ?_))
      refine ⟨k + 1, ⟨hlt, ?_⟩, by omega, Weak.same (EW.cons rfl (EW.cons rfl (EW.cons rfl (EW.cons rfl (EW.cons rfl EW.nil)))))⟩
      rw [List.take_add_one, hs, List.all_append, hk2]
      simp [good_else h0 h32, hg]
  · rw [List.take_of_length_le (by omega)] at hk2
    rw [hk2]
    repeat (first | refine AL.nil ?_ | refine AWp.seq ?_ | refine AWp.region ?_ | refine AWp.condF rfl ?_ | refine AWp.ret ?_ | refine AWp.exit ?_ | refine AL.set rfl rfl (op_moveB rfl ?_) | refine AL.set rfl rfl (op_assignB rfl ?_) | refine AL.set rfl rfl (op_intF rfl rfl rfl (by omega) ?_))
    exact ⟨_, ResV.tmp rfl, rfl, rfl⟩
theorem op_boxF {ρ : Operand → Value} {h : Heap} {K : Value → Heap → Prop} {dst : Option Tmp} {ty : TypeId} {pos : String} {aft : Array Edge} {g : Option (Nat × Bool)} {x : Operand} {f : File} (hx : ρ x = fileV f) (kk : K (ptr h.next) (h.alloc ⟨[.string (bstr f.1), .string (bstr f.2)], 86, true⟩)) :
    AOp Try.prog ⟨dst, .box 86 x, ty, pos, aft, g⟩ ρ h K := op_box (v := fileV f) hx (by intro e; cases e) kk
theorem all_c (f : File) (h : Heap) (hl : f.1.length + f.2.length ≤ 1000000000) : ACalls Try.prog 45 [fileV f] h fun u h' => u = .string (bstr (allF f)) ∧ h' = h := by
  refine ACalls.wf fun wf => ACalls.reset ?_
  refine ACalls.body Try.func45 rfl rfl ?_
  have g1 := Heap.alloc_new h ⟨[.string (bstr f.1), .string (bstr f.2)], 86, true⟩
  repeat (first | refine AL.nil ?_ | refine AWp.seq ?_ | refine AWp.region ?_ | refine AWp.ret ?_ | refine AL.set rfl rfl (op_assignStr rfl ?_) | refine AL.set rfl rfl (op_boxF rfl ?_) | refine AL.set rfl rfl (op_fa rfl ?_) | refine AL.set rfl rfl (op_load rfl rfl g1 rfl ?_) | refine AL.set rfl rfl (op_sCat rfl rfl (by simp only [maxLen]; omega) ?_))
  exact ⟨_, ResV.tmp rfl, rfl, wf.ext _, rfl, rfl⟩
end Go.Proofs.Ytiebmncpdnbcjaa
