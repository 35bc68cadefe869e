/-
  The engine, part P: a region whose order is drawn, told by what each operation's value is known to be.
-/
import Derived.Test.YtdfehmmhlplhlaaEngO
namespace Go.Eng
open Go

/-- What is known of a value, whatever is made later. -/
structure Spec where
  p : Value → Heap → Prop
  mono : ∀ v h h', p v h → Ext h h' → p v h'
def Spec.any : Spec := ⟨fun _ _ => True, fun _ _ _ _ _ => trivial⟩
def Spec.eq (c : Value) : Spec := ⟨fun v _ => v = c, fun _ _ _ h _ => h⟩
def Spec.rs (vs : List Value) : Spec := ⟨fun v h => RS h v vs, fun _ _ _ h x => RS.ext h x⟩
def Spec.rb (l : List UInt8) : Spec := ⟨fun v h => RB h v l, fun _ _ _ h x => RB.ext h x⟩
def Spec.rbb (l : List (List UInt8)) : Spec := ⟨fun v h => RBB h v l, fun _ _ _ h x => RBB.ext h x⟩

def dstOf (ops : Array Oper) (j : Nat) : Nat :=
  match ops[j]? with
  | some o => o.dst.getD 0
  | none => 0
def lowB (ops : Array Oper) (t : Nat) : Bool := ops.toList.all fun o => match o.dst with
  | some d => !Nat.beq d t
  | none => true
/-- The check: each has a place of its own, and hangs on earlier ones alone. -/
def flowB (N : Nat) (ops : Array Oper) : Bool :=
  (List.range ops.size).all fun i => (match ops[i]? with
    | some o => (match o.dst with
      | some d => Nat.blt d N
      | none => false) && o.after.all (fun e => !Region.binds .any e || Nat.blt e.on i)
    | none => false) && (List.range i).all fun j => !Nat.beq (dstOf ops i) (dstOf ops j)

section
variable {P : Program} {N : Nat} {ops : Array Oper} {Q : Exit → Env → Heap → Prop} {env : Env} {h : Heap} {S : List Spec}

def spec (S : List Spec) (i : Nat) : Spec := S.getD i .any
def FlowAt (P : Program) (ops : Array Oper) (env : Env) (h : Heap) (S : List Spec) (i : Nat) (o : Oper) : Prop :=
  ∀ e h', Ext h h' → WF h' → h.next ≤ h'.next → (∀ t, lowB ops t = true → e.get t = env.get t) → (∀ j, edgeB ops i j = true → (spec S j).p (e.get (dstOf ops j)) h') →
    (gv ops e o = some true ∧ AOp P o (ev P e) h' fun v h'' => Ext h' h'' ∧ (spec S i).p v h'') ∨ (gv ops e o = some false ∧ (spec S i).p undef h')
def FlowL (P : Program) (ops : Array Oper) (env : Env) (h : Heap) (S : List Spec) : Nat → List Oper → Prop
  | _, [] => True
  | i, o :: l => FlowAt P ops env h S i o ∧ FlowL P ops env h S (i + 1) l
theorem FlowL.cons {i : Nat} {o : Oper} {l : List Oper} (a : FlowAt P ops env h S i o) (b : FlowL P ops env h S (i + 1) l) : FlowL P ops env h S i (o :: l) := ⟨a, b⟩
theorem FlowL.nil {i : Nat} : FlowL P ops env h S i [] := trivial
theorem FlowL.at : ∀ {l : List Oper} {k i : Nat} {o : Oper}, FlowL P ops env h S k l → l[i]? = some o → FlowAt P ops env h S (k + i) o
  | [], _, _, _, _, hi => by simp at hi
  | o' :: l, k, 0, o, p, hi => by simp at hi; subst hi; exact p.1
  | o' :: l, k, i + 1, o, p, hi => by
    have := FlowL.at p.2 (i := i) (by simpa using hi)
    rwa [show k + (i + 1) = k + 1 + i from by omega]

theorem flowB_at (hb : flowB N ops = true) {i : Nat} {o : Oper} (ho : ops[i]? = some o) : (∃ d, o.dst = some d ∧ d < N) ∧ (∀ j, edgeB ops i j = true → j < i) ∧ ∀ j, j < i → dstOf ops i ≠ dstOf ops j := by
  have hi : i < ops.size := (Array.getElem?_eq_some_iff.1 ho).1
  have h1 := List.all_eq_true.1 hb i (List.mem_range.2 hi)
  rw [Bool.and_eq_true] at h1
  obtain ⟨h1, h2⟩ := h1
  simp only [ho, Bool.and_eq_true] at h1
  obtain ⟨h3, h4⟩ := h1
  refine ⟨?_, ?_, ?_⟩
  · cases hd : o.dst with
    | none => rw [hd] at h3; cases h3
    | some d => rw [hd] at h3; exact ⟨d, rfl, by simpa [Nat.blt_eq] using h3⟩
  · intro j hj
    obtain ⟨e, he, hbi, rfl⟩ := (edgeB_iff ho).1 hj
    have := Array.all_eq_true_iff_forall_mem.1 h4 e he
    simp only [hbi, Bool.not_true, Bool.false_or] at this
    simpa [Nat.blt_eq] using this
  · intro j hj
    have := List.all_eq_true.1 h2 j (List.mem_range.2 hj)
    intro e
    rw [e] at this
    simp at this
theorem dstOf_eq {i : Nat} {o : Oper} {d : Nat} (ho : ops[i]? = some o) (hd : o.dst = some d) : dstOf ops i = d := by
  simp [dstOf, ho, hd]
theorem least : ∀ (U : List Nat), U ≠ [] → ∃ i, i ∈ U ∧ ∀ j, j ∈ U → i ≤ j
  | [], h => absurd rfl h
  | [a], _ => ⟨a, by simp, by simp⟩
  | a :: b :: U, _ => by
    obtain ⟨i, hi, hm⟩ := least (b :: U) (by simp)
    by_cases ha : a ≤ i
    · refine ⟨a, by simp, fun j hj => ?_⟩
      rcases List.mem_cons.1 hj with rfl | hj
      · exact Nat.le_refl _
      · exact Nat.le_trans ha (hm j hj)
    · refine ⟨i, List.mem_cons_of_mem _ hi, fun j hj => ?_⟩
      rcases List.mem_cons.1 hj with rfl | hj
      · omega
      · exact hm j hj
theorem lowB_dst {i : Nat} {o : Oper} {d t : Nat} (ho : ops[i]? = some o) (hd : o.dst = some d) (hl : lowB ops t = true) : d ≠ t := by
  have := List.all_eq_true.1 hl o (by simpa using Array.mem_of_getElem? ho)
  rw [hd] at this
  intro e
  rw [e] at this
  simp at this

theorem flow_order (hb : flowB N ops = true) (hall : FlowL P ops env h S 0 ops.toList)
    (hend : ∀ e h', Ext h h' → WF h' → h.next ≤ h'.next → (∀ t, lowB ops t = true → e.get t = env.get t) → (∀ j, j < ops.size → (spec S j).p (e.get (dstOf ops j)) h') → Q .normal e h') :
    ∀ (n : Nat) (U : List Nat) (L : Array Bool) (e : Env) (h1 : Heap) (φ : Ren) (a : Act) (w : World), U.length = n → L.size = ops.size → U.Nodup → (∀ i, i < ops.size → (L.getD i true = false ↔ i ∈ U)) → (∀ i, i ∈ U → i < ops.size) →
      Ext h h1 → h.next ≤ h1.next → (∀ t, lowB ops t = true → e.get t = env.get t) → (∀ j, j < ops.size → ¬ j ∈ U → (spec S j).p (e.get (dstOf ops j)) h1) →
      a.defers = [] → Rel P N φ e h1 a.tmps w → wpAny P .any ops (fun ex a' w' => Post P N φ h1 w (Q ex) a' w') n L a w := by
  intro n
  induction n with
  | zero =>
    intro U L e h1 φ a w hn hL _ hmem hlt hx hnx hlow hS hd r
    have : U = [] := List.eq_nil_of_length_eq_zero hn
    subst this
    refine ⟨?_, Post.now (hend e h1 hx r.sim.next hnx hlow fun j hj => hS j hj (by simp)) hd r⟩
    apply List.eq_nil_iff_forall_not_mem.2
    intro i hi
    obtain ⟨q1, o, q2, _⟩ := mem_ready.1 hi
    have hil : i < ops.size := (Array.getElem?_eq_some_iff.1 q2).1
    have := (hmem i hil).1 q1
    cases this
  | succ n ih =>
    intro U L e h1 φ a w hn hL hnd hmem hlt hx hnx hlow hS hd r
    have hdone : ∀ j, j < ops.size → ¬ j ∈ U → L.getD j false = true := by
      intro j hj hno
      cases hq : L.getD j true with
      | false => exact absurd ((hmem j hj).1 hq) hno
      | true =>
        have hjl : j < L.size := by omega
        simp only [Array.getD_eq_getD_getElem?, Array.getElem?_eq_getElem hjl, Option.getD_some] at hq ⊢
        exact hq
    refine ⟨fun hnil => ?_, fun i hi => ?_⟩
    · exfalso
      obtain ⟨i0, hi0, hmin⟩ := least U (by intro e; rw [e] at hn; simp at hn)
      have hil := hlt i0 hi0
      have ho0 : ops[i0]? = some ops[i0] := Array.getElem?_eq_getElem hil
      have : i0 ∈ Region.ready .any ops L := by
        refine mem_ready.2 ⟨(hmem i0 hil).2 hi0, ops[i0], ho0, fun ed he hbi => ?_⟩
        have hlt2 := (flowB_at hb ho0).2.1 ed.on ((edgeB_iff ho0).2 ⟨ed, he, hbi, rfl⟩)
        exact hdone ed.on (by omega) (fun hin => by have := hmin _ hin; omega)
      rw [hnil] at this
      cases this
    · obtain ⟨hi1, o, ho, hedges⟩ := mem_ready.1 hi
      have hil : i < ops.size := (Array.getElem?_eq_some_iff.1 ho).1
      have hiU := (hmem i hil).1 hi1
      obtain ⟨U1, U2, rfl⟩ := List.append_of_mem hiU
      obtain ⟨⟨d, hdst, hdN⟩, hback, _⟩ := flowB_at hb ho
      have hdist : ∀ j, j < ops.size → j ≠ i → dstOf ops j ≠ d := by
        intro j hj hne he
        rw [← dstOf_eq ho hdst] at he
        have hoj : ops[j]? = some ops[j] := Array.getElem?_eq_getElem hj
        rcases Nat.lt_or_gt_of_ne hne with h2 | h2
        · exact (flowB_at hb ho).2.2 j h2 he.symm
        · exact (flowB_at hb hoj).2.2 i h2 he
      have hU' : (U1 ++ U2).length = n := by simp at hn ⊢; omega
      have hnd' : (U1 ++ U2).Nodup := by
        rw [List.nodup_append] at hnd ⊢
        refine ⟨hnd.1, (List.nodup_cons.1 hnd.2.1).2, fun x hx1 y hy => hnd.2.2 x hx1 y (by simp [hy])⟩
      have hni : ¬ i ∈ U1 ++ U2 := by
        rw [List.nodup_append] at hnd
        intro hin
        rcases List.mem_append.1 hin with h2 | h2
        · exact hnd.2.2 i h2 i (by simp) rfl
        · exact (List.nodup_cons.1 hnd.2.1).1 h2
      have hL' : (L.setIfInBounds i true).size = ops.size := by simp [hL]
      have hsub : ∀ j, j ≠ i → (j ∈ U1 ++ U2 ↔ j ∈ U1 ++ i :: U2) := by
        intro j hj
        simp [hj]
      have hmem' : ∀ j, j < ops.size → ((L.setIfInBounds i true).getD j true = false ↔ j ∈ U1 ++ U2) := by
        intro j hj
        by_cases hji : i = j
        · subst hji
          have : (L.setIfInBounds i true).getD i true = true := by
            simp [Array.getD_eq_getD_getElem?]
          rw [this]
          constructor
          · intro e; cases e
          · intro e; exact absurd e hni
        · rw [getD_set_ne _ hji, hmem j hj, hsub j (fun e => hji e.symm)]
      have hlt' : ∀ j, j ∈ U1 ++ U2 → j < ops.size := fun j hj => hlt j (by
        rcases List.mem_append.1 hj with h2 | h2
        · exact List.mem_append_left _ h2
        · exact List.mem_append_right _ (by simp [h2]))
      have go : ∀ (φ' : Ren) (v : Value) (h2 : Heap) (a' : Act) (w' : World), a'.defers = [] → Ext h1 h2 → (spec S i).p v h2 → Rel P N φ' (e.put o.dst v) h2 a'.tmps w' → Step φ h1 w φ' h2 w' →
          wpAny P .any ops (fun ex a2 w2 => Post P N φ h1 w (Q ex) a2 w2) n (L.setIfInBounds i true) a' w' := by
        intro φ' v h2 a' w' hd' hx2 hsp r' st
        refine wpAny_mono (fun _ _ _ hp => hp.trans st) _ _ _ _ (ih (U1 ++ U2) _ _ h2 φ' a' w' hU' hL' hnd' hmem' hlt' (hx.trans hx2) (Nat.le_trans hnx st.next) ?_ ?_ hd' r')
        · intro t ht
          rw [put_other (fun he => lowB_dst ho he ht rfl)]
          exact hlow t ht
        · intro j hj hno
          by_cases hji : j = i
          · subst hji
            rw [dstOf_eq ho hdst, hdst, show (e.put (some d) v) = (d, v) :: e from rfl, Env.get_put, if_pos rfl]
            exact hsp
          · rw [put_other (fun he => hdist j hj hji (by rw [hdst] at he; cases he; rfl))]
            exact (spec S j).mono _ _ _ (hS j hj (fun hin => hno ((hsub j hji).2 hin))) hx2
      have hdB : dstB N o.dst = true := by
        rw [hdst]
        simpa [dstB, Nat.blt_eq] using hdN
      have hat0 := FlowL.at hall (i := i) (by simpa using ho)
      rw [Nat.zero_add] at hat0
      have hat := hat0 e h1 hx r.sim.next hnx hlow (fun j hj => hS j (by have := hback j hj; omega) (fun hin => by
        have hjl : j < ops.size := by have := hback j hj; omega
        have q1 := (hmem j hjl).2 hin
        obtain ⟨ed, he, hbi, rfl⟩ := (edgeB_iff ho).1 hj
        have q2 := hedges ed he hbi
        have hjl' : ed.on < L.size := by omega
        simp only [Array.getD_eq_getD_getElem?, Array.getElem?_eq_getElem hjl', Option.getD_some] at q1 q2
        rw [q1] at q2; cases q2))
      rcases hat with ⟨hg, hop⟩ | ⟨hg, hsp⟩
      · simp only [wpOp, ho, wanted_of r hg, if_true]
        refine .inl (hop φ a w ⟨r.sim, fun x _ => r.ev x⟩ _ _ fun c w' φ' h2 v ⟨kv1, kv2⟩ vr s st => ?_)
        exact go φ' v h2 _ w' (by rw [put_defers]; exact hd) kv1 kv2 ((r.step s st).put o.dst (dstB_lt hdB) vr) st
      · simp only [wpOp, ho, wanted_of r hg, Bool.false_eq_true, if_false]
        exact go φ undef h1 _ w (by rw [put_defers]; exact hd) (Ext.refl _) hsp (r.put o.dst (dstB_lt hdB) (.und _)) (Step.refl _ _ _)

/-- A region whose order is drawn, by what is known of each value. -/
theorem AWp.flow {id : Nat} (S : List Spec) (hm : P.follows .mixedOrders = true) (hb : flowB N ops = true)
    (hend : ∀ e h', Ext h h' → WF h' → h.next ≤ h'.next → (∀ t, lowB ops t = true → e.get t = env.get t) → (∀ j, j < ops.size → (spec S j).p (e.get (dstOf ops j)) h') → Q .normal e h')
    (hall : FlowL P ops env h S 0 ops.toList) : AWp P N (.region id ops true) Q env h := by
  intro φ a w hd r
  refine wp_region_any hm ?_
  have r' : Rel P N φ env h a.tmps w.drew := ⟨r.sim.drew, r.size, r.env⟩
  refine wpAny_mono (fun _ _ _ hp => hp.trans Step.drew) _ _ _ _ (flow_order hb hall hend ops.size (List.range ops.size) (Array.replicate ops.size false) env h φ a w.drew (by simp) (by simp) List.nodup_range ?_ ?_ (Ext.refl _) (Nat.le_refl _) (fun _ _ => rfl) ?_ hd r')
  · intro i hi
    have q : (Array.replicate ops.size false).getD i true = false := by
      simp [Array.getD_eq_getD_getElem?, hi]
    rw [q]
    simp [hi]
  · intro i hi
    exact List.mem_range.1 hi
  · intro j hj hno
    exact absurd (List.mem_range.2 hj) hno
/-- The guard holds. -/
theorem gv_on {e : Env} {o oj : Oper} {j : Nat} {b : Bool} (hg : o.guard = some (j, b)) (hj : ops[j]? = some oj) {d : Nat} (hd : oj.dst = some d) (he : e.get d = .bool b) : gv ops e o = some true := by
  simp [gv, hg, hj, hd, he]
/-- A row of one. -/
theorem op_row1 {ρ : Operand → Value} {K : Value → Heap → Prop} {dst : Option Tmp} {ty : TypeId} {pos : String} {aft : Array Edge} {g : Option (Nat × Bool)} {t e by_ : Nat} {z v : Value} {x : Operand} [td : TyD P t (.slice e)] [ti : TyI P e 1 by_ z] (hz : oneB z = true) (hx : ρ x = v) (h1 : oneB v = true)
    (kk : K (.slice (some ⟨h.next, 0, some 1⟩) 1 1) (h.alloc ⟨[v], e, true⟩)) : AOp P ⟨dst, .buildSlice t 1 #[(0, x)], ty, pos, aft, g⟩ ρ h K :=
  op_row [v] hz rfl (by show [(0, ρ x)] = _; rw [hx]; rfl) rfl (by intro u hu; rw [List.mem_singleton.1 hu]; exact h1) kk
end
end Go.Eng
