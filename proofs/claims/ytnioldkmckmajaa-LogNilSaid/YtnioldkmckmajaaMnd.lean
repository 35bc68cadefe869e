/-
  Texts of one claim, merged: 4 parts.
-/
import Derived.Test.YtnioldkmckmajaaMnc
set_option maxHeartbeats 16000000
/-
  The engine, part K: a region whose order is drawn: whatever the order, it comes «to» what one order comes «to».
-/
namespace Go.Eng
open Go
inductive Kd where
  | R | X | W
def ROp (P : Program) (o : Oper) (ρ : Operand → Value) (h : Heap) (v : Value) : Prop :=
  ∀ h', Ext h h' → h.next ≤ h'.next → AOp P o ρ h' fun v' h'' => v' = v ∧ h'' = h'
def DAL (P : Program) (N : Nat) (ops : Array Oper) (Q : Exit → Env → Heap → Prop) : List (Nat × Kd) → Env → Heap → Prop
  | [], env, h => ∀ φ a w, a.defers = [] → Rel P N φ env h a.tmps w → Post P N φ h w (Q .normal) a w
  | (i, .R) :: σ, env, h => ∃ o, ops[i]? = some o ∧ dstB N o.dst = true ∧ ∃ v, ((gv ops env o = some true ∧ ROp P o (ev P env) h v) ∨ (gv ops env o = some false ∧ v = skipV)) ∧ DAL P N ops Q σ (env.put o.dst v) h
  | (i, .X) :: σ, env, h => ∃ o, ops[i]? = some o ∧ dstB N o.dst = true ∧
      ((gv ops env o = some true ∧ AOp P o (ev P env) h fun v h' => Ext h h' ∧ DAL P N ops Q σ (env.put o.dst v) h') ∨ (gv ops env o = some false ∧ DAL P N ops Q σ (env.put o.dst skipV) h))
  | (i, .W) :: σ, env, h => ∃ o, ops[i]? = some o ∧ dstB N o.dst = true ∧
      ((gv ops env o = some true ∧ AOp P o (ev P env) h fun v h' => DAL P N ops Q σ (env.put o.dst v) h') ∨ (gv ops env o = some false ∧ DAL P N ops Q σ (env.put o.dst skipV) h))
theorem AOp.congr {P : Program} {o : Oper} {ρ ρ' : Operand → Value} {h : Heap} {K : Value → Heap → Prop} (hq : ∀ x, x ∈ o.op.operands → ρ x = ρ' x) (p : AOp P o ρ h K) : AOp P o ρ' h K :=
  fun φ a w r => p φ a w ⟨r.sim, fun x hx => by rw [hq x hx]; exact r.ev x hx⟩
theorem AOp.mono {P : Program} {o : Oper} {ρ : Operand → Value} {h : Heap} {K K' : Value → Heap → Prop} (p : AOp P o ρ h K) (hk : ∀ v h', h.next ≤ h'.next → K v h' → K' v h') : AOp P o ρ h K' :=
  fun φ a w r next Qc kk => p φ a w r next Qc fun c w' φ' h' v k vr s st => kk c w' φ' h' v (hk v h' st.next k) vr s st
theorem ROp.congr {P : Program} {o : Oper} {ρ ρ' : Operand → Value} {h : Heap} {v : Value} (hq : ∀ x, x ∈ o.op.operands → ρ x = ρ' x) (p : ROp P o ρ h v) : ROp P o ρ' h v :=
  fun h' hx hn => (p h' hx hn).congr hq
theorem ROp.ext {P : Program} {o : Oper} {ρ : Operand → Value} {h h1 : Heap} {v : Value} (p : ROp P o ρ h v) (hx : Ext h h1) (hn : h.next ≤ h1.next) : ROp P o ρ h1 v :=
  fun h' hx' hn' => p h' (hx.trans hx') (Nat.le_trans hn hn')
def EqE (e e' : Env) : Prop := ∀ t, e.get t = e'.get t
theorem EqE.ev {P : Program} {e e' : Env} (q : EqE e e') (x : Operand) : Eng.ev P e x = Eng.ev P e' x := by
  cases x with
  | tmp t => exact q t
  | _ => rfl
theorem EqE.gv {ops : Array Oper} {e e' : Env} (q : EqE e e') (o : Oper) : Eng.gv ops e o = Eng.gv ops e' o := by
  unfold Eng.gv
  split
  · rfl
  · split
    · rw [q]
    · rfl
theorem EqE.put {e e' : Env} (q : EqE e e') (d : Option Tmp) (v : Value) : EqE (e.put d v) (e'.put d v) := by
  intro t
  cases d with
  | none => exact q t
  | some d => simp only [Env.put, Env.get_put, q t]
theorem EqE.swap (e : Env) {d d' : Option Tmp} (hne : ∀ t, d = some t → d' ≠ some t) (v v' : Value) : EqE ((e.put d v).put d' v') ((e.put d' v').put d v) := by
  intro t
  cases d with
  | none => rfl
  | some d =>
    cases d' with
    | none => rfl
    | some d' =>
      simp only [Env.put, Env.get_put]
      have hdd : d ≠ d' := fun e => hne d rfl (by rw [e])
      by_cases h1 : d' = t
      · by_cases h2 : d = t
        · exact absurd (h2.trans h1.symm) hdd
        · simp [h1, h2]
      · by_cases h2 : d = t <;> simp [h1, h2]
section
variable {P : Program} {N : Nat} {ops : Array Oper} {Q : Exit → Env → Heap → Prop}
theorem Rel.eqE {φ : Ren} {e e' : Env} {h : Heap} {t : Array Value} {w : World} (r : Rel P N φ e h t w) (q : EqE e e') : Rel P N φ e' h t w := ⟨r.sim, r.size, fun t => by rw [← q t]; exact r.env t⟩
theorem DAL.eqE : ∀ {σ : List (Nat × Kd)} {e e' : Env} {h : Heap}, DAL P N ops Q σ e h → EqE e e' → DAL P N ops Q σ e' h
  | [], e, e', h, p, q => fun φ a w hd r => p φ a w hd (r.eqE fun t => (q t).symm)
  | (i, .R) :: σ, e, e', h, p, q => by
    obtain ⟨o, ho, hd, v, hv, k⟩ := p
    refine ⟨o, ho, hd, v, ?_, DAL.eqE k (q.put _ _)⟩
    rw [← q.gv o]
    exact hv.imp (fun ⟨a, b⟩ => ⟨a, b.congr fun x _ => q.ev x⟩) id
  | (i, .X) :: σ, e, e', h, p, q => by
    obtain ⟨o, ho, hd, hv⟩ := p
    refine ⟨o, ho, hd, ?_⟩
    rw [← q.gv o]
    exact hv.imp (fun ⟨a, b⟩ => ⟨a, (b.congr fun x _ => q.ev x).mono fun v h' _ ⟨k1, k2⟩ => ⟨k1, DAL.eqE k2 (q.put _ _)⟩⟩) (fun ⟨a, b⟩ => ⟨a, DAL.eqE b (q.put _ _)⟩)
  | (i, .W) :: σ, e, e', h, p, q => by
    obtain ⟨o, ho, hd, hv⟩ := p
    refine ⟨o, ho, hd, ?_⟩
    rw [← q.gv o]
    exact hv.imp (fun ⟨a, b⟩ => ⟨a, (b.congr fun x _ => q.ev x).mono fun v h' _ k => DAL.eqE k (q.put _ _)⟩) (fun ⟨a, b⟩ => ⟨a, DAL.eqE b (q.put _ _)⟩)
theorem put_other {e : Env} {d : Option Tmp} {v : Value} {t : Nat} (hne : d ≠ some t) : (e.put d v).get t = e.get t := by
  cases d with
  | none => rfl
  | some d => rw [show (e.put (some d) v) = (d, v) :: e from rfl, Env.get_put, if_neg (fun h => hne (by rw [h]))]
theorem looks_tmp {o : Oper} {t : Nat} (hx : Operand.tmp t ∈ o.op.operands) : t ∈ o.looksAt ops := by
  unfold Oper.looksAt
  refine List.mem_append_left _ (List.mem_filterMap.2 ⟨.tmp t, by simpa using hx, rfl⟩)
theorem ev_put {o : Oper} {e : Env} {d : Option Tmp} {v : Value} (hne : ∀ t, d = some t → t ∉ o.looksAt ops) : ∀ x, x ∈ o.op.operands → ev P (e.put d v) x = ev P e x := by
  intro x hx
  cases x with
  | tmp t => exact put_other (fun h => hne t h (looks_tmp hx))
  | _ => rfl
theorem gv_put {o : Oper} {e : Env} {d : Option Tmp} {v : Value} (hne : ∀ t, d = some t → t ∉ o.looksAt ops) : gv ops (e.put d v) o = gv ops e o := by
  unfold gv
  split
  · rfl
  · rename_i j want hg
    split
    · rename_i t ht
      rw [put_other]
      intro hd
      refine hne t hd ?_
      unfold Oper.looksAt
      refine List.mem_append_right _ ?_
      rw [hg]
      simp [ht]
    · rfl
def kdW : Kd → Bool
  | .W => true
  | _ => false
theorem DAL.swap {i j : Nat} {k : Kd} {oi oj : Oper} {σ : List (Nat × Kd)} {e : Env} {h : Heap} (hi : ops[i]? = some oi) (hj : ops[j]? = some oj) (hap : oj.apart ops oi = true) (hk : kdW k = false)
    (p : DAL P N ops Q ((j, .R) :: (i, k) :: σ) e h) : DAL P N ops Q ((i, k) :: (j, .R) :: σ) e h := by
  obtain ⟨a1, a2, a3⟩ := Oper.apart_spec hap
  obtain ⟨o, ho, hd, vj, hvj, p⟩ := p
  rw [hj] at ho; cases ho
  have later : ∀ (vi : Value) (h' : Heap), Ext h h' → h.next ≤ h'.next → DAL P N ops Q σ ((e.put oj.dst vj).put oi.dst vi) h' → DAL P N ops Q ((j, .R) :: σ) (e.put oi.dst vi) h' := by
    intro vi h' hx hn pk
    refine ⟨oj, hj, hd, vj, ?_, pk.eqE (EqE.swap e a2 vj vi)⟩
    rw [gv_put a3]
    exact hvj.imp (fun ⟨q1, q2⟩ => ⟨q1, (q2.ext hx hn).congr fun x hx => (ev_put a3 x hx).symm⟩) id
  cases k with
  | R =>
    obtain ⟨o, ho, hdi, vi, hvi, p⟩ := p
    rw [hi] at ho; cases ho
    rw [gv_put a1] at hvi
    exact ⟨oi, hi, hdi, vi, hvi.imp (fun ⟨q1, q2⟩ => ⟨q1, q2.congr (ev_put a1)⟩) id, later vi h (Ext.refl h) (Nat.le_refl _) p⟩
  | X =>
    obtain ⟨o, ho, hdi, hvi⟩ := p
    rw [hi] at ho; cases ho
    rw [gv_put a1] at hvi
    refine ⟨oi, hi, hdi, ?_⟩
    exact hvi.imp (fun ⟨q1, q2⟩ => ⟨q1, (q2.congr (ev_put a1)).mono fun v h' hn ⟨k1, k2⟩ => ⟨k1, later v h' k1 hn k2⟩⟩) (fun ⟨q1, q2⟩ => ⟨q1, later skipV h (Ext.refl h) (Nat.le_refl _) q2⟩)
  | W => cases hk
theorem DAL.front {i : Nat} {k : Kd} {oi : Oper} {σ2 : List (Nat × Kd)} (hi : ops[i]? = some oi) : ∀ {σ1 : List (Nat × Kd)} {e : Env} {h : Heap},
    (∀ s ∈ σ1, s.2 = .R ∧ kdW k = false ∧ ∃ oj, ops[s.1]? = some oj ∧ oj.apart ops oi = true) → DAL P N ops Q (σ1 ++ (i, k) :: σ2) e h → DAL P N ops Q ((i, k) :: (σ1 ++ σ2)) e h
  | [], _, _, _, p => p
  | (j, kj) :: σ1, e, h, hs, p => by
    obtain ⟨h1, h2, oj, h3, h4⟩ := hs (j, kj) (by simp)
    simp only at h1 h3
    subst h1
    obtain ⟨o, ho, hd, v, hv, p⟩ := p
    have p' := DAL.front (σ2 := σ2) hi (fun s hs' => hs s (by simp [hs'])) p
    exact DAL.swap hi h3 h4 h2 ⟨o, ho, hd, v, hv, p'⟩
end
def edgeB (ops : Array Oper) (i j : Nat) : Bool :=
  match ops[i]? with
  | some o => o.after.any fun e => Region.binds .any e && Nat.beq e.on j
  | none => false
def ancB (A : Array Nat) (i j : Nat) : Bool := (A.getD i 0).testBit j
def apartB (ops : Array Oper) (j i : Nat) : Bool :=
  match ops[j]?, ops[i]? with
  | some oj, some oi => oj.apart ops oi
  | _, _ => false
def kdR : Kd → Bool
  | .R => true
  | _ => false
def pairB (ops : Array Oper) (A : Array Nat) (p q : Nat × Kd) : Bool :=
  !edgeB ops p.1 q.1 && (ancB A q.1 p.1 || (kdR p.2 && !kdW q.2 && apartB ops p.1 q.1))
def pairsB (ops : Array Oper) (A : Array Nat) : List (Nat × Kd) → Bool
  | [] => true
  | p :: σ => !edgeB ops p.1 p.1 && σ.all (fun q => !Nat.beq p.1 q.1 && pairB ops A p q) && pairsB ops A σ
def closeB (ops : Array Oper) (A : Array Nat) : Bool :=
  (List.range ops.size).all fun i => (List.range ops.size).all fun j => !ancB A i j || edgeB ops i j || (List.range ops.size).any fun k => edgeB ops i k && ancB A k j
def rangeB (ops : Array Oper) : Bool := ops.all fun o => o.after.all fun e => !Region.binds .any e || Nat.blt e.on ops.size
def drawB (ops : Array Oper) (σ : List (Nat × Kd)) : Bool :=
  let A := Region.before ops
  Nat.beq σ.length ops.size && (List.range ops.size).all (fun i => σ.any fun p => Nat.beq p.1 i) && σ.all (fun p => Nat.blt p.1 ops.size) && A.all (fun x => Nat.blt x (2 ^ ops.size)) && rangeB ops && pairsB ops A σ && closeB ops A
theorem edgeB_iff {ops : Array Oper} {i j : Nat} {o : Oper} (ho : ops[i]? = some o) : edgeB ops i j = true ↔ ∃ e ∈ o.after, Region.binds .any e = true ∧ e.on = j := by
  simp only [edgeB, ho]
  rw [← Array.any_toList, List.any_eq_true]
  constructor
  · rintro ⟨e, he, hb⟩
    rw [Bool.and_eq_true] at hb
    exact ⟨e, by simpa using he, hb.1, Nat.eq_of_beq_eq_true hb.2⟩
  · rintro ⟨e, he, hb, rfl⟩
    exact ⟨e, by simpa using he, by rw [Bool.and_eq_true]; exact ⟨hb, Nat.beq_refl _⟩⟩
theorem pairsB_sub {ops : Array Oper} {A : Array Nat} : ∀ {σ1 σ2 : List (Nat × Kd)} {p : Nat × Kd}, pairsB ops A (σ1 ++ p :: σ2) = true → pairsB ops A (σ1 ++ σ2) = true ∧ (∀ s ∈ σ1, pairB ops A s p = true ∧ s.1 ≠ p.1) ∧ (∀ s ∈ σ2, s.1 ≠ p.1)
  | [], σ2, p, hp => by
    simp only [List.nil_append, pairsB, Bool.and_eq_true, List.all_eq_true] at hp
    refine ⟨hp.2, by simp, fun s hs he => ?_⟩
    have := (hp.1.2 s hs).1
    rw [he] at this
    simp at this
  | q :: σ1, σ2, p, hp => by
    simp only [List.cons_append, pairsB, Bool.and_eq_true, List.all_eq_true] at hp
    obtain ⟨⟨h0, h1⟩, h2⟩ := hp
    obtain ⟨g1, g2, g3⟩ := pairsB_sub h2
    refine ⟨?_, ?_, g3⟩
    · simp only [List.cons_append, pairsB, Bool.and_eq_true, List.all_eq_true]
      refine ⟨⟨h0, fun s hs => h1 s ?_⟩, g1⟩
      rcases List.mem_append.1 hs with h | h
      · exact List.mem_append_left _ h
      · exact List.mem_append_right _ (by simp [h])
    · intro s hs
      rcases List.mem_cons.1 hs with rfl | hs
      · obtain ⟨u1, u2⟩ := h1 p (List.mem_append_right _ (by simp))
        refine ⟨u2, fun he => ?_⟩
        rw [he] at u1
        simp at u1
      · exact g2 s hs
variable {P : Program} {N : Nat} {ops : Array Oper} {Q : Exit → Env → Heap → Prop}
theorem wpAny_mono {Qc Qc' : Exit → Act → World → Prop} (hq : ∀ e a w, Qc e a w → Qc' e a w) : ∀ (fuel : Nat) (L : Array Bool) (a : Act) (w : World), wpAny P .any ops Qc fuel L a w → wpAny P .any ops Qc' fuel L a w
  | 0, L, a, w, p => ⟨p.1, hq _ _ _ p.2⟩
  | fuel + 1, L, a, w, p => by
    refine ⟨fun hr => hq _ _ _ (p.1 hr), fun i hi => ?_⟩
    have := p.2 i hi
    unfold wpOp at this ⊢
    split
    · rename_i ho
      simp only [ho] at this
      exact wpAny_mono hq fuel _ a w this
    · rename_i o ho
      simp only [ho] at this
      split
      · rename_i hw
        rw [if_pos hw] at this
        rcases this with p | ⟨p1, p2⟩
        · exact .inl (upon_mono (wpAny_mono hq fuel _) hq _ p)
        · exact .inr ⟨p1, letsOut_mono hq p2⟩
      · rename_i hw
        rw [if_neg hw] at this
        exact wpAny_mono hq fuel _ _ w this
theorem any_order (A : Array Nat) (hr : rangeB ops = true) (hc : closeB ops A = true) (hA : ∀ i j, ancB A i j = true → j < ops.size) : ∀ (n : Nat) (σ : List (Nat × Kd)) (L : Array Bool) (env : Env) (h : Heap) (φ : Ren) (a : Act) (w : World), σ.length = n → L.size = ops.size →
    (∀ i, i < ops.size → (L.getD i true = false ↔ ∃ k, (i, k) ∈ σ)) → (∀ s ∈ σ, s.1 < ops.size) → (∀ i j, L.getD i false = true → ancB A i j = true → L.getD j false = true) → pairsB ops A σ = true →
    a.defers = [] → Rel P N φ env h a.tmps w → DAL P N ops Q σ env h → wpAny P .any ops (fun ex a' w' => Post P N φ h w (Q ex) a' w') n L a w := by
  intro n
  induction n with
  | zero =>
    intro σ L env h φ a w hn hL hmem _ _ _ hd r p
    have : σ = [] := List.eq_nil_of_length_eq_zero hn
    subst this
    refine ⟨?_, p φ a w hd r⟩
    apply List.eq_nil_iff_forall_not_mem.2
    intro i hi
    obtain ⟨h1, o, h2, _⟩ := mem_ready.1 hi
    have hlt : i < ops.size := (Array.getElem?_eq_some_iff.1 h2).1
    obtain ⟨k, hk⟩ := (hmem i hlt).1 h1
    cases hk
  | succ n ih =>
    intro σ L env h φ a w hn hL hmem hlt hclo hpr hd r p
    have hin : ∀ j, j < ops.size → (¬ ∃ k, (j, k) ∈ σ) → L.getD j false = true := by
      intro j hj hno
      cases hq : L.getD j true with
      | false => exact absurd ((hmem j hj).1 hq) hno
      | true =>
        have hjl : j < L.size := by omega
        simp only [Array.getD_eq_getD_getElem?, Array.getElem?_eq_getElem hjl, Option.getD_some] at hq ⊢
        exact hq
    have hrange : ∀ (i : Nat) (o : Oper), ops[i]? = some o → ∀ e ∈ o.after, Region.binds .any e = true → e.on < ops.size := by
      intro i o ho e he hb
      have h1 := Array.all_eq_true_iff_forall_mem.1 hr o (Array.mem_of_getElem? ho)
      have h2 := Array.all_eq_true_iff_forall_mem.1 h1 e he
      simp only [hb, Bool.not_true, Bool.false_or] at h2
      simpa [Nat.blt_eq] using h2
    refine ⟨fun hnil => ?_, fun i hi => ?_⟩
    · exfalso
      obtain ⟨⟨i0, k0⟩, σ', rfl⟩ : ∃ s σ', σ = s :: σ' := by
        cases σ with
        | nil => simp at hn
        | cons s σ' => exact ⟨s, σ', rfl⟩
      have hi0 := hlt (i0, k0) (by simp)
      have ho0 : ops[i0]? = some ops[i0] := Array.getElem?_eq_getElem hi0
      have : i0 ∈ Region.ready .any ops L := by
        refine mem_ready.2 ⟨(hmem i0 hi0).2 ⟨k0, by simp⟩, ops[i0], ho0, fun e he hb => ?_⟩
        have hedge : edgeB ops i0 e.on = true := (edgeB_iff ho0).2 ⟨e, he, hb, rfl⟩
        refine hin e.on (hrange i0 _ ho0 e he hb) ?_
        rintro ⟨k, hk⟩
        simp only [pairsB, Bool.and_eq_true, List.all_eq_true, Bool.not_eq_eq_eq_not, Bool.not_true] at hpr
        rcases List.mem_cons.1 hk with hk | hk
        · cases hk
          rw [hpr.1.1] at hedge; cases hedge
        · have := (hpr.1.2 _ hk).2
          simp only [pairB, Bool.and_eq_true, Bool.not_eq_eq_eq_not, Bool.not_true] at this
          rw [this.1] at hedge; cases hedge
      rw [hnil] at this
      cases this
    · obtain ⟨hi1, o, ho, hedges⟩ := mem_ready.1 hi
      have hilt : i < ops.size := (Array.getElem?_eq_some_iff.1 ho).1
      obtain ⟨k, hk⟩ := (hmem i hilt).1 hi1
      obtain ⟨σ1, σ2, rfl⟩ := List.append_of_mem hk
      obtain ⟨hp1, hp2, hp3⟩ := pairsB_sub hpr
      have hanc : ∀ j, ancB A i j = true → L.getD j false = true := by
        intro j hj
        have hjl := hA i j hj
        have h1 := List.all_eq_true.1 (List.all_eq_true.1 hc i (List.mem_range.2 hilt)) j (List.mem_range.2 hjl)
        simp only [hj, Bool.not_true, Bool.false_or, Bool.or_eq_true, List.any_eq_true, Bool.and_eq_true] at h1
        rcases h1 with h1 | ⟨m, _, h2, h3⟩
        · obtain ⟨e, he, hb, rfl⟩ := (edgeB_iff ho).1 h1
          exact hedges e he hb
        · obtain ⟨e, he, hb, rfl⟩ := (edgeB_iff ho).1 h2
          exact hclo _ j (hedges e he hb) h3
      have hfr : ∀ s ∈ σ1, s.2 = .R ∧ kdW k = false ∧ ∃ oj, ops[s.1]? = some oj ∧ oj.apart ops o = true := by
        intro s hs
        obtain ⟨u1, u2⟩ := hp2 s hs
        simp only [pairB, Bool.and_eq_true, Bool.or_eq_true, Bool.not_eq_eq_eq_not, Bool.not_true] at u1
        rcases u1.2 with u3 | ⟨⟨u3, u4⟩, u5⟩
        · exfalso
          have h1 := hanc s.1 u3
          have h2 := (hmem s.1 (hlt s (by simp [hs]))).2 ⟨s.2, by simp [hs]⟩
          have hjl : s.1 < L.size := by rw [hL]; exact hlt s (by simp [hs])
          simp only [Array.getD_eq_getD_getElem?, Array.getElem?_eq_getElem hjl, Option.getD_some] at h1 h2
          rw [h1] at h2; cases h2
        · refine ⟨?_, u4, ?_⟩
          · cases hs2 : s.2 with
            | R => rfl
            | X => rw [hs2] at u3; cases u3
            | W => rw [hs2] at u3; cases u3
          · unfold apartB at u5
            rw [ho] at u5
            cases hoj : ops[s.1]? with
            | none => rw [hoj] at u5; cases u5
            | some oj => rw [hoj] at u5; exact ⟨oj, rfl, u5⟩
      have pf := DAL.front ho hfr p
      have hL' : (L.setIfInBounds i true).size = ops.size := by simp [hL]
      have hlen' : (σ1 ++ σ2).length = n := by simp at hn ⊢; omega
      have hmem' : ∀ j, j < ops.size → ((L.setIfInBounds i true).getD j true = false ↔ ∃ k, (j, k) ∈ σ1 ++ σ2) := by
        intro j hj
        by_cases hji : i = j
        · subst hji
          have : (L.setIfInBounds i true).getD i true = true := by
            simp [Array.getD_eq_getD_getElem?]
          rw [this]
          constructor
          · intro e; cases e
          · rintro ⟨k', hk'⟩
            exfalso
            rcases List.mem_append.1 hk' with h1 | h1
            · exact (hp2 _ h1).2 rfl
            · exact hp3 _ h1 rfl
        · rw [getD_set_ne _ hji, hmem j hj]
          constructor
          · rintro ⟨k', hk'⟩
            refine ⟨k', ?_⟩
            rcases List.mem_append.1 hk' with h1 | h1
            · exact List.mem_append_left _ h1
            · rcases List.mem_cons.1 h1 with h2 | h2
              · cases h2; exact absurd rfl hji
              · exact List.mem_append_right _ h2
          · rintro ⟨k', hk'⟩
            refine ⟨k', ?_⟩
            rcases List.mem_append.1 hk' with h1 | h1
            · exact List.mem_append_left _ h1
            · exact List.mem_append_right _ (by simp [h1])
      have hlt' : ∀ s ∈ σ1 ++ σ2, s.1 < ops.size := by
        intro s hs
        refine hlt s ?_
        rcases List.mem_append.1 hs with h1 | h1
        · exact List.mem_append_left _ h1
        · exact List.mem_append_right _ (by simp [h1])
      have hclo' : ∀ x y, (L.setIfInBounds i true).getD x false = true → ancB A x y = true → (L.setIfInBounds i true).getD y false = true := by
        intro x y hx hxy
        refine getD_set_true ?_
        by_cases hxi : i = x
        · subst hxi; exact hanc y hxy
        · rw [getD_set_ne _ hxi] at hx
          exact hclo x y hx hxy
      have go : ∀ (φ' : Ren) (env' : Env) (h' : Heap) (a' : Act) (w' : World), a'.defers = [] → Rel P N φ' env' h' a'.tmps w' → Step φ h w φ' h' w' → DAL P N ops Q (σ1 ++ σ2) env' h' →
          wpAny P .any ops (fun ex a2 w2 => Post P N φ h w (Q ex) a2 w2) n (L.setIfInBounds i true) a' w' := by
        intro φ' env' h' a' w' hd' r' st p'
        exact wpAny_mono (fun _ _ _ hp => hp.trans st) _ _ _ _ (ih (σ1 ++ σ2) _ env' h' φ' a' w' hlen' hL' hmem' hlt' hclo' hp1 hd' r' p')
      have run : ∀ (K : Value → Heap → Prop), dstB N o.dst = true → gv ops env o = some true → AOp P o (ev P env) h K → (∀ v h', K v h' → DAL P N ops Q (σ1 ++ σ2) (env.put o.dst v) h') →
          wpOp P ops (fun ex a2 w2 => Post P N φ h w (Q ex) a2 w2) i (wpAny P .any ops (fun ex a2 w2 => Post P N φ h w (Q ex) a2 w2) n (L.setIfInBounds i true)) a w := by
        intro K hdst hg hop hk
        simp only [wpOp, ho, wanted_of r hg, if_true]
        refine .inl (hop φ a w ⟨r.sim, fun x _ => r.ev x⟩ _ _ fun c w' φ' h' v kv vr s st => ?_)
        exact go φ' _ h' _ w' (by rw [put_defers]; exact hd) ((r.step s st).put o.dst (dstB_lt hdst) vr) st (hk v h' kv)
      have skip : dstB N o.dst = true → gv ops env o = some false → DAL P N ops Q (σ1 ++ σ2) (env.put o.dst skipV) h →
          wpOp P ops (fun ex a2 w2 => Post P N φ h w (Q ex) a2 w2) i (wpAny P .any ops (fun ex a2 w2 => Post P N φ h w (Q ex) a2 w2) n (L.setIfInBounds i true)) a w := by
        intro hdst hg hk
        simp only [wpOp, ho, wanted_of r hg, Bool.false_eq_true, if_false]
        exact go φ _ h _ w (by rw [put_defers]; exact hd) (r.put o.dst (dstB_lt hdst) .skip) (Step.refl _ _ _) hk
      cases k with
      | R =>
        obtain ⟨o', ho', hdst, v, hv, pk⟩ := pf
        rw [ho] at ho'; cases ho'
        rcases hv with ⟨g1, g2⟩ | ⟨g1, rfl⟩
        · exact run _ hdst g1 (g2 h (Ext.refl h) (Nat.le_refl _)) fun v' h' ⟨e1, e2⟩ => by subst e1 e2; exact pk
        · exact skip hdst g1 pk
      | X =>
        obtain ⟨o', ho', hdst, hv⟩ := pf
        rw [ho] at ho'; cases ho'
        rcases hv with ⟨g1, g2⟩ | ⟨g1, g2⟩
        · exact run _ hdst g1 g2 fun v' h' ⟨_, e2⟩ => e2
        · exact skip hdst g1 g2
      | W =>
        obtain ⟨o', ho', hdst, hv⟩ := pf
        rw [ho] at ho'; cases ho'
        rcases hv with ⟨g1, g2⟩ | ⟨g1, g2⟩
        · exact run _ hdst g1 g2 fun v' h' e2 => e2
        · exact skip hdst g1 g2
theorem AWp.draw {id : Nat} {σ : List (Nat × Kd)} {env : Env} {h : Heap} (hm : P.follows .mixedOrders = true) (hb : drawB ops σ = true) (p : DAL P N ops Q σ env h) : AWp P N (.region id ops true) Q env h := by
  intro φ a w hd r
  simp only [drawB, Bool.and_eq_true] at hb
  obtain ⟨⟨⟨⟨⟨⟨b1, b2⟩, b3⟩, b4⟩, b5⟩, b6⟩, b7⟩ := hb
  have b1' : σ.length = ops.size := Nat.eq_of_beq_eq_true b1
  refine wp_region_any hm ?_
  have r' : Rel P N φ env h a.tmps w.drew := ⟨r.sim.drew, r.size, r.env⟩
  refine wpAny_mono (fun _ _ _ hp => hp.trans Step.drew) _ _ _ _ (any_order (Region.before ops) b5 b7 ?_ ops.size σ (Array.replicate ops.size false) env h φ a w.drew b1' (by simp) ?_ ?_ ?_ b6 hd r' p)
  · intro i j hij
    unfold ancB at hij
    rcases Nat.lt_or_ge j ops.size with hl | hl
    · exact hl
    · exfalso
      have hx : (Region.before ops).getD i 0 < 2 ^ ops.size := by
        rcases Nat.lt_or_ge i (Region.before ops).size with h1 | h1
        · have := Array.all_eq_true_iff_forall_mem.1 b4 ((Region.before ops)[i]) (by simp)
          rw [Array.getD_eq_getD_getElem?, Array.getElem?_eq_getElem h1]
          simpa [Nat.blt_eq] using this
        · rw [Array.getD_eq_getD_getElem?, Array.getElem?_eq_none h1]
          exact Nat.two_pow_pos _
      have := Nat.testBit_lt_two_pow (Nat.lt_of_lt_of_le hx (Nat.pow_le_pow_right (by omega) hl))
      rw [this] at hij
      cases hij
  · intro i hi
    have h1 : (Array.replicate ops.size false).getD i true = false := by
      simp [Array.getD_eq_getD_getElem?, hi]
    rw [h1]
    simp only [true_iff]
    have := List.all_eq_true.1 b2 i (List.mem_range.2 hi)
    obtain ⟨⟨j, k⟩, h2, h3⟩ := List.any_eq_true.1 this
    have : j = i := Nat.eq_of_beq_eq_true h3
    subst this
    exact ⟨k, h2⟩
  · intro s hs
    simpa [Nat.blt_eq] using List.all_eq_true.1 b3 s hs
  · intro i j hi
    exfalso
    by_cases hl : i < ops.size
    · simp [Array.getD_eq_getD_getElem?, hl] at hi
    · simp [Array.getD_eq_getD_getElem?, hl] at hi
section steps
variable {i : Nat} {σ : List (Nat × Kd)} {env : Env} {h : Heap} {d : Tmp} {op : Op} {ty : TypeId} {pos : String} {aft : Array Edge} {g : Option (Nat × Bool)}
theorem DAL.r {v : Value} (ho : ops[i]? = some ⟨some d, op, ty, pos, aft, g⟩) (hd : Nat.blt d N = true) (hg : gv ops env ⟨some d, op, ty, pos, aft, g⟩ = some true) (hv : ∀ h', Ext h h' → h.next ≤ h'.next → AOp P ⟨some d, op, ty, pos, aft, g⟩ (ev P env) h' fun v' h'' => v' = v ∧ h'' = h')
    (k : DAL P N ops Q σ ((d, v) :: env) h) : DAL P N ops Q ((i, .R) :: σ) env h := ⟨_, ho, hd, v, .inl ⟨hg, hv⟩, k⟩
theorem DAL.skip {kd : Kd} (ho : ops[i]? = some ⟨some d, op, ty, pos, aft, g⟩) (hd : Nat.blt d N = true) (hg : gv ops env ⟨some d, op, ty, pos, aft, g⟩ = some false)
    (k : DAL P N ops Q σ ((d, skipV) :: env) h) : DAL P N ops Q ((i, kd) :: σ) env h := by
  cases kd
  · exact ⟨_, ho, hd, skipV, .inr ⟨hg, rfl⟩, k⟩
  · exact ⟨_, ho, hd, .inr ⟨hg, k⟩⟩
  · exact ⟨_, ho, hd, .inr ⟨hg, k⟩⟩
theorem DAL.x (ho : ops[i]? = some ⟨some d, op, ty, pos, aft, g⟩) (hd : Nat.blt d N = true) (hg : gv ops env ⟨some d, op, ty, pos, aft, g⟩ = some true) (hv : AOp P ⟨some d, op, ty, pos, aft, g⟩ (ev P env) h fun v h' => Ext h h' ∧ DAL P N ops Q σ ((d, v) :: env) h') :
    DAL P N ops Q ((i, .X) :: σ) env h := ⟨_, ho, hd, .inl ⟨hg, hv⟩⟩
theorem DAL.w0 (ho : ops[i]? = some ⟨none, op, ty, pos, aft, g⟩) (hg : gv ops env ⟨none, op, ty, pos, aft, g⟩ = some true) (hv : AOp P ⟨none, op, ty, pos, aft, g⟩ (ev P env) h fun _ h' => DAL P N ops Q σ env h') :
    DAL P N ops Q ((i, .W) :: σ) env h := ⟨_, ho, rfl, .inl ⟨hg, hv⟩⟩
theorem DAL.heap {h' : Heap} (e : h' = h) (p : DAL P N ops Q σ env h) : DAL P N ops Q σ env h' := e ▸ p
theorem DAL.nil (k : Q .normal env h) : DAL P N ops Q [] env h := fun _ _ _ hd r => Post.now k hd r
end steps
end Go.Eng
/-
  The engine, part L: slices by what they read avs.
-/
namespace Go.Eng
open Go
variable {P : Program} {ρ : Operand → Value} {h : Heap} {K : Value → Heap → Prop} {dst : Option Tmp} {ty : TypeId} {pos : String} {aft : Array Edge} {g : Option (Nat × Bool)}
def subS (v : Value) (l m : Int) : Value :=
  match v with
  | .slice (some ⟨i, o, s⟩) _ c => .slice (some ⟨i, o + l.toNat * 1, s⟩) (m - l).toNat (c - l.toNat)
  | _ => .slice none 0 0
def ptrS (v : Value) (a : Int) : Value :=
  match v with
  | .slice (some ⟨i, o, _⟩) _ _ => .pointer (some ⟨i, o + a.toNat * 1, none⟩)
  | _ => undef
def RS (h : Heap) (v : Value) (vs : List Value) : Prop :=
  (v = .slice none 0 0 ∧ vs = []) ∨
  ∃ i o s c, v = .slice (some ⟨i, o, s⟩) vs.length c ∧ (s = none ∨ s = some 1) ∧ (vs ≠ [] → ∃ b, h.get i = some b ∧ o + vs.length ≤ b.cells.length ∧ (b.cells.drop o).take vs.length = vs)
def RB (h : Heap) (v : Value) (l : List UInt8) : Prop := RS h v (bv l)
def RBB (h : Heap) (v : Value) (ll : List (List UInt8)) : Prop := ∃ vs, RS h v vs ∧ vs.length = ll.length ∧ ∀ (k : Nat) x l, vs[k]? = some x → ll[k]? = some l → RB h x l
theorem RS.ext {h h' : Heap} {v : Value} {vs : List Value} (r : RS h v vs) (hx : Ext h h') : RS h' v vs := by
  rcases r with r | ⟨i, o, s, c, h1, h2, h3⟩
  · exact .inl r
  · exact .inr ⟨i, o, s, c, h1, h2, fun hv => by obtain ⟨b, h4, h5⟩ := h3 hv; exact ⟨b, hx i b h4, h5⟩⟩
theorem RB.ext {h h' : Heap} {v : Value} {l : List UInt8} (r : RB h v l) (hx : Ext h h') : RB h' v l := RS.ext r hx
theorem RBB.ext {h h' : Heap} {v : Value} {l : List (List UInt8)} (r : RBB h v l) (hx : Ext h h') : RBB h' v l := by
  obtain ⟨vs, h1, h2, h3⟩ := r
  exact ⟨vs, h1.ext hx, h2, fun k x l hk hl => (h3 k x l hk hl).ext hx⟩
theorem RS.slice {v : Value} {vs : List Value} (r : RS h v vs) : ∃ a c, v = .slice a vs.length c := by
  rcases r with ⟨rfl, rfl⟩ | ⟨i, o, s, c, h1, _⟩
  · exact ⟨none, 0, rfl⟩
  · exact ⟨_, c, h1⟩
theorem RS.nil (h : Heap) : RS h (.slice none 0 0) [] := .inl ⟨rfl, rfl⟩
theorem RS.of {i o n c : Nat} {s : Option Nat} {b : Blk} {vs : List Value} (hi : h.get i = some b) (hs : s = none ∨ s = some 1) (hn : vs.length = n) (hl : o + n ≤ b.cells.length) (hv : (b.cells.drop o).take n = vs) : RS h (.slice (some ⟨i, o, s⟩) n c) vs := by
  subst hn
  exact .inr ⟨i, o, s, c, rfl, hs, fun _ => ⟨b, hi, hl, hv⟩⟩
theorem RS.own {i n c : Nat} {e : TypeId} {w : Bool} {vs : List Value} (hi : h.get i = some ⟨vs, e, w⟩) (hn : vs.length = n) : RS h (.slice (some ⟨i, 0, some 1⟩) n c) vs := by
  subst hn
  exact .inr ⟨i, 0, some 1, c, rfl, .inr rfl, fun _ => ⟨_, hi, by simp, by simp⟩⟩
theorem RS.src {v : Value} {vs : List Value} (r : RS h v vs) : Src h 1 v vs.length vs := by
  rcases r with ⟨rfl, rfl⟩ | ⟨i, o, s, c, rfl, hs, hb⟩
  · exact .nil
  · by_cases hv : vs = []
    · subst hv; exact .empty _ _
    · obtain ⟨b, h1, h2, h3⟩ := hb hv
      have := Src.slice (h := h) (sz := 1) i o s vs.length c b h1 (by omega)
      rw [Nat.mul_one, h3] at this
      exact this
theorem RB.src {v : Value} {l : List UInt8} (r : RB h v l) : Src h 1 v l.length (bv l) := by
  have := RS.src r
  rwa [bv_length] at this
theorem op_lenR {x : Operand} {t e : TypeId} {v : Value} {vs : List Value} [td : TyD P t (.slice e)] (r : RS h v vs) (hx : ρ x = v) (kk : K (.int .i64 vs.length) h) :
    AOp P ⟨dst, .call ⟨.builtin .len, #[x], #[t]⟩, ty, pos, aft, g⟩ ρ h K := by
  obtain ⟨a, c, e⟩ := r.slice
  exact op_lenS (hx.trans e) kk
theorem op_lenRB {x : Operand} {t e : TypeId} {v : Value} {l : List UInt8} [td : TyD P t (.slice e)] (r : RB h v l) (hx : ρ x = v) (kk : K (.int .i64 l.length) h) :
    AOp P ⟨dst, .call ⟨.builtin .len, #[x], #[t]⟩, ty, pos, aft, g⟩ ρ h K := op_lenR r hx (by rw [bv_length]; exact kk)
theorem op_lenRBB {x : Operand} {t e : TypeId} {v : Value} {l : List (List UInt8)} [td : TyD P t (.slice e)] (r : RBB h v l) (hx : ρ x = v) (kk : K (.int .i64 l.length) h) :
    AOp P ⟨dst, .call ⟨.builtin .len, #[x], #[t]⟩, ty, pos, aft, g⟩ ρ h K := by
  obtain ⟨vs, h1, h2, _⟩ := r
  exact op_lenR h1 hx (by rw [h2]; exact kk)
def PT (h : Heap) (p v : Value) : Prop := ∃ i o s b, p = .pointer (some ⟨i, o, s⟩) ∧ h.get i = some b ∧ b.cells[o]? = some v
theorem op_indexD {t e : TypeId} {x y : Operand} {by_ : Nat} {z v u : Value} {k : IntKind} {a : Int} {vs : List Value} [td : TyD P t (.slice e)] [ti : TyI P e 1 by_ z] (r : RS h v vs) (hx : ρ x = v) (hy : ρ y = .int k a) (h0 : 0 ≤ a)
    (hu : vs[a.toNat]? = some u) (kk : PT h (ptrS v a) u → K (ptrS v a) h) : AOp P ⟨dst, .indexAddr t x y, ty, pos, aft, g⟩ ρ h K := by
  have hl := (List.getElem?_eq_some_iff.1 hu).1
  rcases r with ⟨rfl, rfl⟩ | ⟨i, o, s, c, rfl, hs, hb⟩
  · simp at hl
  · obtain ⟨b, h1, h2, h3⟩ := hb (by intro e; subst e; simp at hl)
    refine op_indexS hx hy h0 (by omega) (kk ⟨i, o + a.toNat * 1, none, b, rfl, h1, ?_⟩)
    rw [Nat.mul_one]
    have : ((b.cells.drop o).take vs.length)[a.toNat]? = some u := by rw [h3]; exact hu
    rw [List.getElem?_take_of_lt hl, List.getElem?_drop] at this
    exact this
theorem op_indexR {t e : TypeId} {x y : Operand} {by_ : Nat} {z v u : Value} {k : IntKind} {a : Int} {vs : List Value} [td : TyD P t (.slice e)] [ti : TyI P e 1 by_ z] (r : RS h v vs) (hx : ρ x = v) (hy : ρ y = .int k a) (h0 : 0 ≤ a)
    (hu : vs[a.toNat]? = some u) (kk : ∀ p, PT h p u → K p h) : AOp P ⟨dst, .indexAddr t x y, ty, pos, aft, g⟩ ρ h K := op_indexD r hx hy h0 hu (kk _)
theorem PT.of {v u : Value} {vs : List Value} {a : Int} (r : RS h v vs) (hu : vs[a.toNat]? = some u) : PT h (ptrS v a) u := by
  have hl := (List.getElem?_eq_some_iff.1 hu).1
  rcases r with ⟨rfl, rfl⟩ | ⟨i, o, s, c, rfl, hs, hb⟩
  · simp at hl
  · obtain ⟨b, h1, h2, h3⟩ := hb (by intro e; subst e; simp at hl)
    refine ⟨i, o + a.toNat * 1, none, b, rfl, h1, ?_⟩
    rw [Nat.mul_one]
    have : ((b.cells.drop o).take vs.length)[a.toNat]? = some u := by rw [h3]; exact hu
    rw [List.getElem?_take_of_lt hl, List.getElem?_drop] at this
    exact this
theorem op_loadR {t : TypeId} {x : Operand} {p v : Value} {d : TypeDesc} [td : TyD P t d] (r : PT h p v) (hx : ρ x = p) (ha : aggB d = false) (kk : K v h) : AOp P ⟨dst, .load t x, ty, pos, aft, g⟩ ρ h K := by
  obtain ⟨i, o, s, b, rfl, h1, h2⟩ := r
  exact op_load hx ha h1 h2 kk
theorem RS.sub {v : Value} {vs : List Value} {l m : Int} (r : RS h v vs) (h0 : 0 ≤ l) (h1 : l ≤ m) (h2 : m ≤ vs.length) : RS h (subS v l m) ((vs.take m.toNat).drop l.toNat) := by
  rcases r with ⟨rfl, rfl⟩ | ⟨i, o, s, c, rfl, hs, hb⟩
  · exact .inl ⟨rfl, by simp⟩
  · have hlen : ((vs.take m.toNat).drop l.toNat).length = (m - l).toNat := by simp; omega
    refine .inr ⟨i, o + l.toNat * 1, s, c - l.toNat, by rw [hlen]; rfl, hs, fun hne => ?_⟩
    have hv : vs ≠ [] := by intro e; subst e; simp at hne
    obtain ⟨b, q1, q2, q3⟩ := hb hv
    refine ⟨b, q1, by rw [hlen]; omega, ?_⟩
    rw [hlen, Nat.mul_one]
    have : (vs.take m.toNat).drop l.toNat = ((((b.cells.drop o).take vs.length).take m.toNat).drop l.toNat) := by rw [q3]
    rw [this, List.take_take, List.drop_take, List.drop_drop]
    congr 1
    omega
theorem op_sliceD {t e : TypeId} {x : Operand} {lo hi : Option Operand} {by_ : Nat} {z v : Value} {l m : Int} {vs : List Value} [td : TyD P t (.slice e)] [ti : TyI P e 1 by_ z] (r : RS h v vs) (hx : ρ x = v)
    (hl : bnd ρ lo 0 = some l) (hm : bnd ρ hi vs.length = some m) (h0 : 0 ≤ l) (h1 : l ≤ m) (h2 : m ≤ vs.length) (kk : K (subS v l m) h) : AOp P ⟨dst, .slice t x lo hi none, ty, pos, aft, g⟩ ρ h K := by
  rcases r with ⟨rfl, rfl⟩ | ⟨i, o, s, c, rfl, hs, hb⟩
  · simp only [List.length_nil] at h2 hm
    obtain rfl : l = 0 := by omega
    obtain rfl : m = 0 := by omega
    exact op_sliceNil hx hl hm kk
  · exact op_slice hx hl hm h0 h1 h2 hs kk
theorem RB.sub {v : Value} {bs : List UInt8} {l m : Int} (r : RB h v bs) (h0 : 0 ≤ l) (h1 : l ≤ m) (h2 : m ≤ bs.length) : RB h (subS v l m) ((bs.take m.toNat).drop l.toNat) := by
  have := RS.sub (l := l) (m := m) r h0 h1 (by rw [bv_length]; exact h2)
  rw [bv_take, bv_drop] at this
  exact this
theorem op_sliceDB {t e : TypeId} {x : Operand} {lo hi : Option Operand} {by_ : Nat} {z v : Value} {l m : Int} {bs : List UInt8} [td : TyD P t (.slice e)] [ti : TyI P e 1 by_ z] (r : RB h v bs) (hx : ρ x = v)
    (hl : bnd ρ lo 0 = some l) (hm : bnd ρ hi bs.length = some m) (h0 : 0 ≤ l) (h1 : l ≤ m) (h2 : m ≤ bs.length) (kk : K (subS v l m) h) : AOp P ⟨dst, .slice t x lo hi none, ty, pos, aft, g⟩ ρ h K :=
  op_sliceD r hx hl (by rw [bv_length]; exact hm) h0 h1 (by rw [bv_length]; exact h2) kk
theorem op_bytesStrR {sT dT e : TypeId} {x : Operand} {v : Value} {l : List UInt8} [ts : TyD P sT (.slice e)] [te : TyD P e (.int .u8)] [td : TyD P dT .string] (r : RB h v l) (hx : ρ x = v) (kk : K (.string (bstr l)) h) : AOp P ⟨dst, .convert sT dT x, ty, pos, aft, g⟩ ρ h K := by
  rcases r with ⟨rfl, hl⟩ | ⟨i, o, s, c, rfl, hs, hb⟩
  · have : l = [] := by cases l with | nil => rfl | cons _ _ => simp [bv] at hl
    subst this
    exact op_nilStr hx kk
  · rw [bv_length] at hx hb
    by_cases hv : l = []
    · subst hv
      refine .of_pure kk fun φ ac w r => ?_
      obtain ⟨cap', a', e1, _⟩ := (hx ▸ r.ev x (by simp [Op.operands])).slice_inv
      refine ⟨.string (bstr []), ?_, .string _⟩
      have hr := run_convert_bytes_back (P := P) w sT dT e a' cap' [] ts.eq te.eq td.eq (by intro j hj; simp at hj)
      simp only [List.length_nil] at hr e1
      simp [execOp, e1, hr, bstr]
    · obtain ⟨b, h1, h2, h3⟩ := hb (by cases l with | nil => exact absurd rfl hv | cons _ _ => simp [bv])
      exact op_bytesStr hx h1 h2 h3 kk
theorem RS.one {v : Value} {vs : List Value} (r : RS h v vs) : oneB v = true ∧ v ≠ undef := by
  obtain ⟨a, c, e⟩ := r.slice
  subst e
  exact ⟨rfl, fun h => by cases h⟩
theorem fillRow {n : Nat} : ∀ (vs : List Value) (k : Nat) (cells : List Value), (∀ v ∈ vs, oneB v = true) → k + vs.length ≤ cells.length → n = cells.length →
    fillA (fun i => some (i * 1, 1)) cells ((List.range' k vs.length).zip vs) = some (splice cells k vs)
  | [], k, cells, _, _, _ => by simp [fillA, splice]
  | v :: vs, k, cells, h1, h2, h3 => by
    have hc : v.cells = #[v] := by
      have := h1 v (by simp)
      cases v <;> first | rfl | (simp [oneB] at this)
    simp only [List.length_cons] at h2
    simp only [List.length_cons, List.range'_succ, List.zip_cons_cons, fillA, hc, Nat.mul_one]
    have hne : ¬ ((decide ((#[v] : Array Value).size ≠ 1) || decide (k + (#[v] : Array Value).size > cells.length)) = true) := by
      simp only [List.size_toArray, List.length_cons, List.length_nil]
      simp
      omega
    rw [if_neg hne]
    have ih := fillRow vs (k + 1) (splice cells k [v]) (fun u hu => h1 u (by simp [hu])) (by rw [length_splice (by simp; omega)]; omega) (h3.trans (length_splice (by simp; omega)).symm)
    simp only [Nat.mul_one] at ih
    rw [ih]
    congr 1
    apply List.ext_getElem?
    intro j
    rw [splice_get _ _ _ (by rw [length_splice (by simp; omega)]; omega), splice_get _ _ _ (by simp; omega), splice_get _ _ _ (by simp only [List.length_cons]; omega)]
    by_cases e1 : j = k
    · subst e1
      rw [if_neg (by omega), if_pos (by simp), if_pos (by simp)]
      simp
    · by_cases e2 : k + 1 ≤ j ∧ j < k + 1 + vs.length
      · rw [if_pos e2, if_pos (by simp; omega)]
        rw [show j - k = (j - (k + 1)) + 1 from by omega]
        simp
      · rw [if_neg e2, if_neg (by simp; omega), if_neg (by simp; omega)]
theorem splice_all (cells vs : List Value) (hl : vs.length = cells.length) : splice cells 0 vs = vs := by
  simp [splice, hl]
theorem op_row {t e by_ : Nat} {z : Value} {len : Nat} {parts : Array (Nat × Operand)} (vs : List Value) [td : TyD P t (.slice e)] [ti : TyI P e 1 by_ z] (hz : oneB z = true) (hl : Nat.ble len 16777216 = true) (hp : parts.toList.map (fun p => (p.1, ρ p.2)) = (List.range' 0 vs.length).zip vs) (hlen : vs.length = len)
    (h1 : ∀ v ∈ vs, oneB v = true) (kk : K (.slice (some ⟨h.next, 0, some 1⟩) len len) (h.alloc ⟨vs, e, true⟩)) : AOp P ⟨dst, .buildSlice t len parts, ty, pos, aft, g⟩ ρ h K := by
  refine op_buildSlice (out := vs) hz (Nat.le_of_ble_eq_true hl) ?_ ?_ hlen kk
  · intro p hpm hu
    have hm : (p.1, ρ p.2) ∈ parts.toList.map (fun p => (p.1, ρ p.2)) := List.mem_map.2 ⟨p, hpm, rfl⟩
    rw [hp] at hm
    have hv := (List.of_mem_zip hm).2
    rw [hu] at hv
    have := h1 _ hv
    cases this
  · rw [hp]
    have hrow := fillRow (n := len) vs 0 (List.replicate len z) h1 (by simp; omega) (by simp)
    rw [hrow, splice_all _ _ (by simp; omega)]
def RBs (h : Heap) : List Value → List (List UInt8) → Prop
  | [], [] => True
  | v :: vs, l :: ll => RB h v l ∧ RBs h vs ll
  | _, _ => False
theorem RBs.at {h : Heap} : ∀ {vs : List Value} {ll : List (List UInt8)}, RBs h vs ll → vs.length = ll.length ∧ ∀ (k : Nat) x l, vs[k]? = some x → ll[k]? = some l → RB h x l
  | [], [], _ => ⟨rfl, fun k x l hk => by simp at hk⟩
  | v :: vs, l :: ll, ⟨h1, h2⟩ => by
    obtain ⟨e, h3⟩ := RBs.at h2
    refine ⟨by simp [e], fun k x l' hk hl => ?_⟩
    cases k with
    | zero => simp at hk hl; subst hk hl; exact h1
    | succ k => exact h3 k x l' (by simpa using hk) (by simpa using hl)
  | [], _ :: _, h => h.elim
  | _ :: _, [], h => h.elim
theorem RBB.row {h : Heap} {i n c : Nat} {e : TypeId} {w : Bool} {vs : List Value} {ll : List (List UInt8)} (hg : h.get i = some ⟨vs, e, w⟩) (hn : vs.length = n) (r : RBs h vs ll) : RBB h (.slice (some ⟨i, 0, some 1⟩) n c) ll :=
  ⟨vs, RS.own hg hn, r.at.1, r.at.2⟩
theorem bv_ones (l : List UInt8) : ∀ v ∈ bv l, oneB v = true := List.all_eq_true.1 (bv_one l)
structure RoB where
  cells : List Value
  at_ : Addr
def roHeap (G : Nat) (bs : List RoB) : Heap := ⟨fun i => if i < G then none else (bs[i - G]?).bind fun b => if b.cells.isEmpty then none else some ⟨b.cells, 0, false⟩, G + bs.length, fun _ => none⟩
def roRen (G : Nat) (bs : List RoB) : Ren := fun i => if i < G then ⟨i, 0, 0⟩ else match bs[i - G]? with
  | some b => ⟨b.at_.block, b.at_.off, 0⟩
  | none => ⟨0, 0, 0⟩
def roOk (G : Nat) (bs : List RoB) (W : World) : Prop := ∀ b ∈ bs, b.at_.spot = none ∧ ∀ (k : Nat) v, b.cells[k]? = some v → ∃ c, W.cell? (b.at_.add k) = some c ∧ VRel (roRen G bs) (G + bs.length) v c
theorem roSim {bs : List RoB} {W : World} (hok : roOk P.globals.size bs W) : Sim P (roRen P.globals.size bs) (roHeap P.globals.size bs) W := by
  have key : ∀ i b, (roHeap P.globals.size bs).get i = some b → ∃ rb, P.globals.size ≤ i ∧ bs[i - P.globals.size]? = some rb ∧ b = ⟨rb.cells, 0, false⟩ ∧ rb.cells ≠ [] := by
    intro i b hb
    have : (if i < P.globals.size then none else (bs[i - P.globals.size]?).bind fun b => if b.cells.isEmpty then none else some (⟨b.cells, 0, false⟩ : Blk)) = some b := hb
    split at this
    · cases this
    · cases hq : bs[i - P.globals.size]? with
      | none => rw [hq] at this; cases this
      | some rb =>
        rw [hq] at this
        simp only [Option.bind_some] at this
        split at this
        · cases this
        · rename_i hne
          cases this
          exact ⟨rb, by omega, rfl, rfl, by simpa using hne⟩
  have hren : ∀ i rb, P.globals.size ≤ i → bs[i - P.globals.size]? = some rb → roRen P.globals.size bs i = ⟨rb.at_.block, rb.at_.off, 0⟩ := by
    intro i rb hi hq
    simp only [roRen]
    rw [if_neg (by omega), hq]
  have hcell : ∀ (rb : RoB), rb ∈ bs → ∀ (k : Nat) v, rb.cells[k]? = some v → ∃ c, W.cell? ⟨rb.at_.block, rb.at_.off + k, none⟩ = some c ∧ VRel (roRen P.globals.size bs) (P.globals.size + bs.length) v c := by
    intro rb hm k v hk
    obtain ⟨h1, h2⟩ := hok rb hm
    obtain ⟨c, h3, h4⟩ := h2 k v hk
    refine ⟨c, ?_, h4⟩
    obtain ⟨⟨bl, of_, sp⟩⟩ : ∃ a, a = rb.at_ := ⟨_, rfl⟩
    rw [show (⟨rb.at_.block, rb.at_.off + k, none⟩ : Addr) = rb.at_.add k from by
      cases ha : rb.at_ with
      | mk bl of_ sp =>
        rw [ha] at h1
        simp only at h1
        subst h1
        rw [Addr.add_lit]]
    exact h3
  refine ⟨⟨?_, fun _ _ => rfl⟩, ?_, ?_, ?_, ?_, (fun i o hi => by cases hi), (fun i j o hi => by cases hi)⟩
  · intro i hi
    have h1 : P.globals.size + bs.length ≤ i := hi
    show (if i < P.globals.size then none else _) = none
    rw [if_neg (by omega), List.getElem?_eq_none (by omega)]
    rfl
  · intro i b hb
    obtain ⟨rb, h1, h2, rfl, h4⟩ := key i b hb
    simp only [BRel, Bool.false_eq_true, if_false]
    refine ⟨.inl rfl, fun k v hk => ?_⟩
    rw [hren i rb h1 h2]
    exact hcell rb (List.mem_of_getElem? h2) k v hk
  · intro i b hb
    obtain ⟨rb, h1, h2, rfl, h4⟩ := key i b hb
    rw [hren i rb h1 h2]
    obtain ⟨c, hc, _⟩ := hcell rb (List.mem_of_getElem? h2) 0 _ (List.getElem?_eq_getElem (by
      rcases Nat.eq_zero_or_pos rb.cells.length with h5 | h5
      · exact absurd (List.eq_nil_of_length_eq_zero h5) h4
      · exact h5))
    have := World.block_lt_of_cell? W _ hc
    exact this
  · intro i j b hb ho
    obtain ⟨rb, h1, h2, rfl, h4⟩ := key i b hb
    cases ho
  · intro gl hg
    refine ⟨?_, ?_⟩
    · simp [roRen, hg]
    · show gl < P.globals.size + bs.length
      omega
theorem law_calls {f : FuncId} {bs : List RoB} {W : World} {args cargs : List Value} (hok : roOk P.globals.size bs W) (hargs : VRels (roRen P.globals.size bs) (P.globals.size + bs.length) args cargs)
    (p : ACalls P f args (roHeap P.globals.size bs) fun v _ => v = .bool true) : Calls P f cargs.toArray W fun e W' => e = .returned (.bool true) ∧ Go.RowKit.Below W.heap.size W W' :=
  (p _ W cargs (roSim hok) hargs).mono fun e W' hr => by
    cases e with
    | returned c =>
      obtain ⟨v, h', φ', rfl, hv, _, st⟩ := hr
      refine ⟨by rw [hv.bool_inv], st.os, st.tape, st.output, st.size, fun k hk => st.frame k hk ?_⟩
      rintro (⟨i, b, hb, ho, _⟩ | ⟨i, o, hb, _⟩)
      rotate_left
      · cases hb
      have : (if i < P.globals.size then none else (bs[i - P.globals.size]?).bind fun b => if b.cells.isEmpty then none else some (⟨b.cells, 0, false⟩ : Blk)) = some b := hb
      split at this
      · cases this
      · cases hq : bs[i - P.globals.size]? with
        | none => rw [hq] at this; cases this
        | some rb =>
          rw [hq] at this
          simp only [Option.bind_some] at this
          split at this
          · cases this
          · cases this; cases ho
    | panicked c => exact hr.elim
    | outgrown => exact hr.elim
end Go.Eng
/-
  CRC-32C, in plain Lean: registers, runs, linearity. No program is in sight.
-/
namespace Go.Crc
open Go Go.Eng
abbrev W := BitVec 32
def poly : W := 0x82f63b78#32
def fall (r : W) : W := (r >>> 1) ^^^ (if r.getLsbD 0 then poly else 0#32)
def it {α : Type} (f : α → α) : Nat → α → α
  | 0, x => x
  | n + 1, x => it f n (f x)
def step8 (r : W) : W := it fall 8 r
def ofB (b : UInt8) : W := BitVec.ofNat 32 b.toNat
def feed (r : W) (b : UInt8) : W := step8 (r ^^^ ofB b)
def feeds (r : W) (l : List UInt8) : W := l.foldl feed r
def more (s : W) (l : List UInt8) : W := ~~~ feeds (~~~ s) l
def sum (l : List UInt8) : W := more 0#32 l
def Lin (L : W → W) : Prop := ∀ a b, L (a ^^^ b) = L a ^^^ L b
theorem Lin.zero {L : W → W} (h : Lin L) : L 0#32 = 0#32 := by
  have h1 := h 0#32 0#32
  have h2 : (0#32 : W) ^^^ 0#32 = 0#32 := by simp
  rw [h2] at h1
  have h3 : L 0#32 ^^^ L 0#32 = 0#32 := by simp
  rw [h3] at h1
  exact h1
theorem lin_fall : Lin fall := by
  intro a b
  apply BitVec.eq_of_getLsbD_eq
  intro i hi
  simp only [fall, BitVec.getLsbD_xor, BitVec.getLsbD_ushiftRight]
  cases ha : a.getLsbD 0 <;> cases hb : b.getLsbD 0 <;> simp <;> cases a.getLsbD (1 + i) <;> cases b.getLsbD (1 + i) <;> cases poly.getLsbD i <;> rfl
theorem Lin.it {L : W → W} (h : Lin L) : ∀ n, Lin (it L n)
  | 0 => fun _ _ => rfl
  | n + 1 => fun a b => by
    simp only [Crc.it]
    rw [h a b]
    exact Lin.it h n _ _
theorem lin_step8 : Lin step8 := lin_fall.it 8
theorem it_add {α : Type} (f : α → α) : ∀ m n x, it f (m + n) x = it f n (it f m x)
  | 0, n, x => by simp [it]
  | m + 1, n, x => by
    rw [show m + 1 + n = (m + n) + 1 from by omega]
    simp only [it]
    exact it_add f m n (f x)
theorem it_succ {α : Type} (f : α → α) (n : Nat) (x : α) : it f (n + 1) x = f (it f n x) := it_add f n 1 x
def byteOf (r : W) (k : Nat) : Nat := (r.toNat / 2 ^ (8 * k)) % 256
def ent (k : Nat) : W := BitVec.ofNat 32 (k % 256) <<< (8 * (k / 256))
theorem ent_get (b a i : Nat) (hb : b < 256) (ha : a < 4) (hi : i < 32) : (ent (a * 256 + b)).getLsbD i = (decide (8 * a ≤ i) && b.testBit (i - 8 * a)) := by
  have h1 : (a * 256 + b) % 256 = b := by omega
  have h2 : (a * 256 + b) / 256 = a := by omega
  simp only [ent, h1, h2, BitVec.getLsbD_shiftLeft, BitVec.getLsbD_ofNat]
  by_cases h3 : 8 * a ≤ i
  · have h4 : ¬ i < 8 * a := by omega
    have h5 : i - 8 * a < 32 := by omega
    simp [hi, h3, h4, h5]
  · have h4 : i < 8 * a := by omega
    simp [h3, h4]
theorem testBit_byteOf (r : W) (k i : Nat) : (byteOf r k).testBit i = (decide (i < 8) && r.getLsbD (8 * k + i)) := by
  unfold byteOf
  rw [show (256 : Nat) = 2 ^ 8 from rfl, Nat.testBit_mod_two_pow, ← Nat.shiftRight_eq_div_pow, Nat.testBit_shiftRight]
  rfl
theorem byteOf_lt (r : W) (k : Nat) : byteOf r k < 256 := Nat.mod_lt _ (by omega)
theorem fall_even (r : W) (h : r.getLsbD 0 = false) : fall r = r >>> 1 := by
  unfold fall
  rw [h]
  simp
theorem it_fall_shift (r : W) : ∀ n, (∀ i, i < n → r.getLsbD i = false) → it fall n r = r >>> n
  | 0, _ => by simp [it]
  | n + 1, h => by
    have h1 := it_add fall n 1 r
    rw [h1, it_fall_shift r n (fun i hi => h i (by omega))]
    simp only [it]
    rw [fall_even]
    · rw [BitVec.shiftRight_add]
    · rw [BitVec.getLsbD_ushiftRight]
      simpa using h n (by omega)
theorem step8_shift (r : W) (h : ∀ i, i < 8 → r.getLsbD i = false) : step8 r = r >>> 8 := it_fall_shift r 8 h
theorem step8_byte (s : W) : step8 s = step8 (ent (byteOf s 0)) ^^^ (s >>> 8) := by
  have hx : s = ent (byteOf s 0) ^^^ ((s >>> 8) <<< 8) := by
    apply BitVec.eq_of_getLsbD_eq
    intro i hi
    have := ent_get (byteOf s 0) 0 i (byteOf_lt s 0) (by omega) hi
    simp only [Nat.zero_mul, Nat.zero_add, Nat.mul_zero, Nat.zero_le, decide_true, Bool.true_and, Nat.sub_zero] at this
    simp only [BitVec.getLsbD_xor, this, testBit_byteOf, BitVec.getLsbD_shiftLeft, BitVec.getLsbD_ushiftRight]
    by_cases h1 : i < 8
    · simp [h1]
    · have e : 8 + (i - 8) = i := by omega
      simp [h1, hi, e]
  have h2 : step8 ((s >>> 8) <<< 8) = s >>> 8 := by
    rw [step8_shift]
    · apply BitVec.eq_of_getLsbD_eq
      intro i hi
      simp only [BitVec.getLsbD_ushiftRight, BitVec.getLsbD_shiftLeft]
      by_cases h1 : 8 + i < 32
      · have e : 8 + i - 8 = i := by omega
        simp [h1]
      · have : s.getLsbD (8 + i) = false := BitVec.getLsbD_of_ge s _ (by omega)
        simp [h1, this]
    · intro i hi
      simp only [BitVec.getLsbD_shiftLeft]
      simp [hi]
  calc step8 s = step8 (ent (byteOf s 0) ^^^ ((s >>> 8) <<< 8)) := by rw [← hx]
    _ = step8 (ent (byteOf s 0)) ^^^ step8 ((s >>> 8) <<< 8) := lin_step8 _ _
    _ = step8 (ent (byteOf s 0)) ^^^ (s >>> 8) := by rw [h2]
theorem step8_ent (b a : Nat) (hb : b < 256) (ha : a < 3) : step8 (ent ((a + 1) * 256 + b)) = ent (a * 256 + b) := by
  rw [step8_shift]
  · apply BitVec.eq_of_getLsbD_eq
    intro i hi
    rw [BitVec.getLsbD_ushiftRight, ent_get b a i hb (by omega) hi]
    by_cases h1 : 8 + i < 32
    · rw [ent_get b (a + 1) _ hb (by omega) h1]
      have e1 : (8 * (a + 1) ≤ 8 + i) ↔ (8 * a ≤ i) := by omega
      have e2 : 8 + i - 8 * (a + 1) = i - 8 * a := by omega
      simp [e1, e2]
    · rw [BitVec.getLsbD_of_ge _ _ (by omega)]
      have h2 : b.testBit (i - 8 * a) = false := Nat.testBit_lt_two_pow (Nat.lt_of_lt_of_le hb (by
        have : (256 : Nat) = 2 ^ 8 := rfl
        rw [this]
        exact Nat.pow_le_pow_right (by omega) (by omega)))
      simp [h2]
  · intro i hi
    rw [ent_get b (a + 1) i hb (by omega) (by omega)]
    have : ¬ 8 * (a + 1) ≤ i := by omega
    simp [this]
theorem feeds_append (r : W) (a b : List UInt8) : feeds r (a ++ b) = feeds (feeds r a) b := by simp [feeds]
theorem more_append (s : W) (a b : List UInt8) : more s (a ++ b) = more (more s a) b := by simp [more, feeds_append]
theorem more_sum (a b : List UInt8) : more (sum a) b = sum (a ++ b) := (more_append _ _ _).symm
theorem feeds_split : ∀ (l : List UInt8) (r s : W), feeds (r ^^^ s) l = it step8 l.length r ^^^ feeds s l
  | [], r, s => rfl
  | b :: l, r, s => by
    simp only [feeds, List.foldl_cons, List.length_cons, it]
    have h : feed (r ^^^ s) b = step8 r ^^^ feed s b := by
      unfold feed
      rw [BitVec.xor_assoc, lin_step8]
    rw [h]
    exact feeds_split l _ _
theorem not_xor (z : W) : ~~~ z = z ^^^ ~~~ (0#32 : W) := by
  have : ∀ o : W, o = 0#32 → ~~~ z = z ^^^ ~~~ o := by
    intro o ho
    apply BitVec.eq_of_getLsbD_eq
    intro i hi
    rw [BitVec.getLsbD_not, BitVec.getLsbD_xor, BitVec.getLsbD_not, ho, BitVec.getLsbD_zero]
    simp [hi]
  exact this _ rfl
theorem sum_append (a b : List UInt8) : sum (a ++ b) = it step8 b.length (sum a) ^^^ sum b := by
  rw [← more_sum]
  have h1 : more (sum a) b = ~~~ feeds (sum a ^^^ ~~~ (0#32 : W)) b := by rw [← not_xor]; rfl
  rw [h1, feeds_split]
  have h2 : sum b = ~~~ feeds (~~~ (0#32 : W)) b := rfl
  rw [h2, not_xor (_ ^^^ _), not_xor (feeds _ b), BitVec.xor_assoc]
end Go.Crc
/-
  The engine's operations on registers of 32 bits.
-/
namespace Go.Crc
open Go Go.Eng
def u32 (x : W) : Value := .int .u32 (x.toNat : Int)
variable {P : Program} {ρ : Operand → Value} {h : Heap} {K : Value → Heap → Prop} {dst : Option Tmp} {ty : TypeId} {pos : String} {aft : Array Edge} {g : Option (Nat × Bool)} {t t' : TypeId} {x y : Operand}
theorem ofInt_toNat (a : W) : BitVec.ofInt 32 (a.toNat : Int) = a := by
  apply BitVec.eq_of_toNat_eq
  simp
theorem wrap_toNat (a : W) : IntKind.u32.wrap (a.toNat : Int) = (a.toNat : Int) := by
  rw [IntKind.wrap_u32]
  have := a.isLt
  omega
theorem op_x32 {a b : W} (hx : ρ x = u32 a) (hy : ρ y = u32 b) (kk : K (u32 (a ^^^ b)) h) : AOp P ⟨dst, .binOp .xor t x y t', ty, pos, aft, g⟩ ρ h K :=
  op_int hx hy (v := u32 (a ^^^ b)) (by
    simp only [binI, if_true]
    show some (Value.int .u32 (IntKind.u32.wrap ((BitVec.ofInt 32 (a.toNat : Int) ^^^ BitVec.ofInt 32 (b.toNat : Int)).toNat : Int))) = _
    rw [ofInt_toNat, ofInt_toNat, wrap_toNat]; rfl) kk
theorem op_x32c {a : W} (b : W) {c : Int} (hc : c = (b.toNat : Int)) (hx : ρ x = u32 a) (hy : ρ y = .int .u32 c) (kk : K (u32 (a ^^^ b)) h) : AOp P ⟨dst, .binOp .xor t x y t', ty, pos, aft, g⟩ ρ h K := by
  subst hc
  exact op_x32 hx hy kk
theorem op_o32c {a : W} (b : W) {c : Int} (hc : c = (b.toNat : Int)) (hx : ρ x = u32 a) (hy : ρ y = .int .u32 c) (kk : K (u32 (a ||| b)) h) : AOp P ⟨dst, .binOp .or t x y t', ty, pos, aft, g⟩ ρ h K := by
  subst hc
  exact op_int hx hy (v := u32 (a ||| b)) (by
    simp only [binI, if_true]
    show some (Value.int .u32 (IntKind.u32.wrap ((BitVec.ofInt 32 (a.toNat : Int) ||| BitVec.ofInt 32 (b.toNat : Int)).toNat : Int))) = _
    rw [ofInt_toNat, ofInt_toNat, wrap_toNat]; rfl) kk
theorem op_q32 {a : W} (hx : ρ x = u32 a) (hy : ρ y = .int .u32 2) (kk : K (u32 (a >>> 1)) h) : AOp P ⟨dst, .binOp .quo t x y t', ty, pos, aft, g⟩ ρ h K :=
  op_int hx hy (v := u32 (a >>> 1)) (by
    simp only [binI, if_true]
    rw [if_neg (by omega), Int.tdiv_eq_ediv_of_nonneg (by omega), IntKind.wrap_u32]
    simp only [u32, BitVec.toNat_ushiftRight, Nat.shiftRight_eq_div_pow]
    have := a.isLt
    congr 2
    omega) kk
theorem op_s32 {a : W} {k : IntKind} (n : Nat) {c : Int} (hc : c = (n : Int)) (hn : n ≤ 32) (hx : ρ x = u32 a) (hy : ρ y = .int k c) (kk : K (u32 (a >>> n)) h) : AOp P ⟨dst, .binOp .shr t x y t', ty, pos, aft, g⟩ ρ h K := by
  subst hc
  exact op_int hx hy (v := u32 (a >>> n)) (by
    simp only [binI]
    rw [if_neg (by omega)]
    simp only [u32, BitVec.toNat_ushiftRight, Nat.shiftRight_eq_div_pow]
    have hm : min (n : Int).toNat IntKind.u32.bits = n := by
      have : IntKind.u32.bits = 32 := rfl
      omega
    rw [hm, Int.fdiv_eq_ediv_of_nonneg _ (by exact Int.le_of_lt (Int.pow_pos (by omega)))]
    congr 2) kk
theorem op_c32 {a : W} (hx : ρ x = u32 a) (kk : K (u32 (~~~ a)) h) : AOp P ⟨dst, .unOp .xor t x, ty, pos, aft, g⟩ ρ h K :=
  op_com hx (by
    have hm : BitVec.ofInt IntKind.u32.bits (if IntKind.u32.signed then -1 else IntKind.u32.max) = BitVec.allOnes 32 := rfl
    have : (BitVec.ofInt IntKind.u32.bits (if IntKind.u32.signed then -1 else IntKind.u32.max) ^^^ BitVec.ofInt IntKind.u32.bits (a.toNat : Int)).toNat = (~~~ a).toNat := by
      rw [hm]
      show (BitVec.allOnes 32 ^^^ BitVec.ofInt 32 (a.toNat : Int)).toNat = _
      rw [ofInt_toNat, BitVec.allOnes_xor]
    rw [this, wrap_toNat]
    exact kk)
theorem op_cb32 [TyD P t (.int .u32)] [TyD P t' (.int .u8)] {a : W} (hx : ρ x = u32 a) (kk : K (.int .u8 (byteOf a 0 : Nat)) h) : AOp P ⟨dst, .convert t t' x, ty, pos, aft, g⟩ ρ h K :=
  op_convI (ks := .u32) hx (by
    have : IntKind.u8.wrap (a.toNat : Int) = (byteOf a 0 : Nat) := by
      rw [IntKind.wrap_u8]
      simp [byteOf]
    rw [this]; exact kk)
theorem op_bc32 [TyD P t (.int .u8)] [TyD P t' (.int .u32)] {b : UInt8} (hx : ρ x = .int .u8 (b.toNat : Int)) (kk : K (u32 (ofB b)) h) : AOp P ⟨dst, .convert t t' x, ty, pos, aft, g⟩ ρ h K :=
  op_convI (ks := .u8) hx (by
    have : IntKind.u32.wrap (b.toNat : Int) = ((ofB b).toNat : Int) := by
      rw [IntKind.wrap_u32]
      have := b.toNat_lt
      simp only [ofB, BitVec.toNat_ofNat]
      omega
    rw [this]; exact kk)
theorem op_ic32 [TyD P t (.int .i64)] [TyD P t' (.int .u32)] {a : Int} (hx : ρ x = .int .i64 a) (kk : K (u32 (BitVec.ofInt 32 a)) h) : AOp P ⟨dst, .convert t t' x, ty, pos, aft, g⟩ ρ h K :=
  op_convI (ks := .i64) hx (by
    have : IntKind.u32.wrap a = ((BitVec.ofInt 32 a).toNat : Int) := by
      rw [IntKind.wrap_u32, BitVec.toNat_ofInt]
      omega
    rw [this]; exact kk)
theorem op_shl32 {a : W} {k : IntKind} {c : Int} (n : Nat) (hc : c = (n : Int)) (hn : n ≤ 32) (hx : ρ x = u32 a) (hy : ρ y = .int k c) (kk : K (u32 (a <<< n)) h) : AOp P ⟨dst, .binOp .shl t x y t', ty, pos, aft, g⟩ ρ h K := by
  subst hc
  exact op_int hx hy (v := u32 (a <<< n)) (by
    simp only [binI]
    rw [if_neg (by omega)]
    have hm : min (n : Int).toNat IntKind.u32.bits = n := by
      have : IntKind.u32.bits = 32 := rfl
      omega
    rw [hm, IntKind.wrap_u32]
    simp only [u32, BitVec.toNat_shiftLeft, Nat.shiftLeft_eq]
    congr 2) kk
theorem fall_odd (a : W) (hb : a.getLsbD 0 = true) : fall a = (a >>> 1) ^^^ poly := by unfold fall; rw [hb]; rfl
theorem low_bit (a : W) : a.getLsbD 0 = decide (a.toNat % 2 = 1) := by
  simp only [BitVec.getLsbD, Nat.testBit_zero]
def tabF (f : Nat → W) : List Value := (List.range 1024).map fun k => u32 (f k)
theorem tabF_length (f : Nat → W) : (tabF f).length = 1024 := by simp [tabF]
theorem tabF_get (f : Nat → W) (k : Nat) (hk : k < 1024) : (tabF f)[k]? = some (u32 (f k)) := by simp [tabF, hk]
theorem tabF_set (f : Nat → W) (i : Nat) (v : W) : (tabF f).set i (u32 v) = tabF fun k => if k = i then v else f k := by
  apply List.ext_getElem?
  intro k
  by_cases hk : k < 1024
  · rw [tabF_get _ k hk, List.getElem?_set, tabF_length]
    by_cases hi : i = k
    · subst hi; simp [hk]
    · rw [if_neg hi, tabF_get _ k hk, if_neg (fun e => hi e.symm)]
  · rw [List.getElem?_eq_none (by simp [tabF_length]; omega), List.getElem?_eq_none (by simp [tabF_length]; omega)]
theorem tabF_congr {f f' : Nat → W} (hf : ∀ k, k < 1024 → f k = f' k) : tabF f = tabF f' := by
  apply List.ext_getElem?
  intro k
  by_cases hk : k < 1024
  · rw [tabF_get _ k hk, tabF_get _ k hk, hf k hk]
  · rw [List.getElem?_eq_none (by simp [tabF_length]; omega), List.getElem?_eq_none (by simp [tabF_length]; omega)]
theorem tabF_one (f : Nat → W) : (tabF f).all oneB = true := List.all_eq_true.2 (by intro v hv; obtain ⟨k, _, rfl⟩ := List.mem_map.1 hv; rfl)
theorem tabF_scalar (f : Nat → W) : (tabF f).all scalar = true := List.all_eq_true.2 (by intro v hv; obtain ⟨k, _, rfl⟩ := List.mem_map.1 hv; rfl)
attribute [irreducible] tabF
def tab (L : W → W) : List Value := tabF fun k => L (ent k)
theorem tab_get (L : W → W) (a b : Nat) (ha : a < 4) (hb : b < 256) : (tab L)[a * 256 + b]? = some (u32 (L (ent (a * 256 + b)))) := tabF_get _ _ (by omega)
end Go.Crc
