/-
  Texts of one claim, merged: 3 parts.
-/
import Derived.Test.YtnioldkmckmajaaMng
import Derived.OrdersIn
import Derived.Test.YtnioldkmckmajaaMnf
import Derived.Test.YtnioldkmckmajaaMnd
set_option maxHeartbeats 16000000
/-
  The engine, part U: regions whose order is drawn, where code ranges over functions.
-/
namespace Go.Eng
open Go
inductive KdX where
  | P | R | X | W
def kdWX : KdX → Bool
  | .W => true
  | _ => false
def kdRX : KdX → Bool
  | .R => true
  | _ => false
def kdPX : KdX → Bool
  | .P => true
  | _ => false
def pairX (ops : Array Oper) (A : Array Nat) (p q : Nat × KdX) : Bool :=
  !edgeB ops p.1 q.1 && (ancB A q.1 p.1 || (kdRX p.2 && !kdWX q.2 && apartB ops p.1 q.1) || (kdPX p.2 && apartB ops p.1 q.1))
def pairsX (ops : Array Oper) (A : Array Nat) : List (Nat × KdX) → Bool
  | [] => true
  | p :: σ => !edgeB ops p.1 p.1 && σ.all (fun q => !Nat.beq p.1 q.1 && pairX ops A p q) && pairsX ops A σ
def drawX (ops : Array Oper) (σ : List (Nat × KdX)) : Bool :=
  let A := Region.before ops
  Nat.beq σ.length ops.size && (List.range ops.size).all (fun i => σ.any fun p => Nat.beq p.1 i) && σ.all (fun p => Nat.blt p.1 ops.size) && A.all (fun x => Nat.blt x (2 ^ ops.size)) && rangeB ops && pairsX ops A σ && closeB ops A
theorem pairsX_sub {ops : Array Oper} {A : Array Nat} : ∀ {σ1 σ2 : List (Nat × KdX)} {p : Nat × KdX}, pairsX ops A (σ1 ++ p :: σ2) = true → pairsX ops A (σ1 ++ σ2) = true ∧ (∀ s ∈ σ1, pairX ops A s p = true ∧ s.1 ≠ p.1) ∧ (∀ s ∈ σ2, s.1 ≠ p.1)
  | [], σ2, p, hp => by
    simp only [List.nil_append, pairsX, Bool.and_eq_true, List.all_eq_true] at hp
    refine ⟨hp.2, by simp, fun s hs he => ?_⟩
    have := (hp.1.2 s hs).1
    rw [he] at this
    simp at this
  | q :: σ1, σ2, p, hp => by
    simp only [List.cons_append, pairsX, Bool.and_eq_true, List.all_eq_true] at hp
    obtain ⟨⟨h0, h1⟩, h2⟩ := hp
    obtain ⟨g1, g2, g3⟩ := pairsX_sub h2
    refine ⟨?_, ?_, g3⟩
    · simp only [List.cons_append, pairsX, Bool.and_eq_true, List.all_eq_true]
      refine ⟨⟨h0, fun s hs => h1 s ?_⟩, g1⟩
      rcases List.mem_append.1 hs with h | h
      · exact List.mem_append_left _ h
      · exact List.mem_append_right _ (by simp [h])
    · intro s hs
      rcases List.mem_cons.1 hs with rfl | hs
      · obtain ⟨u1, u2⟩ := h1 p (List.mem_append_right _ (by simp))
        refine ⟨u2, fun he => ?_⟩
        rw [he] at u1
        simp at u1
      · exact g2 s hs
def XDAL {P : Program} (C : Ctx P) (s : Option Code) (N : Nat) (ops : Array Oper) (Q : Exit → XQ) : List (Nat × KdX) → Env → Heap → Prop
  | [], env, h => ∀ φ a w, C.L s φ h w → Marks C.B a.defers w → Rel P N φ env h a.tmps w → XPost C N φ h w (Q .normal) a w
  | (i, .R) :: σ, env, h => ∃ o, ops[i]? = some o ∧ dstB N o.dst = true ∧ ∃ v, ((gv ops env o = some true ∧ ROp P o (ev P env) h v) ∨ (gv ops env o = some false ∧ v = skipV)) ∧ XDAL C s N ops Q σ (env.put o.dst v) h
  | (i, .P) :: σ, env, h => ∃ o, ops[i]? = some o ∧ dstB N o.dst = true ∧ ∃ v, ((gv ops env o = some true ∧ ∀ h', AOp P o (ev P env) h' fun v' h'' => v' = v ∧ h'' = h') ∨ (gv ops env o = some false ∧ v = skipV)) ∧ XDAL C s N ops Q σ (env.put o.dst v) h
  | (i, .X) :: σ, env, h => ∃ o, ops[i]? = some o ∧ dstB N o.dst = true ∧
      ((gv ops env o = some true ∧ AOp P o (ev P env) h fun v h' => Ext h h' ∧ XDAL C s N ops Q σ (env.put o.dst v) h') ∨ (gv ops env o = some false ∧ XDAL C s N ops Q σ (env.put o.dst skipV) h))
  | (i, .W) :: σ, env, h => ∃ o, ops[i]? = some o ∧ dstB N o.dst = true ∧
      ((gv ops env o = some true ∧ AOp P o (ev P env) h fun v h' => XDAL C s N ops Q σ (env.put o.dst v) h') ∨ (gv ops env o = some false ∧ XDAL C s N ops Q σ (env.put o.dst skipV) h))
section
variable {P : Program} {C : Ctx P} {ro : Option Nat} {s : Option Code} {N : Nat} {ops : Array Oper} {Q : Exit → XQ}
theorem XDAL.eqE : ∀ {σ : List (Nat × KdX)} {e e' : Env} {h : Heap}, XDAL C s N ops Q σ e h → EqE e e' → XDAL C s N ops Q σ e' h
  | [], e, e', h, p, q => fun φ a w hl hd r => p φ a w hl hd (r.eqE fun t => (q t).symm)
  | (i, .R) :: σ, e, e', h, p, q => by
    obtain ⟨o, ho, hd, v, hv, k⟩ := p
    refine ⟨o, ho, hd, v, ?_, XDAL.eqE k (q.put _ _)⟩
    rw [← q.gv o]
    exact hv.imp (fun ⟨a, b⟩ => ⟨a, b.congr fun x _ => q.ev x⟩) id
  | (i, .P) :: σ, e, e', h, p, q => by
    obtain ⟨o, ho, hd, v, hv, k⟩ := p
    refine ⟨o, ho, hd, v, ?_, XDAL.eqE k (q.put _ _)⟩
    rw [← q.gv o]
    exact hv.imp (fun ⟨a, b⟩ => ⟨a, fun h' => (b h').congr fun x _ => q.ev x⟩) id
  | (i, .X) :: σ, e, e', h, p, q => by
    obtain ⟨o, ho, hd, hv⟩ := p
    refine ⟨o, ho, hd, ?_⟩
    rw [← q.gv o]
    exact hv.imp (fun ⟨a, b⟩ => ⟨a, (b.congr fun x _ => q.ev x).mono fun v h' _ ⟨k1, k2⟩ => ⟨k1, XDAL.eqE k2 (q.put _ _)⟩⟩) (fun ⟨a, b⟩ => ⟨a, XDAL.eqE b (q.put _ _)⟩)
  | (i, .W) :: σ, e, e', h, p, q => by
    obtain ⟨o, ho, hd, hv⟩ := p
    refine ⟨o, ho, hd, ?_⟩
    rw [← q.gv o]
    exact hv.imp (fun ⟨a, b⟩ => ⟨a, (b.congr fun x _ => q.ev x).mono fun v h' _ k => XDAL.eqE k (q.put _ _)⟩) (fun ⟨a, b⟩ => ⟨a, XDAL.eqE b (q.put _ _)⟩)
theorem XDAL.swap {i j : Nat} {k : KdX} {oi oj : Oper} {σ : List (Nat × KdX)} {e : Env} {h : Heap} (hi : ops[i]? = some oi) (hj : ops[j]? = some oj) (hap : oj.apart ops oi = true) (hk : kdWX k = false)
    (p : XDAL C s N ops Q ((j, .R) :: (i, k) :: σ) e h) : XDAL C s N ops Q ((i, k) :: (j, .R) :: σ) e h := by
  obtain ⟨a1, a2, a3⟩ := Oper.apart_spec hap
  obtain ⟨o, ho, hd, vj, hvj, p⟩ := p
  rw [hj] at ho; cases ho
  have later : ∀ (vi : Value) (h' : Heap), Ext h h' → h.next ≤ h'.next → XDAL C s N ops Q σ ((e.put oj.dst vj).put oi.dst vi) h' → XDAL C s N ops Q ((j, .R) :: σ) (e.put oi.dst vi) h' := by
    intro vi h' hx hn pk
    refine ⟨oj, hj, hd, vj, ?_, pk.eqE (EqE.swap e a2 vj vi)⟩
    rw [gv_put a3]
    exact hvj.imp (fun ⟨q1, q2⟩ => ⟨q1, (q2.ext hx hn).congr fun x hx => (ev_put a3 x hx).symm⟩) id
  cases k with
  | P =>
    obtain ⟨o, ho, hdi, vi, hvi, p⟩ := p
    rw [hi] at ho; cases ho
    rw [gv_put a1] at hvi
    exact ⟨oi, hi, hdi, vi, hvi.imp (fun ⟨q1, q2⟩ => ⟨q1, fun h' => (q2 h').congr (ev_put a1)⟩) id, later vi h (Ext.refl h) (Nat.le_refl _) p⟩
  | R =>
    obtain ⟨o, ho, hdi, vi, hvi, p⟩ := p
    rw [hi] at ho; cases ho
    rw [gv_put a1] at hvi
    exact ⟨oi, hi, hdi, vi, hvi.imp (fun ⟨q1, q2⟩ => ⟨q1, q2.congr (ev_put a1)⟩) id, later vi h (Ext.refl h) (Nat.le_refl _) p⟩
  | X =>
    obtain ⟨o, ho, hdi, hvi⟩ := p
    rw [hi] at ho; cases ho
    rw [gv_put a1] at hvi
    refine ⟨oi, hi, hdi, ?_⟩
    exact hvi.imp (fun ⟨q1, q2⟩ => ⟨q1, (q2.congr (ev_put a1)).mono fun v h' hn ⟨k1, k2⟩ => ⟨k1, later v h' k1 hn k2⟩⟩) (fun ⟨q1, q2⟩ => ⟨q1, later skipV h (Ext.refl h) (Nat.le_refl _) q2⟩)
  | W => cases hk
theorem XDAL.swapP {i j : Nat} {k : KdX} {oi oj : Oper} {σ : List (Nat × KdX)} {e : Env} {h : Heap} (hi : ops[i]? = some oi) (hj : ops[j]? = some oj) (hap : oj.apart ops oi = true)
    (p : XDAL C s N ops Q ((j, .P) :: (i, k) :: σ) e h) : XDAL C s N ops Q ((i, k) :: (j, .P) :: σ) e h := by
  obtain ⟨a1, a2, a3⟩ := Oper.apart_spec hap
  obtain ⟨o, ho, hd, vj, hvj, p⟩ := p
  rw [hj] at ho; cases ho
  have later : ∀ (vi : Value) (h' : Heap), XDAL C s N ops Q σ ((e.put oj.dst vj).put oi.dst vi) h' → XDAL C s N ops Q ((j, .P) :: σ) (e.put oi.dst vi) h' := by
    intro vi h' pk
    refine ⟨oj, hj, hd, vj, ?_, pk.eqE (EqE.swap e a2 vj vi)⟩
    rw [gv_put a3]
    exact hvj.imp (fun ⟨q1, q2⟩ => ⟨q1, fun h' => (q2 h').congr fun x hx => (ev_put a3 x hx).symm⟩) id
  cases k with
  | P =>
    obtain ⟨o, ho, hdi, vi, hvi, p⟩ := p
    rw [hi] at ho; cases ho
    rw [gv_put a1] at hvi
    exact ⟨oi, hi, hdi, vi, hvi.imp (fun ⟨q1, q2⟩ => ⟨q1, fun h' => (q2 h').congr (ev_put a1)⟩) id, later vi h p⟩
  | R =>
    obtain ⟨o, ho, hdi, vi, hvi, p⟩ := p
    rw [hi] at ho; cases ho
    rw [gv_put a1] at hvi
    exact ⟨oi, hi, hdi, vi, hvi.imp (fun ⟨q1, q2⟩ => ⟨q1, q2.congr (ev_put a1)⟩) id, later vi h p⟩
  | X =>
    obtain ⟨o, ho, hdi, hvi⟩ := p
    rw [hi] at ho; cases ho
    rw [gv_put a1] at hvi
    refine ⟨oi, hi, hdi, ?_⟩
    exact hvi.imp (fun ⟨q1, q2⟩ => ⟨q1, (q2.congr (ev_put a1)).mono fun v h' hn ⟨k1, k2⟩ => ⟨k1, later v h' k2⟩⟩) (fun ⟨q1, q2⟩ => ⟨q1, later skipV h q2⟩)
  | W =>
    obtain ⟨o, ho, hdi, hvi⟩ := p
    rw [hi] at ho; cases ho
    rw [gv_put a1] at hvi
    refine ⟨oi, hi, hdi, ?_⟩
    exact hvi.imp (fun ⟨q1, q2⟩ => ⟨q1, (q2.congr (ev_put a1)).mono fun v h' hn k2 => later v h' k2⟩) (fun ⟨q1, q2⟩ => ⟨q1, later skipV h q2⟩)
theorem XDAL.front {i : Nat} {k : KdX} {oi : Oper} {σ2 : List (Nat × KdX)} (hi : ops[i]? = some oi) : ∀ {σ1 : List (Nat × KdX)} {e : Env} {h : Heap},
    (∀ s ∈ σ1, (s.2 = .P ∨ (s.2 = .R ∧ kdWX k = false)) ∧ ∃ oj, ops[s.1]? = some oj ∧ oj.apart ops oi = true) → XDAL C s N ops Q (σ1 ++ (i, k) :: σ2) e h → XDAL C s N ops Q ((i, k) :: (σ1 ++ σ2)) e h
  | [], _, _, _, p => p
  | (j, kj) :: σ1, e, h, hs, p => by
    obtain ⟨h1, oj, h3, h4⟩ := hs (j, kj) (by simp)
    simp only at h1 h3
    rcases h1 with rfl | ⟨rfl, h2⟩
    · obtain ⟨o, ho, hd, v, hv, p⟩ := p
      have p' := XDAL.front (σ2 := σ2) hi (fun s hs' => hs s (by simp [hs'])) p
      exact XDAL.swapP hi h3 h4 ⟨o, ho, hd, v, hv, p'⟩
    · obtain ⟨o, ho, hd, v, hv, p⟩ := p
      have p' := XDAL.front (σ2 := σ2) hi (fun s hs' => hs s (by simp [hs'])) p
      exact XDAL.swap hi h3 h4 h2 ⟨o, ho, hd, v, hv, p'⟩
theorem wpAnyIn_mono {Qc Qc' : Exit → Act → World → Prop} (hq : ∀ e a w, Qc e a w → Qc' e a w) : ∀ (fuel : Nat) (L : Array Bool) (a : Act) (w : World), wpAnyIn (Fc ro) 0 P .any ops Qc fuel L a w → wpAnyIn (Fc ro) 0 P .any ops Qc' fuel L a w
  | 0, L, a, w, p => ⟨p.1, hq _ _ _ p.2⟩
  | fuel + 1, L, a, w, p => by
    refine ⟨fun hr => hq _ _ _ (p.1 hr), fun i hi => ?_⟩
    have := p.2 i hi
    unfold wpOpIn at this ⊢
    split
    · rename_i ho
      simp only [ho] at this
      exact wpAnyIn_mono hq fuel _ a w this
    · rename_i o ho
      simp only [ho] at this
      split
      · rename_i hw
        rw [if_pos hw] at this
        exact ⟨this.1, uponIn_mono (wpAnyIn_mono hq fuel _) hq _ this.2⟩
      · rename_i hw
        rw [if_neg hw] at this
        exact ⟨this.1, wpAnyIn_mono hq fuel _ _ w this.2⟩
theorem any_orderX (hdf : ops.all (fun o => deferB o.op == false) = true) (A : Array Nat) (hr : rangeB ops = true) (hc : closeB ops A = true) (hA : ∀ i j, ancB A i j = true → j < ops.size) : ∀ (n : Nat) (σ : List (Nat × KdX)) (L : Array Bool) (env : Env) (h : Heap) (φ : Ren) (a : Act) (w : World), σ.length = n → L.size = ops.size →
    (∀ i, i < ops.size → (L.getD i true = false ↔ ∃ k, (i, k) ∈ σ)) → (∀ s ∈ σ, s.1 < ops.size) → (∀ i j, L.getD i false = true → ancB A i j = true → L.getD j false = true) → pairsX ops A σ = true →
    C.L s φ h w → Marks C.B a.defers w → Rel P N φ env h a.tmps w → XDAL C s N ops Q σ env h → wpAnyIn (Fc ro) 0 P .any ops (fun ex a' w' => XPost C N φ h w (Q ex) a' w') n L a w := by
  intro n
  induction n with
  | zero =>
    intro σ L env h φ a w hn hL hmem _ _ _ hl hd r p
    have : σ = [] := List.eq_nil_of_length_eq_zero hn
    subst this
    refine ⟨?_, p φ a w hl hd r⟩
    apply List.eq_nil_iff_forall_not_mem.2
    intro i hi
    obtain ⟨h1, o, h2, _⟩ := mem_ready.1 hi
    have hlt : i < ops.size := (Array.getElem?_eq_some_iff.1 h2).1
    obtain ⟨k, hk⟩ := (hmem i hlt).1 h1
    cases hk
  | succ n ih =>
    intro σ L env h φ a w hn hL hmem hlt hclo hpr hl hd r p
    have hin : ∀ j, j < ops.size → (¬ ∃ k, (j, k) ∈ σ) → L.getD j false = true := by
      intro j hj hno
      cases hq : L.getD j true with
      | false => exact absurd ((hmem j hj).1 hq) hno
      | true =>
        have hjl : j < L.size := by omega
        simp only [Array.getD_eq_getD_getElem?, Array.getElem?_eq_getElem hjl, Option.getD_some] at hq ⊢
        exact hq
    have hrange : ∀ (i : Nat) (o : Oper), ops[i]? = some o → ∀ e ∈ o.after, Region.binds .any e = true → e.on < ops.size := by
      intro i o ho e he hb
      have h1 := Array.all_eq_true_iff_forall_mem.1 hr o (Array.mem_of_getElem? ho)
      have h2 := Array.all_eq_true_iff_forall_mem.1 h1 e he
      simp only [hb, Bool.not_true, Bool.false_or] at h2
      simpa [Nat.blt_eq] using h2
    refine ⟨fun hnil => ?_, fun i hi => ?_⟩
    · exfalso
      obtain ⟨⟨i0, k0⟩, σ', rfl⟩ : ∃ s σ', σ = s :: σ' := by
        cases σ with
        | nil => simp at hn
        | cons s σ' => exact ⟨s, σ', rfl⟩
      have hi0 := hlt (i0, k0) (by simp)
      have ho0 : ops[i0]? = some ops[i0] := Array.getElem?_eq_getElem hi0
      have : i0 ∈ Region.ready .any ops L := by
        refine mem_ready.2 ⟨(hmem i0 hi0).2 ⟨k0, by simp⟩, ops[i0], ho0, fun e he hb => ?_⟩
        have hedge : edgeB ops i0 e.on = true := (edgeB_iff ho0).2 ⟨e, he, hb, rfl⟩
        refine hin e.on (hrange i0 _ ho0 e he hb) ?_
        rintro ⟨k, hk⟩
        simp only [pairsX, Bool.and_eq_true, List.all_eq_true, Bool.not_eq_eq_eq_not, Bool.not_true] at hpr
        rcases List.mem_cons.1 hk with hk | hk
        · cases hk
          rw [hpr.1.1] at hedge; cases hedge
        · have := (hpr.1.2 _ hk).2
          simp only [pairX, Bool.and_eq_true, Bool.not_eq_eq_eq_not, Bool.not_true] at this
          rw [this.1] at hedge; cases hedge
      rw [hnil] at this
      cases this
    · obtain ⟨hi1, o, ho, hedges⟩ := mem_ready.1 hi
      have hilt : i < ops.size := (Array.getElem?_eq_some_iff.1 ho).1
      obtain ⟨k, hk⟩ := (hmem i hilt).1 hi1
      obtain ⟨σ1, σ2, rfl⟩ := List.append_of_mem hk
      obtain ⟨hp1, hp2, hp3⟩ := pairsX_sub hpr
      have hanc : ∀ j, ancB A i j = true → L.getD j false = true := by
        intro j hj
        have hjl := hA i j hj
        have h1 := List.all_eq_true.1 (List.all_eq_true.1 hc i (List.mem_range.2 hilt)) j (List.mem_range.2 hjl)
        simp only [hj, Bool.not_true, Bool.false_or, Bool.or_eq_true, List.any_eq_true, Bool.and_eq_true] at h1
        rcases h1 with h1 | ⟨m, _, h2, h3⟩
        · obtain ⟨e, he, hb, rfl⟩ := (edgeB_iff ho).1 h1
          exact hedges e he hb
        · obtain ⟨e, he, hb, rfl⟩ := (edgeB_iff ho).1 h2
          exact hclo _ j (hedges e he hb) h3
      have hfr : ∀ s ∈ σ1, (s.2 = .P ∨ (s.2 = .R ∧ kdWX k = false)) ∧ ∃ oj, ops[s.1]? = some oj ∧ oj.apart ops o = true := by
        intro s hs
        obtain ⟨u1, u2⟩ := hp2 s hs
        simp only [pairX, Bool.and_eq_true, Bool.or_eq_true, Bool.not_eq_eq_eq_not, Bool.not_true] at u1
        have hap : apartB ops s.1 i = true → ∃ oj, ops[s.1]? = some oj ∧ oj.apart ops o = true := by
          intro u5
          unfold apartB at u5
          rw [ho] at u5
          cases hoj : ops[s.1]? with
          | none => rw [hoj] at u5; cases u5
          | some oj => rw [hoj] at u5; exact ⟨oj, rfl, u5⟩
        rcases u1.2 with (u3 | ⟨⟨u3, u4⟩, u5⟩) | ⟨u3, u5⟩
        · exfalso
          have h1 := hanc s.1 u3
          have h2 := (hmem s.1 (hlt s (by simp [hs]))).2 ⟨s.2, by simp [hs]⟩
          have hjl : s.1 < L.size := by rw [hL]; exact hlt s (by simp [hs])
          simp only [Array.getD_eq_getD_getElem?, Array.getElem?_eq_getElem hjl, Option.getD_some] at h1 h2
          rw [h1] at h2; cases h2
        · refine ⟨.inr ⟨?_, u4⟩, hap u5⟩
          cases hs2 : s.2 with
          | R => rfl
          | P => rw [hs2] at u3; cases u3
          | X => rw [hs2] at u3; cases u3
          | W => rw [hs2] at u3; cases u3
        · refine ⟨.inl ?_, hap u5⟩
          cases hs2 : s.2 with
          | P => rfl
          | R => rw [hs2] at u3; cases u3
          | X => rw [hs2] at u3; cases u3
          | W => rw [hs2] at u3; cases u3
      have pf := XDAL.front ho hfr p
      have hL' : (L.setIfInBounds i true).size = ops.size := by simp [hL]
      have hlen' : (σ1 ++ σ2).length = n := by simp at hn ⊢; omega
      have hmem' : ∀ j, j < ops.size → ((L.setIfInBounds i true).getD j true = false ↔ ∃ k, (j, k) ∈ σ1 ++ σ2) := by
        intro j hj
        by_cases hji : i = j
        · subst hji
          have : (L.setIfInBounds i true).getD i true = true := by
            simp [Array.getD_eq_getD_getElem?]
          rw [this]
          constructor
          · intro e; cases e
          · rintro ⟨k', hk'⟩
            exfalso
            rcases List.mem_append.1 hk' with h1 | h1
            · exact (hp2 _ h1).2 rfl
            · exact hp3 _ h1 rfl
        · rw [getD_set_ne _ hji, hmem j hj]
          constructor
          · rintro ⟨k', hk'⟩
            refine ⟨k', ?_⟩
            rcases List.mem_append.1 hk' with h1 | h1
            · exact List.mem_append_left _ h1
            · rcases List.mem_cons.1 h1 with h2 | h2
              · cases h2; exact absurd rfl hji
              · exact List.mem_append_right _ h2
          · rintro ⟨k', hk'⟩
            refine ⟨k', ?_⟩
            rcases List.mem_append.1 hk' with h1 | h1
            · exact List.mem_append_left _ h1
            · exact List.mem_append_right _ (by simp [h1])
      have hlt' : ∀ s ∈ σ1 ++ σ2, s.1 < ops.size := by
        intro s hs
        refine hlt s ?_
        rcases List.mem_append.1 hs with h1 | h1
        · exact List.mem_append_left _ h1
        · exact List.mem_append_right _ (by simp [h1])
      have hclo' : ∀ x y, (L.setIfInBounds i true).getD x false = true → ancB A x y = true → (L.setIfInBounds i true).getD y false = true := by
        intro x y hx hxy
        refine getD_set_true ?_
        by_cases hxi : i = x
        · subst hxi; exact hanc y hxy
        · rw [getD_set_ne _ hxi] at hx
          exact hclo x y hx hxy
      have go : ∀ (φ' : Ren) (env' : Env) (h' : Heap) (a' : Act) (w' : World), C.L s φ' h' w' → Marks C.B a'.defers w' → Rel P N φ' env' h' a'.tmps w' → Step φ h w φ' h' w' → XDAL C s N ops Q (σ1 ++ σ2) env' h' →
          wpAnyIn (Fc ro) 0 P .any ops (fun ex a2 w2 => XPost C N φ h w (Q ex) a2 w2) n (L.setIfInBounds i true) a' w' := by
        intro φ' env' h' a' w' hl' hd' r' st p'
        exact wpAnyIn_mono (fun _ _ _ hp => hp.trans st.x) _ _ _ _ (ih (σ1 ++ σ2) _ env' h' φ' a' w' hlen' hL' hmem' hlt' hclo' hp1 hl' hd' r' p')
      have run : ∀ (K : Value → Heap → Prop), dstB N o.dst = true → gv ops env o = some true → AOp P o (ev P env) h K → (∀ v h', K v h' → XDAL C s N ops Q (σ1 ++ σ2) (env.put o.dst v) h') →
          wpOpIn (Fc ro) 0 P ops (fun ex a2 w2 => XPost C N φ h w (Q ex) a2 w2) i (wpAnyIn (Fc ro) 0 P .any ops (fun ex a2 w2 => XPost C N φ h w (Q ex) a2 w2) n (L.setIfInBounds i true)) a w := by
        intro K hdst hg hop hk
        simp only [wpOpIn, ho, wanted_of r hg, if_true]
        have hnd : deferB o.op = false := by
          have := Array.all_eq_true_iff_forall_mem.1 hdf o (Array.mem_of_getElem? ho)
          simpa using this
        refine wpIn_of_wp (deferB_no hnd) (hop φ a w ⟨r.sim, fun x _ => r.ev x⟩ _ _ fun c w' φ' h' v kv vr sm st => ?_)
        exact go φ' _ h' _ w' (C.st r.sim hl st) (by rw [put_defers]; exact hd.step r.sim st) ((r.step sm st).put o.dst (dstB_lt hdst) vr) st (hk v h' kv)
      have skip : dstB N o.dst = true → gv ops env o = some false → XDAL C s N ops Q (σ1 ++ σ2) (env.put o.dst skipV) h →
          wpOpIn (Fc ro) 0 P ops (fun ex a2 w2 => XPost C N φ h w (Q ex) a2 w2) i (wpAnyIn (Fc ro) 0 P .any ops (fun ex a2 w2 => XPost C N φ h w (Q ex) a2 w2) n (L.setIfInBounds i true)) a w := by
        intro hdst hg hk
        simp only [wpOpIn, ho, wanted_of r hg, Bool.false_eq_true, if_false]
        refine ⟨fun _ _ => trivial, ?_⟩
        exact go φ _ h _ w hl (by rw [put_defers]; exact hd) (r.put o.dst (dstB_lt hdst) .skip) (Step.refl _ _ _) hk
      cases k with
      | P =>
        obtain ⟨o', ho', hdst, v, hv, pk⟩ := pf
        rw [ho] at ho'; cases ho'
        rcases hv with ⟨g1, g2⟩ | ⟨g1, rfl⟩
        · exact run _ hdst g1 (g2 h) fun v' h' ⟨e1, e2⟩ => by subst e1 e2; exact pk
        · exact skip hdst g1 pk
      | R =>
        obtain ⟨o', ho', hdst, v, hv, pk⟩ := pf
        rw [ho] at ho'; cases ho'
        rcases hv with ⟨g1, g2⟩ | ⟨g1, rfl⟩
        · exact run _ hdst g1 (g2 h (Ext.refl h) (Nat.le_refl _)) fun v' h' ⟨e1, e2⟩ => by subst e1 e2; exact pk
        · exact skip hdst g1 pk
      | X =>
        obtain ⟨o', ho', hdst, hv⟩ := pf
        rw [ho] at ho'; cases ho'
        rcases hv with ⟨g1, g2⟩ | ⟨g1, g2⟩
        · exact run _ hdst g1 g2 fun v' h' ⟨_, e2⟩ => e2
        · exact skip hdst g1 g2
      | W =>
        obtain ⟨o', ho', hdst, hv⟩ := pf
        rw [ho] at ho'; cases ho'
        rcases hv with ⟨g1, g2⟩ | ⟨g1, g2⟩
        · exact run _ hdst g1 g2 fun v' h' e2 => e2
        · exact skip hdst g1 g2
theorem XWp.draw {id : Nat} {σ : List (Nat × KdX)} {env : Env} {h : Heap} (hm : P.follows .mixedOrders = true) (hdf : ops.all (fun o => deferB o.op == false) = true) (hb : drawX ops σ = true) (p : XDAL C s N ops Q σ env h) : XWp C ro N (.region id ops true) Q env h s := by
  intro φ a w hl hd r
  simp only [drawX, Bool.and_eq_true] at hb
  obtain ⟨⟨⟨⟨⟨⟨b1, b2⟩, b3⟩, b4⟩, b5⟩, b6⟩, b7⟩ := hb
  have b1' : σ.length = ops.size := Nat.eq_of_beq_eq_true b1
  refine wpIn_region_any hm ?_
  have r' : Rel P N φ env h a.tmps w.drew := ⟨r.sim.drew, r.size, r.env⟩
  refine wpAnyIn_mono (fun _ _ _ hp => hp.trans Step.drew.x) _ _ _ _ (any_orderX (ro := ro) hdf (Region.before ops) b5 b7 ?_ ops.size σ (Array.replicate ops.size false) env h φ a w.drew b1' (by simp) ?_ ?_ ?_ b6 (C.st r.sim hl Step.drew) (hd.step r.sim (Step.drew (φ := φ) (h := h))) r' p)
  · intro i j hij
    unfold ancB at hij
    rcases Nat.lt_or_ge j ops.size with hl | hl
    · exact hl
    · exfalso
      have hx : (Region.before ops).getD i 0 < 2 ^ ops.size := by
        rcases Nat.lt_or_ge i (Region.before ops).size with h1 | h1
        · have := Array.all_eq_true_iff_forall_mem.1 b4 ((Region.before ops)[i]) (by simp)
          rw [Array.getD_eq_getD_getElem?, Array.getElem?_eq_getElem h1]
          simpa [Nat.blt_eq] using this
        · rw [Array.getD_eq_getD_getElem?, Array.getElem?_eq_none h1]
          exact Nat.two_pow_pos _
      have := Nat.testBit_lt_two_pow (Nat.lt_of_lt_of_le hx (Nat.pow_le_pow_right (by omega) hl))
      rw [this] at hij
      cases hij
  · intro i hi
    have h1 : (Array.replicate ops.size false).getD i true = false := by
      simp [Array.getD_eq_getD_getElem?, hi]
    rw [h1]
    simp only [true_iff]
    have := List.all_eq_true.1 b2 i (List.mem_range.2 hi)
    obtain ⟨⟨j, k⟩, h2, h3⟩ := List.any_eq_true.1 this
    have : j = i := Nat.eq_of_beq_eq_true h3
    subst this
    exact ⟨k, h2⟩
  · intro s hs
    simpa [Nat.blt_eq] using List.all_eq_true.1 b3 s hs
  · intro i j hi
    exfalso
    by_cases hl : i < ops.size
    · simp [Array.getD_eq_getD_getElem?, hl] at hi
    · simp [Array.getD_eq_getD_getElem?, hl] at hi
section steps
variable {i : Nat} {σ : List (Nat × KdX)} {env : Env} {h : Heap} {d : Tmp} {op : Op} {ty : TypeId} {pos : String} {aft : Array Edge} {g : Option (Nat × Bool)}
theorem XDAL.r {v : Value} (ho : ops[i]? = some ⟨some d, op, ty, pos, aft, g⟩) (hd : Nat.blt d N = true) (hg : gv ops env ⟨some d, op, ty, pos, aft, g⟩ = some true) (hv : ∀ h', Ext h h' → h.next ≤ h'.next → AOp P ⟨some d, op, ty, pos, aft, g⟩ (ev P env) h' fun v' h'' => v' = v ∧ h'' = h')
    (k : XDAL C s N ops Q σ ((d, v) :: env) h) : XDAL C s N ops Q ((i, .R) :: σ) env h := ⟨_, ho, hd, v, .inl ⟨hg, hv⟩, k⟩
theorem XDAL.p {v : Value} (ho : ops[i]? = some ⟨some d, op, ty, pos, aft, g⟩) (hd : Nat.blt d N = true) (hg : gv ops env ⟨some d, op, ty, pos, aft, g⟩ = some true) (hv : ∀ h', AOp P ⟨some d, op, ty, pos, aft, g⟩ (ev P env) h' fun v' h'' => v' = v ∧ h'' = h')
    (k : XDAL C s N ops Q σ ((d, v) :: env) h) : XDAL C s N ops Q ((i, .P) :: σ) env h := ⟨_, ho, hd, v, .inl ⟨hg, hv⟩, k⟩
theorem XDAL.skip {kd : KdX} (ho : ops[i]? = some ⟨some d, op, ty, pos, aft, g⟩) (hd : Nat.blt d N = true) (hg : gv ops env ⟨some d, op, ty, pos, aft, g⟩ = some false)
    (k : XDAL C s N ops Q σ ((d, skipV) :: env) h) : XDAL C s N ops Q ((i, kd) :: σ) env h := by
  cases kd
  · exact ⟨_, ho, hd, skipV, .inr ⟨hg, rfl⟩, k⟩
  · exact ⟨_, ho, hd, skipV, .inr ⟨hg, rfl⟩, k⟩
  · exact ⟨_, ho, hd, .inr ⟨hg, k⟩⟩
  · exact ⟨_, ho, hd, .inr ⟨hg, k⟩⟩
theorem XDAL.w (ho : ops[i]? = some ⟨some d, op, ty, pos, aft, g⟩) (hd : Nat.blt d N = true) (hg : gv ops env ⟨some d, op, ty, pos, aft, g⟩ = some true) (hv : AOp P ⟨some d, op, ty, pos, aft, g⟩ (ev P env) h fun v h' => XDAL C s N ops Q σ ((d, v) :: env) h') :
    XDAL C s N ops Q ((i, .W) :: σ) env h := ⟨_, ho, hd, .inl ⟨hg, hv⟩⟩
theorem XDAL.w0 (ho : ops[i]? = some ⟨none, op, ty, pos, aft, g⟩) (hg : gv ops env ⟨none, op, ty, pos, aft, g⟩ = some true) (hv : AOp P ⟨none, op, ty, pos, aft, g⟩ (ev P env) h fun _ h' => XDAL C s N ops Q σ env h') :
    XDAL C s N ops Q ((i, .W) :: σ) env h := ⟨_, ho, rfl, .inl ⟨hg, hv⟩⟩
theorem XDAL.heap {h' : Heap} (e : h' = h) (p : XDAL C s N ops Q σ env h) : XDAL C s N ops Q σ env h' := e ▸ p
theorem XDAL.nil (k : Q .normal env h s) : XDAL C s N ops Q [] env h := fun _ _ _ hl hd r => XPost.now k hl hd r
end steps
end
end Go.Eng
/-
  Operations, avs frames use them.
-/
namespace Go.Frm
open Go Go.Eng Go.Crc
section
variable {P : Program} {ρ : Operand → Value} {h : Heap} {K : Value → Heap → Prop} {dst : Option Tmp} {ty : TypeId} {pos : String} {aft : Array Edge} {g : Option (Nat × Bool)} {t t' : TypeId} {x y : Operand}
theorem op_buildArr {t e n sz by_ eb : Nat} {z ez : Value} {parts : Array (Nat × Operand)} {out : List Value} [td : TyD P t (.array n e)] [ti : TyI P t sz by_ z] [te : TyI P e 1 eb ez] (hu : ∀ p ∈ parts.toList, ρ p.2 ≠ undef)
    (hf : fillA (fun i => some (i * 1, 1)) z.cells.toList (parts.toList.map fun p => (p.1, ρ p.2)) = some out) (kk : K (.agg out.toArray) h) : AOp P ⟨dst, .build t parts, ty, pos, aft, g⟩ ρ h K :=
  .of_pure kk fun φ ac w r => by
    obtain ⟨arr', h1, h2⟩ := fill_run (φ := φ) (n := h.next) (fun i => some (i * 1, 1)) ac parts.toList z.cells.toList out z.cells (VRels.scalars ti.plain) (fun p hp => r.ev p.2 (by simp [Op.operands]; exact ⟨p.1, by simpa using hp⟩)) hu hf
    refine ⟨.agg arr', ?_, .agg _ _ (by have := h2.length; simpa using this) (fun k x y hx hy => ?_)⟩
    · have he : (parts.map fun (p : Nat × Operand) => (p.1, ac.eval p.2)).toList = parts.toList.map fun p => (p.1, ac.eval p.2) := by simp
      have hrun : (Instr.build t (parts.map fun (p : Nat × Operand) => (p.1, ac.eval p.2))).run P w = .ok (.agg arr') w := by
        simp only [Instr.build, Sem.run_bind, ti.zero, Result.andThen_ok, td.run, te.size, he]
        rw [h1]
        rfl
      simp [execOp, hrun]
    · obtain ⟨c, hc, hv⟩ := h2.get (j := k) (x := x) (by simpa using hx)
      simp only [Array.getElem?_toList] at hc
      rw [hy] at hc; cases hc; exact hv
theorem op_o32 {a b : W} (hx : ρ x = u32 a) (hy : ρ y = u32 b) (kk : K (u32 (a ||| b)) h) : AOp P ⟨dst, .binOp .or t x y t', ty, pos, aft, g⟩ ρ h K :=
  op_o32c b rfl hx hy kk
end
theorem byte_shift (n : W) (k : Nat) : ((Crc.byteOf (n >>> (8 * k)) 0 : Nat) : Int) = ((UInt8.ofNat (Crc.byteOf n k)).toNat : Int) := by
  have h : Crc.byteOf n k < 256 := Nat.mod_lt _ (by omega)
  have e : (UInt8.ofNat (Crc.byteOf n k)).toNat = Crc.byteOf n k := by
    simp [UInt8.toNat_ofNat']
    omega
  rw [e]
  unfold Crc.byteOf
  rw [BitVec.toNat_ushiftRight, Nat.shiftRight_eq_div_pow]
  simp
theorem or_sum {a k b : Nat} (hb : b < 2 ^ k) : (a * 2 ^ k) ||| b = a * 2 ^ k + b := by
  rw [Nat.mul_comm a, ← Nat.two_pow_add_eq_or_of_lt hb a]
theorem be_bits (b0 b1 b2 b3 : UInt8) : (ofB b0 <<< 24 ||| ofB b1 <<< 16 ||| ofB b2 <<< 8 ||| ofB b3).toNat = b0.toNat * 16777216 + b1.toNat * 65536 + b2.toNat * 256 + b3.toNat := by
  have h0 := b0.toNat_lt
  have h1 := b1.toNat_lt
  have h2 := b2.toNat_lt
  have h3 := b3.toNat_lt
  have e : ∀ b : UInt8, (ofB b).toNat = b.toNat := fun b => by
    have := b.toNat_lt
    show (BitVec.ofNat 32 b.toNat).toNat = _
    rw [BitVec.toNat_ofNat]
    omega
  rw [BitVec.toNat_or, BitVec.toNat_or, BitVec.toNat_or, BitVec.toNat_shiftLeft, BitVec.toNat_shiftLeft, BitVec.toNat_shiftLeft, e, e, e, e, Nat.shiftLeft_eq, Nat.shiftLeft_eq, Nat.shiftLeft_eq]
  have m0 : b0.toNat * 2 ^ 24 % 2 ^ 32 = b0.toNat * 2 ^ 24 := Nat.mod_eq_of_lt (by omega)
  have m1 : b1.toNat * 2 ^ 16 % 2 ^ 32 = b1.toNat * 2 ^ 16 := Nat.mod_eq_of_lt (by omega)
  have m2 : b2.toNat * 2 ^ 8 % 2 ^ 32 = b2.toNat * 2 ^ 8 := Nat.mod_eq_of_lt (by omega)
  rw [m0, m1, m2]
  rw [or_sum (k := 24) (by omega)]
  rw [show b0.toNat * 2 ^ 24 + b1.toNat * 2 ^ 16 = (b0.toNat * 256 + b1.toNat) * 2 ^ 16 from by omega, or_sum (k := 16) (by omega)]
  rw [show (b0.toNat * 256 + b1.toNat) * 2 ^ 16 + b2.toNat * 2 ^ 8 = (b0.toNat * 65536 + b1.toNat * 256 + b2.toNat) * 2 ^ 8 from by omega, or_sum (k := 8) (by omega)]
theorem be_getD {b : List UInt8} {b0 b1 b2 b3 : UInt8} (h0 : b[0]? = some b0) (h1 : b[1]? = some b1) (h2 : b[2]? = some b2) (h3 : b[3]? = some b3) : be b = b0.toNat * 16777216 + b1.toNat * 65536 + b2.toNat * 256 + b3.toNat := by
  unfold be
  simp [List.getD_eq_getElem?_getD, h0, h1, h2, h3]
end Go.Frm
/-
  The engine, part N: slices that the call makes and lets grow.
-/
namespace Go.Eng
open Go
variable {P : Program} {ρ : Operand → Value} {h : Heap} {K : Value → Heap → Prop} {dst : Option Tmp} {ty : TypeId} {pos : String} {aft : Array Edge} {g : Option (Nat × Bool)}
def OS (B : Nat) (h : Heap) (e : TypeId) (v : Value) (vs : List Value) : Prop :=
  (v = .slice none 0 0 ∧ vs = []) ∨ ∃ i c, B ≤ i ∧ v = .slice (some ⟨i, 0, some 1⟩) vs.length c ∧ h.get i = some ⟨vs, e, true⟩
theorem OS.rs {B : Nat} {e : TypeId} {v : Value} {vs : List Value} (r : OS B h e v vs) : RS h v vs := by
  rcases r with ⟨rfl, rfl⟩ | ⟨i, c, _, rfl, hi⟩
  · exact RS.nil h
  · exact RS.own hi rfl
theorem OS.nil (B : Nat) (h : Heap) (e : TypeId) : OS B h e (.slice none 0 0) [] := .inl ⟨rfl, rfl⟩
theorem OS.new {B : Nat} {e : TypeId} {vs : List Value} {n c : Nat} (hB : B ≤ h.next) (hn : vs.length = n) : OS B (h.alloc ⟨vs, e, true⟩) e (.slice (some ⟨h.next, 0, some 1⟩) n c) vs := by
  subst hn
  exact .inr ⟨h.next, c, hB, rfl, Heap.alloc_new _ _⟩
structure Keeps (v : Value) (h h' : Heap) : Prop where
  c : ∀ j b, h.get j = some b → (∀ s n c, v ≠ .slice (some ⟨j, 0, s⟩) n c) → h'.get j = some b
  o : ∀ j b, h.obj j = some b → h'.obj j = some b
instance (v : Value) (h h' : Heap) : CoeFun (Keeps v h h') (fun _ => ∀ j b, h.get j = some b → (∀ s n c, v ≠ .slice (some ⟨j, 0, s⟩) n c) → h'.get j = some b) := ⟨Keeps.c⟩
theorem Keeps.ext {B : Nat} {e : TypeId} {v : Value} {vs : List Value} {h0 h' : Heap} (k : Keeps v h h') (r : OS B h e v vs) (wf0 : WF h0) (hB : h0.next ≤ B) (hx : Ext h0 h) : Ext h0 h' := by
  refine ⟨fun j b hj => ?_, fun j o hj => k.o j o (hx.o j o hj)⟩
  refine k.c j b (hx.c j b hj) fun s n c hv => ?_
  have hlt := wf0.lt hj
  rcases r with ⟨rfl, _⟩ | ⟨i, c', hi, rfl, _⟩
  · cases hv
  · cases hv; omega
theorem OS.ext {B : Nat} {e : TypeId} {v : Value} {vs : List Value} {h' : Heap} (r : OS B h e v vs) (hx : Ext h h') : OS B h' e v vs := by
  rcases r with ⟨rfl, rfl⟩ | ⟨i, c, h1, rfl, h2⟩
  · exact .inl ⟨rfl, rfl⟩
  · exact .inr ⟨i, c, h1, rfl, hx i _ h2⟩
theorem op_appendO {t t2 e : TypeId} {d2 : TypeDesc} {x y : Operand} {by_ B m : Nat} {z u v : Value} {vs news : List Value} [td : TyD P t (.slice e)] [t2d : TyD P t2 d2] [ti : TyI P e 1 by_ z] (hd2 : appB d2 = true) (wf : WF h) (hB : B ≤ h.next)
    (r : OS B h e u vs) (hx : ρ x = u) (hy : ρ y = v) (hs : Src h 1 v m news) (hm : news.length = m) (hone : news.all oneB = true) (h1 : vs.length + m ≤ maxLen) (h2 : (vs.length + m) * by_ ≤ 140737488355328)
    (kk : ∀ u' h', OS B h' e u' (vs ++ news) → Keeps u h h' → WF h' → h.next ≤ h'.next → K u' h') : AOp P ⟨dst, .call ⟨.builtin .append, #[x, y], #[t, t2]⟩, ty, pos, aft, g⟩ ρ h K := by
  rcases r with ⟨rfl, rfl⟩ | ⟨i, c, hBi, rfl, hi⟩
  · refine op_appendNil (z := z) hd2 hx hy hs (by simpa using h1) (by simpa using h2) (fun hm0 => ?_) (fun hm0 => ?_)
    · have : news = [] := List.eq_nil_of_length_eq_zero (by omega)
      subst this
      exact kk _ _ (.inl ⟨rfl, rfl⟩) ⟨fun j b hj _ => hj, fun j b hj => hj⟩ wf (Nat.le_refl _)
    · exact kk _ _ (.inr ⟨h.next, m + 1, hB, by simp [hm], by simp [Heap.alloc_new]⟩) ⟨fun j b hj _ => (wf.ext _).c j b hj, fun j b hj => hj⟩ (wf.alloc _) (by simp [Heap.alloc])
  · refine op_append (z := z) hd2 hx hy hi rfl rfl (by simp) hs hone h1 h2 ?_
    refine kk _ _ (.inr ⟨h.next, vs.length + m + 1, hB, by simp [hm], Heap.kill_alloc_new _ _ _⟩) ⟨fun j b hj hne => ?_, fun j b hj => hj⟩ ((wf.kill i).alloc _) (by simp [Heap.alloc, Heap.kill])
    have := wf.lt hj
    rw [Heap.kill_alloc_old (by omega) (fun e => hne (some 1) vs.length c (by rw [e]))]
    exact hj
end Go.Eng
