/-
  Texts of one claim, merged: 4 parts.
-/
import Derived.Test.YtigmojilaadbhaaGreatDoorMug
import Derived.Test.YtigmojilaadbhaaGreatDoorMul
import Derived.Test.YtigmojilaadbhaaGreatDoorMui
import Derived.Test.YtigmojilaadbhaaGreatDoorMuj
set_option maxHeartbeats 16000000
/- . -/
namespace Go.Eng
open Go
def WOp {P : Program} (C : Ctx P) (ro : Option Nat) (o : Oper) (ρ : Operand → Value) (h : Heap) (s : Option Code) (K : Value → Heap → Option Code → Prop) : Prop :=
 ∀ φ a w, C.L s φ h w → RelO P φ ρ o h a w → ∀ (next : Act → World → Prop) (Qc : Exit → Act → World → Prop),
  (∀ c w' φ' h' s' v, K v h' s' → VRel φ' h'.next v c → Sim P φ' h' w' → StepX C.x φ h w φ' h' w' → C.L s' φ' h' w' → (∀ D : Nat, w.heap[D]? = some (Obj.deferred (some [])) → w'.heap[D]? = some (Obj.deferred (some []))) → next (a.put o.dst c) w') →
   o.wpIn (Fc ro) 0 P a w next Qc
theorem WOp.congr {P : Program} {C : Ctx P} {ro : Option Nat} {o : Oper} {ρ ρ' : Operand → Value} {h : Heap} {s : Option Code} {K : Value → Heap → Option Code → Prop} (hq : ∀ x, x ∈ o.op.operands → ρ x = ρ' x) (p : WOp C ro o ρ h s K) : WOp C ro o ρ' h s K :=
 fun φ a w l r => p φ a w l ⟨r.sim, fun x hx => by rw [hq x hx]; exact r.ev x hx⟩
theorem WOp.mono {P : Program} {C : Ctx P} {ro : Option Nat} {o : Oper} {ρ : Operand → Value} {h : Heap} {s : Option Code} {K K' : Value → Heap → Option Code → Prop} (p : WOp C ro o ρ h s K) (hk : ∀ v h' s', K v h' s' → K' v h' s') : WOp C ro o ρ h s K' :=
 fun φ a w l r next Qc kk => p φ a w l r next Qc fun c w' φ' h' s' v k => kk c w' φ' h' s' v (hk v h' s' k)
theorem WOp.of {P : Program} {C : Ctx P} {ro : Option Nat} {o : Oper} {ρ : Operand → Value} {h : Heap} {s : Option Code} {K : Value → Heap → Option Code → Prop} (hnd : deferB o.op = false) (p : AOp P o ρ h fun v h' => K v h' s) : WOp C ro o ρ h s K := by
 intro φ a w l r next Qc kk
 refine qc7 (qd0 hnd) (p φ a w r _ _ fun c w' φ' h' v k vr sm st => ?_)
 exact kk c w' φ' h' s v k vr sm st.x (C.st r.sim l st) fun D hD => st.other r.sim hD rfl
theorem WOp.yield {P : Program} {C : Ctx P} {ro : Option Nat} {dst : Option Tmp} {x : Operand} {args : Array Operand} {aT : Array TypeId} {l : Nat} {ty : TypeId} {pos : String} {aft : Array Edge} {g : Option (Nat × Bool)} {ρ : Operand → Value} {h : Heap} {s : Option Code} {K : Value → Heap → Option Code → Prop}
  (hx : ρ x = yieldV l) (hy : YSpec C ro l (args.toList.map ρ) h s K) : WOp C ro ⟨dst, .call ⟨.value x, args, aT⟩, ty, pos, aft, g⟩ ρ h s K := by
 intro φ a w hl r next Qc kk
 have hv := hx ▸ r.ev x (by simp [Op.operands, Call.operands])
 obtain ⟨f', d', e1, s1, s2, _, _⟩ := hv.func_inv
 have hf0 : f' = #[] := Array.eq_empty_of_size_eq_zero s1.symm
 subst hf0
 have hargs : VRels φ h.next (args.toList.map ρ) (args.toList.map a.eval) := VRels.map fun y hy => r.ev y (by simp [Op.operands, Call.operands]; exact .inr (by simpa using hy))
 obtain ⟨fn, tmps, assign, body, hrun, hround⟩ := hy φ w _ hl r.sim hargs
 have harr : (args.toList.map a.eval).toArray = args.map a.eval := by apply Array.ext'; simp
 rw [harr] at hrun
 refine ⟨fun _ _ => trivial, ?_⟩
 rw [show (Fc ro).round = ro from rfl, Oper.semAt_eq ro a.eval _ (by intro c e; cases e)]
 have hex : (execOp a.eval ⟨dst, .call ⟨.value x, args, aT⟩, ty, pos, aft, g⟩).run P w = .ok (.round l fn tmps assign body) w := by
  simp only [execOp, resolve, e1, Deferred.ofValue, Sem.run_bind, Sem.run_pure, Result.andThen_ok, invoke]
  simpa using hrun
 rw [hex]
 refine ⟨(fun e => by cases e), RoundIn.mono hround fun e w' hr => ?_⟩
 cases e with
 | returned c =>
  obtain ⟨v, h', s', φ', k, v1, v2, v3, v4, v5⟩ := hr
  exact kk c w' φ' h' s' v k v1 v2 v3 v4 v5
 | _ => exact hr.elim
def YDAL {P : Program} (C : Ctx P) (ro : Option Nat) (N : Nat) (ops : Array Oper) (Q : Exit → XQ) : List (Nat × KdX) → Env → Heap → Option Code → Prop
 | [], env, h, s => ∀ φ a w, C.L s φ h w → Marks C.B a.defers w → Rel P N φ env h a.tmps w → XPost C N φ h w (Q .normal) a w
 | (i, .R) :: σ, env, h, s => ∃ o, ops[i]? = some o ∧ dstB N o.dst = true ∧ ∃ v, ((gv ops env o = some true ∧ ROp P o (ev P env) h v) ∨ (gv ops env o = some false ∧ v = skipV)) ∧ YDAL C ro N ops Q σ (env.put o.dst v) h s
 | (i, .P) :: σ, env, h, s => ∃ o, ops[i]? = some o ∧ dstB N o.dst = true ∧ ∃ v, ((gv ops env o = some true ∧ ∀ h', AOp P o (ev P env) h' fun v' h'' => v' = v ∧ h'' = h') ∨ (gv ops env o = some false ∧ v = skipV)) ∧ YDAL C ro N ops Q σ (env.put o.dst v) h s
 | (i, .X) :: σ, env, h, s => ∃ o, ops[i]? = some o ∧ dstB N o.dst = true ∧
   ((gv ops env o = some true ∧ AOp P o (ev P env) h fun v h' => Ext h h' ∧ YDAL C ro N ops Q σ (env.put o.dst v) h' s) ∨ (gv ops env o = some false ∧ YDAL C ro N ops Q σ (env.put o.dst skipV) h s))
 | (i, .W) :: σ, env, h, s => ∃ o, ops[i]? = some o ∧ dstB N o.dst = true ∧
   ((gv ops env o = some true ∧ WOp C ro o (ev P env) h s fun v h' s' => YDAL C ro N ops Q σ (env.put o.dst v) h' s') ∨ (gv ops env o = some false ∧ YDAL C ro N ops Q σ (env.put o.dst skipV) h s))
section
variable {P : Program} {C : Ctx P} {ro : Option Nat} {N : Nat} {ops : Array Oper} {Q : Exit → XQ}
theorem YDAL.eqE : ∀ {σ : List (Nat × KdX)} {e e' : Env} {h : Heap} {s : Option Code}, YDAL C ro N ops Q σ e h s → EqE e e' → YDAL C ro N ops Q σ e' h s
 | [], e, e', h, _, p, q => fun φ a w hl hd r => p φ a w hl hd (r.eqE fun t => (q t).symm)
 | (i, .R) :: σ, e, e', h, _, p, q => by
  obtain ⟨o, ho, hd, v, hv, k⟩ := p
  refine ⟨o, ho, hd, v, ?_, YDAL.eqE k (q.put _ _)⟩
  rw [← q.gv o]
  exact hv.imp (fun ⟨a, b⟩ => ⟨a, b.congr fun x _ => q.ev x⟩) id
 | (i, .P) :: σ, e, e', h, _, p, q => by
  obtain ⟨o, ho, hd, v, hv, k⟩ := p
  refine ⟨o, ho, hd, v, ?_, YDAL.eqE k (q.put _ _)⟩
  rw [← q.gv o]
  exact hv.imp (fun ⟨a, b⟩ => ⟨a, fun h' => (b h').congr fun x _ => q.ev x⟩) id
 | (i, .X) :: σ, e, e', h, _, p, q => by
  obtain ⟨o, ho, hd, hv⟩ := p
  refine ⟨o, ho, hd, ?_⟩
  rw [← q.gv o]
  exact hv.imp (fun ⟨a, b⟩ => ⟨a, (b.congr fun x _ => q.ev x).mono fun v h' _ ⟨k1, k2⟩ => ⟨k1, YDAL.eqE k2 (q.put _ _)⟩⟩) (fun ⟨a, b⟩ => ⟨a, YDAL.eqE b (q.put _ _)⟩)
 | (i, .W) :: σ, e, e', h, _, p, q => by
  obtain ⟨o, ho, hd, hv⟩ := p
  refine ⟨o, ho, hd, ?_⟩
  rw [← q.gv o]
  exact hv.imp (fun ⟨a, b⟩ => ⟨a, (b.congr fun x _ => q.ev x).mono fun v h' s' k => YDAL.eqE k (q.put _ _)⟩) (fun ⟨a, b⟩ => ⟨a, YDAL.eqE b (q.put _ _)⟩)
theorem YDAL.swap {i j : Nat} {k : KdX} {oi oj : Oper} {σ : List (Nat × KdX)} {e : Env} {h : Heap} {s : Option Code} (hi : ops[i]? = some oi) (hj : ops[j]? = some oj) (hap : oj.apart ops oi = true) (hk : kdWX k = false)
  (p : YDAL C ro N ops Q ((j, .R) :: (i, k) :: σ) e h s) : YDAL C ro N ops Q ((i, k) :: (j, .R) :: σ) e h s := by
 obtain ⟨a1, a2, a3⟩ := Oper.apart_spec hap
 obtain ⟨o, ho, hd, vj, hvj, p⟩ := p
 rw [hj] at ho; cases ho
 have later : ∀ (vi : Value) (h' : Heap), Ext h h' → h.next ≤ h'.next → YDAL C ro N ops Q σ ((e.put oj.dst vj).put oi.dst vi) h' s → YDAL C ro N ops Q ((j, .R) :: σ) (e.put oi.dst vi) h' s := by
  intro vi h' hx hn pk
  refine ⟨oj, hj, hd, vj, ?_, pk.eqE (EqE.swap e a2 vj vi)⟩
  rw [qbf a3]
  exact hvj.imp (fun ⟨q1, q2⟩ => ⟨q1, (q2.ext hx hn).congr fun x hx => (qbk a3 x hx).symm⟩) id
 cases k with
 | P =>
  obtain ⟨o, ho, hdi, vi, hvi, p⟩ := p
  rw [hi] at ho; cases ho
  rw [qbf a1] at hvi
  exact ⟨oi, hi, hdi, vi, hvi.imp (fun ⟨q1, q2⟩ => ⟨q1, fun h' => (q2 h').congr (qbk a1)⟩) id, later vi h (Ext.refl h) (Nat.le_refl _) p⟩
 | R =>
  obtain ⟨o, ho, hdi, vi, hvi, p⟩ := p
  rw [hi] at ho; cases ho
  rw [qbf a1] at hvi
  exact ⟨oi, hi, hdi, vi, hvi.imp (fun ⟨q1, q2⟩ => ⟨q1, q2.congr (qbk a1)⟩) id, later vi h (Ext.refl h) (Nat.le_refl _) p⟩
 | X =>
  obtain ⟨o, ho, hdi, hvi⟩ := p
  rw [hi] at ho; cases ho
  rw [qbf a1] at hvi
  refine ⟨oi, hi, hdi, ?_⟩
  exact hvi.imp (fun ⟨q1, q2⟩ => ⟨q1, (q2.congr (qbk a1)).mono fun v h' hn ⟨k1, k2⟩ => ⟨k1, later v h' k1 hn k2⟩⟩) (fun ⟨q1, q2⟩ => ⟨q1, later skipV h (Ext.refl h) (Nat.le_refl _) q2⟩)
 | W => cases hk
theorem YDAL.swapP {i j : Nat} {k : KdX} {oi oj : Oper} {σ : List (Nat × KdX)} {e : Env} {h : Heap} {s : Option Code} (hi : ops[i]? = some oi) (hj : ops[j]? = some oj) (hap : oj.apart ops oi = true)
  (p : YDAL C ro N ops Q ((j, .P) :: (i, k) :: σ) e h s) : YDAL C ro N ops Q ((i, k) :: (j, .P) :: σ) e h s := by
 obtain ⟨a1, a2, a3⟩ := Oper.apart_spec hap
 obtain ⟨o, ho, hd, vj, hvj, p⟩ := p
 rw [hj] at ho; cases ho
 have later : ∀ (vi : Value) (h' : Heap) (s : Option Code), YDAL C ro N ops Q σ ((e.put oj.dst vj).put oi.dst vi) h' s → YDAL C ro N ops Q ((j, .P) :: σ) (e.put oi.dst vi) h' s := by
  intro vi h' s pk
  refine ⟨oj, hj, hd, vj, ?_, pk.eqE (EqE.swap e a2 vj vi)⟩
  rw [qbf a3]
  exact hvj.imp (fun ⟨q1, q2⟩ => ⟨q1, fun h' => (q2 h').congr fun x hx => (qbk a3 x hx).symm⟩) id
 cases k with
 | P =>
  obtain ⟨o, ho, hdi, vi, hvi, p⟩ := p
  rw [hi] at ho; cases ho
  rw [qbf a1] at hvi
  exact ⟨oi, hi, hdi, vi, hvi.imp (fun ⟨q1, q2⟩ => ⟨q1, fun h' => (q2 h').congr (qbk a1)⟩) id, later vi h s p⟩
 | R =>
  obtain ⟨o, ho, hdi, vi, hvi, p⟩ := p
  rw [hi] at ho; cases ho
  rw [qbf a1] at hvi
  exact ⟨oi, hi, hdi, vi, hvi.imp (fun ⟨q1, q2⟩ => ⟨q1, q2.congr (qbk a1)⟩) id, later vi h s p⟩
 | X =>
  obtain ⟨o, ho, hdi, hvi⟩ := p
  rw [hi] at ho; cases ho
  rw [qbf a1] at hvi
  refine ⟨oi, hi, hdi, ?_⟩
  exact hvi.imp (fun ⟨q1, q2⟩ => ⟨q1, (q2.congr (qbk a1)).mono fun v h' hn ⟨k1, k2⟩ => ⟨k1, later v h' s k2⟩⟩) (fun ⟨q1, q2⟩ => ⟨q1, later skipV h s q2⟩)
 | W =>
  obtain ⟨o, ho, hdi, hvi⟩ := p
  rw [hi] at ho; cases ho
  rw [qbf a1] at hvi
  refine ⟨oi, hi, hdi, ?_⟩
  exact hvi.imp (fun ⟨q1, q2⟩ => ⟨q1, (q2.congr (qbk a1)).mono fun v h' s' k2 => later v h' s' k2⟩) (fun ⟨q1, q2⟩ => ⟨q1, later skipV h s q2⟩)
theorem YDAL.front {i : Nat} {k : KdX} {oi : Oper} {σ2 : List (Nat × KdX)} (hi : ops[i]? = some oi) : ∀ {σ1 : List (Nat × KdX)} {e : Env} {h : Heap} {s : Option Code},
  (∀ x ∈ σ1, (x.2 = .P ∨ (x.2 = .R ∧ kdWX k = false)) ∧ ∃ oj, ops[x.1]? = some oj ∧ oj.apart ops oi = true) → YDAL C ro N ops Q (σ1 ++ (i, k) :: σ2) e h s → YDAL C ro N ops Q ((i, k) :: (σ1 ++ σ2)) e h s
 | [], _, _, _, _, p => p
 | (j, kj) :: σ1, e, h, _, hs, p => by
  obtain ⟨h1, oj, h3, h4⟩ := hs (j, kj) (by simp)
  simp only at h1 h3
  rcases h1 with rfl | ⟨rfl, h2⟩
  ·
   obtain ⟨o, ho, hd, v, hv, p⟩ := p
   have p' := YDAL.front (σ2 := σ2) hi (fun s hs' => hs s (by simp [hs'])) p
   exact YDAL.swapP hi h3 h4 ⟨o, ho, hd, v, hv, p'⟩
  ·
   obtain ⟨o, ho, hd, v, hv, p⟩ := p
   have p' := YDAL.front (σ2 := σ2) hi (fun s hs' => hs s (by simp [hs'])) p
   exact YDAL.swap hi h3 h4 h2 ⟨o, ho, hd, v, hv, p'⟩
theorem any_orderY (hdf : ops.all (fun o => deferB o.op == false) = true) (A : Array Nat) (hr : rangeB ops = true) (hc : closeB ops A = true) (hA : ∀ i j, ancB A i j = true → j < ops.size) : ∀ (n : Nat) (σ : List (Nat × KdX)) (L : Array Bool) (env : Env) (h : Heap) (s : Option Code) (φ : Ren) (a : Act) (w : World), σ.length = n → L.size = ops.size →
  (∀ i, i < ops.size → (L.getD i true = false ↔ ∃ k, (i, k) ∈ σ)) → (∀ x ∈ σ, x.1 < ops.size) → (∀ i j, L.getD i false = true → ancB A i j = true → L.getD j false = true) → pairsX ops A σ = true →
  C.L s φ h w → Marks C.B a.defers w → Rel P N φ env h a.tmps w → YDAL C ro N ops Q σ env h s → wpAnyIn (Fc ro) 0 P .any ops (fun ex a' w' => XPost C N φ h w (Q ex) a' w') n L a w := by
 intro n
 induction n with
 | zero =>
  intro σ L env h s φ a w hn hL hmem _ _ _ hl hd r p
  have : σ = [] := List.eq_nil_of_length_eq_zero hn
  subst this
  refine ⟨?_, p φ a w hl hd r⟩
  apply List.eq_nil_iff_forall_not_mem.2
  intro i hi
  obtain ⟨h1, o, h2, _⟩ := mem_ready.1 hi
  have hlt : i < ops.size := (Array.getElem?_eq_some_iff.1 h2).1
  obtain ⟨k, hk⟩ := (hmem i hlt).1 h1
  cases hk
 | succ n ih =>
  intro σ L env h s φ a w hn hL hmem hlt hclo hpr hl hd r p
  have hin : ∀ j, j < ops.size → (¬ ∃ k, (j, k) ∈ σ) → L.getD j false = true := by
   intro j hj hno
   cases hq : L.getD j true with
   | false => exact absurd ((hmem j hj).1 hq) hno
   | true =>
    have hjl : j < L.size := by omega
    simp only [Array.getD_eq_getD_getElem?, Array.getElem?_eq_getElem hjl, Option.getD_some] at hq ⊢
    exact hq
  have hrange : ∀ (i : Nat) (o : Oper), ops[i]? = some o → ∀ e ∈ o.after, Region.binds .any e = true → e.on < ops.size := by
   intro i o ho e he hb
   have h1 := Array.all_eq_true_iff_forall_mem.1 hr o (Array.mem_of_getElem? ho)
   have h2 := Array.all_eq_true_iff_forall_mem.1 h1 e he
   simp only [hb, Bool.not_true, Bool.false_or] at h2
   simpa [Nat.blt_eq] using h2
  refine ⟨fun hnil => ?_, fun i hi => ?_⟩
  ·
   exfalso
   obtain ⟨⟨i0, k0⟩, σ', rfl⟩ : ∃ s σ', σ = s :: σ' := by
    cases σ with
    | nil => simp at hn
    | cons s σ' => exact ⟨s, σ', rfl⟩
   have hi0 := hlt (i0, k0) (by simp)
   have ho0 : ops[i0]? = some ops[i0] := Array.getElem?_eq_getElem hi0
   have : i0 ∈ Region.ready .any ops L := by
    refine mem_ready.2 ⟨(hmem i0 hi0).2 ⟨k0, by simp⟩, ops[i0], ho0, fun e he hb => ?_⟩
    have hedge : edgeB ops i0 e.on = true := (qbD ho0).2 ⟨e, he, hb, rfl⟩
    refine hin e.on (hrange i0 _ ho0 e he hb) ?_
    rintro ⟨k, hk⟩
    simp only [pairsX, Bool.and_eq_true, List.all_eq_true, Bool.not_eq_eq_eq_not, Bool.not_true] at hpr
    rcases List.mem_cons.1 hk with hk | hk
    ·
     cases hk
     rw [hpr.1.1] at hedge; cases hedge
    ·
     have := (hpr.1.2 _ hk).2
     simp only [pairX, Bool.and_eq_true, Bool.not_eq_eq_eq_not, Bool.not_true] at this
     rw [this.1] at hedge; cases hedge
   rw [hnil] at this
   cases this
  ·
   obtain ⟨hi1, o, ho, hedges⟩ := mem_ready.1 hi
   have hilt : i < ops.size := (Array.getElem?_eq_some_iff.1 ho).1
   obtain ⟨k, hk⟩ := (hmem i hilt).1 hi1
   obtain ⟨σ1, σ2, rfl⟩ := List.append_of_mem hk
   obtain ⟨hp1, hp2, hp3⟩ := qeO hpr
   have hanc : ∀ j, ancB A i j = true → L.getD j false = true := by
    intro j hj
    have hjl := hA i j hj
    have h1 := List.all_eq_true.1 (List.all_eq_true.1 hc i (List.mem_range.2 hilt)) j (List.mem_range.2 hjl)
    simp only [hj, Bool.not_true, Bool.false_or, Bool.or_eq_true, List.any_eq_true, Bool.and_eq_true] at h1
    rcases h1 with h1 | ⟨m, _, h2, h3⟩
    ·
     obtain ⟨e, he, hb, rfl⟩ := (qbD ho).1 h1
     exact hedges e he hb
    ·
     obtain ⟨e, he, hb, rfl⟩ := (qbD ho).1 h2
     exact hclo _ j (hedges e he hb) h3
   have hfr : ∀ x ∈ σ1, (x.2 = .P ∨ (x.2 = .R ∧ kdWX k = false)) ∧ ∃ oj, ops[x.1]? = some oj ∧ oj.apart ops o = true := by
    intro s hs
    obtain ⟨u1, u2⟩ := hp2 s hs
    simp only [pairX, Bool.and_eq_true, Bool.or_eq_true, Bool.not_eq_eq_eq_not, Bool.not_true] at u1
    have hap : apartB ops s.1 i = true → ∃ oj, ops[s.1]? = some oj ∧ oj.apart ops o = true := by
     intro u5
     unfold apartB at u5
     rw [ho] at u5
     cases hoj : ops[s.1]? with
     | none => rw [hoj] at u5; cases u5
     | some oj => rw [hoj] at u5; exact ⟨oj, rfl, u5⟩
    rcases u1.2 with (u3 | ⟨⟨u3, u4⟩, u5⟩) | ⟨u3, u5⟩
    ·
     exfalso
     have h1 := hanc s.1 u3
     have h2 := (hmem s.1 (hlt s (by simp [hs]))).2 ⟨s.2, by simp [hs]⟩
     have hjl : s.1 < L.size := by rw [hL]; exact hlt s (by simp [hs])
     simp only [Array.getD_eq_getD_getElem?, Array.getElem?_eq_getElem hjl, Option.getD_some] at h1 h2
     rw [h1] at h2; cases h2
    ·
     refine ⟨.inr ⟨?_, u4⟩, hap u5⟩
     cases hs2 : s.2 with
     | R => rfl
     | P => rw [hs2] at u3; cases u3
     | X => rw [hs2] at u3; cases u3
     | W => rw [hs2] at u3; cases u3
    ·
     refine ⟨.inl ?_, hap u5⟩
     cases hs2 : s.2 with
     | P => rfl
     | R => rw [hs2] at u3; cases u3
     | X => rw [hs2] at u3; cases u3
     | W => rw [hs2] at u3; cases u3
   have pf := YDAL.front ho hfr p
   have hL' : (L.setIfInBounds i true).size = ops.size := by simp [hL]
   have hlen' : (σ1 ++ σ2).length = n := by simp at hn ⊢; omega
   have hmem' : ∀ j, j < ops.size → ((L.setIfInBounds i true).getD j true = false ↔ ∃ k, (j, k) ∈ σ1 ++ σ2) := by
    intro j hj
    by_cases hji : i = j
    ·
     subst hji
     have : (L.setIfInBounds i true).getD i true = true := by
      simp [Array.getD_eq_getD_getElem?]
     rw [this]
     constructor
     ·
      intro e; cases e
     ·
      rintro ⟨k', hk'⟩
      exfalso
      rcases List.mem_append.1 hk' with h1 | h1
      ·
       exact (hp2 _ h1).2 rfl
      ·
       exact hp3 _ h1 rfl
    ·
     rw [getD_set_ne _ hji, hmem j hj]
     constructor
     ·
      rintro ⟨k', hk'⟩
      refine ⟨k', ?_⟩
      rcases List.mem_append.1 hk' with h1 | h1
      ·
       exact List.mem_append_left _ h1
      ·
       rcases List.mem_cons.1 h1 with h2 | h2
       ·
        cases h2; exact absurd rfl hji
       ·
        exact List.mem_append_right _ h2
     ·
      rintro ⟨k', hk'⟩
      refine ⟨k', ?_⟩
      rcases List.mem_append.1 hk' with h1 | h1
      ·
       exact List.mem_append_left _ h1
      ·
       exact List.mem_append_right _ (by simp [h1])
   have hlt' : ∀ x ∈ σ1 ++ σ2, x.1 < ops.size := by
    intro s hs
    refine hlt s ?_
    rcases List.mem_append.1 hs with h1 | h1
    ·
     exact List.mem_append_left _ h1
    ·
     exact List.mem_append_right _ (by simp [h1])
   have hclo' : ∀ x y, (L.setIfInBounds i true).getD x false = true → ancB A x y = true → (L.setIfInBounds i true).getD y false = true := by
    intro x y hx hxy
    refine getD_set_true ?_
    by_cases hxi : i = x
    ·
     subst hxi; exact hanc y hxy
    ·
     rw [getD_set_ne _ hxi] at hx
     exact hclo x y hx hxy
   have go : ∀ (φ' : Ren) (env' : Env) (h' : Heap) (s' : Option Code) (a' : Act) (w' : World), C.L s' φ' h' w' → Marks C.B a'.defers w' → Rel P N φ' env' h' a'.tmps w' → StepX C.x φ h w φ' h' w' → YDAL C ro N ops Q (σ1 ++ σ2) env' h' s' →
     wpAnyIn (Fc ro) 0 P .any ops (fun ex a2 w2 => XPost C N φ h w (Q ex) a2 w2) n (L.setIfInBounds i true) a' w' := by
    intro φ' env' h' s' a' w' hl' hd' r' st p'
    exact qbL (fun _ _ _ hp => hp.trans st) _ _ _ _ (ih (σ1 ++ σ2) _ env' h' s' φ' a' w' hlen' hL' hmem' hlt' hclo' hp1 hl' hd' r' p')
   have hnd : deferB o.op = false := by
    have := Array.all_eq_true_iff_forall_mem.1 hdf o (Array.mem_of_getElem? ho)
    simpa using this
   have runW : ∀ (K : Value → Heap → Option Code → Prop), dstB N o.dst = true → gv ops env o = some true → WOp C ro o (ev P env) h s K → (∀ v h' s', K v h' s' → YDAL C ro N ops Q (σ1 ++ σ2) (env.put o.dst v) h' s') →
     wpOpIn (Fc ro) 0 P ops (fun ex a2 w2 => XPost C N φ h w (Q ex) a2 w2) i (wpAnyIn (Fc ro) 0 P .any ops (fun ex a2 w2 => XPost C N φ h w (Q ex) a2 w2) n (L.setIfInBounds i true)) a w := by
    intro K hdst hg hop hk
    simp only [wpOpIn, ho, qbm r hg, if_true]
    refine hop φ a w hl ⟨r.sim, fun x _ => r.ev x⟩ _ _ fun c w' φ' h' s' v kv vr sm st l' mk => ?_
    exact go φ' _ h' s' _ w' l' (by rw [qbb]; exact hd.keep mk) (Rel.put ⟨sm, r.size, fun t => st.mono (r.env t)⟩ o.dst (qbX hdst) vr) st (hk v h' s' kv)
   have run : ∀ (K : Value → Heap → Prop), dstB N o.dst = true → gv ops env o = some true → AOp P o (ev P env) h K → (∀ v h', K v h' → YDAL C ro N ops Q (σ1 ++ σ2) (env.put o.dst v) h' s) →
     wpOpIn (Fc ro) 0 P ops (fun ex a2 w2 => XPost C N φ h w (Q ex) a2 w2) i (wpAnyIn (Fc ro) 0 P .any ops (fun ex a2 w2 => XPost C N φ h w (Q ex) a2 w2) n (L.setIfInBounds i true)) a w :=
    fun K hdst hg hop hk => runW (fun v h' s' => s' = s ∧ K v h') hdst hg (.of hnd (hop.mono fun v h' _ k => ⟨rfl, k⟩)) fun v h' s' ⟨e, k⟩ => by subst e; exact hk v h' k
   have skip : dstB N o.dst = true → gv ops env o = some false → YDAL C ro N ops Q (σ1 ++ σ2) (env.put o.dst skipV) h s →
     wpOpIn (Fc ro) 0 P ops (fun ex a2 w2 => XPost C N φ h w (Q ex) a2 w2) i (wpAnyIn (Fc ro) 0 P .any ops (fun ex a2 w2 => XPost C N φ h w (Q ex) a2 w2) n (L.setIfInBounds i true)) a w := by
    intro hdst hg hk
    simp only [wpOpIn, ho, qbm r hg, Bool.false_eq_true, if_false]
    refine ⟨fun _ _ => trivial, ?_⟩
    exact go φ _ h s _ w hl (by rw [qbb]; exact hd) (r.put o.dst (qbX hdst) .skip) (StepX.refl _ _ _ _) hk
   cases k with
   | P =>
    obtain ⟨o', ho', hdst, v, hv, pk⟩ := pf
    rw [ho] at ho'; cases ho'
    rcases hv with ⟨g1, g2⟩ | ⟨g1, rfl⟩
    ·
     exact run _ hdst g1 (g2 h) fun v' h' ⟨e1, e2⟩ => by subst e1 e2; exact pk
    ·
     exact skip hdst g1 pk
   | R =>
    obtain ⟨o', ho', hdst, v, hv, pk⟩ := pf
    rw [ho] at ho'; cases ho'
    rcases hv with ⟨g1, g2⟩ | ⟨g1, rfl⟩
    ·
     exact run _ hdst g1 (g2 h (Ext.refl h) (Nat.le_refl _)) fun v' h' ⟨e1, e2⟩ => by subst e1 e2; exact pk
    ·
     exact skip hdst g1 pk
   | X =>
    obtain ⟨o', ho', hdst, hv⟩ := pf
    rw [ho] at ho'; cases ho'
    rcases hv with ⟨g1, g2⟩ | ⟨g1, g2⟩
    ·
     exact run _ hdst g1 g2 fun v' h' ⟨_, e2⟩ => e2
    ·
     exact skip hdst g1 g2
   | W =>
    obtain ⟨o', ho', hdst, hv⟩ := pf
    rw [ho] at ho'; cases ho'
    rcases hv with ⟨g1, g2⟩ | ⟨g1, g2⟩
    ·
     exact runW _ hdst g1 g2 fun v' h' s' e2 => e2
    ·
     exact skip hdst g1 g2
theorem XWp.drawY {id : Nat} {σ : List (Nat × KdX)} {env : Env} {h : Heap} {s : Option Code} (hm : P.follows .mixedOrders = true) (hdf : ops.all (fun o => deferB o.op == false) = true) (hb : drawX ops σ = true) (p : YDAL C ro N ops Q σ env h s) : XWp C ro N (.region id ops true) Q env h s := by
 intro φ a w hl hd r
 simp only [drawX, Bool.and_eq_true] at hb
 obtain ⟨⟨⟨⟨⟨⟨b1, b2⟩, b3⟩, b4⟩, b5⟩, b6⟩, b7⟩ := hb
 have b1' : σ.length = ops.size := Nat.eq_of_beq_eq_true b1
 refine wpIn_region_any hm ?_
 have r' : Rel P N φ env h a.tmps w.drew := ⟨r.sim.drew, r.size, r.env⟩
 refine qbL (fun _ _ _ hp => hp.trans Step.drew.x) _ _ _ _ (any_orderY (ro := ro) hdf (Region.before ops) b5 b7 ?_ ops.size σ (Array.replicate ops.size false) env h s φ a w.drew b1' (by simp) ?_ ?_ ?_ b6 (C.st r.sim hl Step.drew) (hd.step r.sim (Step.drew (φ := φ) (h := h))) r' p)
 ·
  intro i j hij
  unfold ancB at hij
  rcases Nat.lt_or_ge j ops.size with hl | hl
  ·
   exact hl
  ·
   exfalso
   have hx : (Region.before ops).getD i 0 < 2 ^ ops.size := by
    rcases Nat.lt_or_ge i (Region.before ops).size with h1 | h1
    ·
     have := Array.all_eq_true_iff_forall_mem.1 b4 ((Region.before ops)[i]) (by simp)
     rw [Array.getD_eq_getD_getElem?, Array.getElem?_eq_getElem h1]
     simpa [Nat.blt_eq] using this
    ·
     rw [Array.getD_eq_getD_getElem?, Array.getElem?_eq_none h1]
     exact Nat.two_pow_pos _
   have := Nat.testBit_lt_two_pow (Nat.lt_of_lt_of_le hx (Nat.pow_le_pow_right (by omega) hl))
   rw [this] at hij
   cases hij
 ·
  intro i hi
  have h1 : (Array.replicate ops.size false).getD i true = false := by
   simp [Array.getD_eq_getD_getElem?, hi]
  rw [h1]
  simp only [true_iff]
  have := List.all_eq_true.1 b2 i (List.mem_range.2 hi)
  obtain ⟨⟨j, k⟩, h2, h3⟩ := List.any_eq_true.1 this
  have : j = i := Nat.eq_of_beq_eq_true h3
  subst this
  exact ⟨k, h2⟩
 ·
  intro s hs
  simpa [Nat.blt_eq] using List.all_eq_true.1 b3 s hs
 ·
  intro i j hi
  exfalso
  by_cases hl : i < ops.size
  ·
   simp [Array.getD_eq_getD_getElem?, hl] at hi
  ·
   simp [Array.getD_eq_getD_getElem?, hl] at hi
section steps
variable {i : Nat} {σ : List (Nat × KdX)} {env : Env} {h : Heap} {s : Option Code} {d : Tmp} {op : Op} {ty : TypeId} {pos : String} {aft : Array Edge} {g : Option (Nat × Bool)}
theorem YDAL.r {v : Value} (ho : ops[i]? = some ⟨some d, op, ty, pos, aft, g⟩) (hd : Nat.blt d N = true) (hg : gv ops env ⟨some d, op, ty, pos, aft, g⟩ = some true) (hv : ∀ h', Ext h h' → h.next ≤ h'.next → AOp P ⟨some d, op, ty, pos, aft, g⟩ (ev P env) h' fun v' h'' => v' = v ∧ h'' = h')
  (k : YDAL C ro N ops Q σ ((d, v) :: env) h s) : YDAL C ro N ops Q ((i, .R) :: σ) env h s := ⟨_, ho, hd, v, .inl ⟨hg, hv⟩, k⟩
theorem YDAL.skip {kd : KdX} (ho : ops[i]? = some ⟨some d, op, ty, pos, aft, g⟩) (hd : Nat.blt d N = true) (hg : gv ops env ⟨some d, op, ty, pos, aft, g⟩ = some false)
  (k : YDAL C ro N ops Q σ ((d, skipV) :: env) h s) : YDAL C ro N ops Q ((i, kd) :: σ) env h s := by
 cases kd
 ·
  exact ⟨_, ho, hd, skipV, .inr ⟨hg, rfl⟩, k⟩
 ·
  exact ⟨_, ho, hd, skipV, .inr ⟨hg, rfl⟩, k⟩
 ·
  exact ⟨_, ho, hd, .inr ⟨hg, k⟩⟩
 ·
  exact ⟨_, ho, hd, .inr ⟨hg, k⟩⟩
theorem YDAL.w {dst : Option Tmp} (ho : ops[i]? = some ⟨dst, op, ty, pos, aft, g⟩) (hd : dstB N dst = true) (hg : gv ops env ⟨dst, op, ty, pos, aft, g⟩ = some true) (hv : WOp C ro ⟨dst, op, ty, pos, aft, g⟩ (ev P env) h s fun v h' s' => YDAL C ro N ops Q σ (env.put dst v) h' s') :
  YDAL C ro N ops Q ((i, .W) :: σ) env h s := ⟨_, ho, hd, .inl ⟨hg, hv⟩⟩
theorem YDAL.nil (k : Q .normal env h s) : YDAL C ro N ops Q [] env h s := fun _ _ _ hl hd r => XPost.now k hl hd r
end steps
end
end Go.Eng
/- . -/
namespace Go.Proofs.YtigmojilaadbhaaGreatDoor
open Go Go.Eng Go.Pln Go.Lib
attribute [local irreducible] AWp AL DAL AOp XWp XL YDAL
instance qev : FnC Tryz.prog 171 := ⟨Tryz.f171, Tryz.func171, by kernel_rfl, by kernel_rfl⟩
instance qeb : FnC Tryz.prog 193 := ⟨Tryz.f193, Tryz.func193, by kernel_rfl, by kernel_rfl⟩
instance qeu : FnC Tryz.prog 150 := ⟨Tryz.f150, Tryz.func150, by kernel_rfl, by kernel_rfl⟩
theorem rising0_c (u : Value) (l : List EntM) (h : Heap) (r : RE h u l) : ACalls Tryz.prog 171 [u] h fun v h' => v = .func (.func 193) #[] #[ptr h.next] ∧ h' = h.alloc ⟨[u], 35, true⟩ := by
 obtain ⟨ro, r1, r2, r3⟩ := r.ex
 obtain ⟨ua, uc, rfl⟩ := r1.slice
 refine ACalls.body Tryz.func171 rfl rfl ?_
 repeat (first | refine W.w ?_ | (refine zz rfl ?_; first | refine qaY rfl ?_ | refine qaV (v := .slice ua ro.length uc) rfl (by intro e; cases e) ?_ | refine qa3 rfl rfl ?_ | refine qaq (by conv => lhs; whnf) ?_))
 exact ⟨_, ResV.tmp rfl, rfl, rfl⟩
def goodAt (l : List EntM) (k : Nat) : Prop := ∀ e, l[k]? = some e → behindM (l.take k) e = true
def risingM (l : List EntM) : Bool := (List.range l.length).all fun k => match l[k]? with
 | some e => behindM (l.take k) e
 | none => true
theorem qc4 (l : List EntM) (n : Nat) (hn : n ≤ l.length) (h1 : ∀ i, i < n → goodAt l i) (h2 : n = l.length ∨ ¬ goodAt l n) : risingM l = decide (n = l.length) := by
 rcases h2 with rfl | h2
 ·
  rw [decide_eq_true rfl]
  refine List.all_eq_true.2 fun k hk => ?_
  have := h1 k (List.mem_range.1 hk)
  split
  ·
   rename_i e he; exact this e he
  ·
   rfl
 ·
  have hne : n ≠ l.length := by
   rintro rfl
   exact h2 fun e he => by simp at he
  rw [decide_eq_false hne]
  cases hr : risingM l with
  | false => rfl
  | true =>
   exfalso
   refine h2 fun e he => ?_
   have := List.all_eq_true.1 hr n (List.mem_range.2 (by omega))
   rw [he] at this
   exact this
theorem rising1_x (C : Ctx Tryz.prog) (hq : C.Quiet) (y p : Nat) (u : Value) (l : List EntM) (h : Heap) (hb : h.get p = some ⟨[u], 35, true⟩) (r : RE h u l) (Y : Nat → Heap → Prop) (hYe : ∀ k H, Y k H → H.get p = some ⟨[u], 35, true⟩ ∧ RE H u l) (hYs : ∀ k H H', Y k H → Ext H H' → H.next ≤ H'.next → Y k H')
  (hy : YS C y (fun (i : Nat) H args => args.length = 1 ∧ i < l.length ∧ Y i H) (fun i H => Y (i + 1) H) (fun _ _ _ => False)) (h0 : Y 0 h) :
  XCalls C 193 [yieldV y, ptr p] h none fun _ h' s' => (s' = none ∧ ∃ n, n ≤ l.length ∧ (∀ i, i < n → goodAt l i) ∧ (n = l.length ∨ ¬ goodAt l n) ∧ Y n h') ∨ ∃ j, s' = some j ∧ False := by
 refine XCalls.body Tryz.func193 rfl (Nat.le_of_ble_eq_true rfl) ?_ hq
 obtain ⟨ro, r1, r2, r3⟩ := r.ex
 have hlen := r.len
 obtain ⟨ua, uc, hu⟩ := r1.slice
 repeat (first | refine XL.nil ?_ | refine XWp.seq ?_ | refine XWp.region ?_ | refine XWp.block ?_ | refine XL.set rfl rfl rfl (qac rfl ?_) | refine XL.set rfl rfl rfl (qaf rfl rfl hb rfl ?_) | refine XL.set rfl rfl rfl (qaB r1 rfl ?_))
 rw [r2]
 refine XWp.wf fun wf => ?_
 refine XWp.loop (α := Nat × Heap) (fun d => [(0, yieldV y), (1, ptr p), (5, u), (6, .int .i64 (l.length : Nat)), (7, .int .i64 (d.1 : Nat))]) (fun d => d.2) (fun d => d.1 ≤ l.length ∧ (∀ i, i < d.1 → goodAt l i) ∧ Y d.1 d.2 ∧ WF d.2) (fun d => l.length - d.1) (0, h) ⟨Nat.zero_le _, by omega, h0, wf⟩
  (Weak.same (EW.cons rfl (EW.cons rfl (EW.cons rfl (EW.cons rfl (EW.cons rfl EW.nil)))))) ?_
 rintro ⟨k, H⟩ ⟨hk, hgd, hY, wfH⟩
 replace hk : k ≤ l.length := hk
 replace hgd : ∀ i, i < k → goodAt l i := hgd
 replace hY : Y k H := hY
 replace wfH : WF H := wfH
 show XWp _ _ _ _ _ [(0, yieldV y), (1, ptr p), (5, u), (6, .int .i64 (l.length : Nat)), (7, .int .i64 (k : Nat))] H none
 obtain ⟨hbH, rH⟩ := hYe k H hY
 clear r1 r2 r3 hu
 obtain ⟨ro, r1, r2, r3⟩ := rH.ex
 by_cases hlt : k < l.length
 ·
  obtain ⟨e, he⟩ : ∃ e, l[k]? = some e := ⟨_, List.getElem?_eq_getElem hlt⟩
  obtain ⟨row, hrow⟩ : ∃ row, ro[k]? = some row := ⟨_, List.getElem?_eq_getElem (by omega)⟩
  obtain ⟨kv, vv, rfl, a1, a2⟩ := r3 k row e hrow he
  have o1 := a1.one
  have o2 := a2.one
  repeat (first | refine XL.nil ?_ | refine XWp.seq ?_ | refine XWp.region ?_ | refine XWp.condT rfl ?_ | refine XWp.block ?_ | refine XWp.skip ?_ | refine XL.set rfl rfl rfl (qac rfl ?_) | refine XL.set rfl rfl rfl (qam rfl rfl rfl (by omega) ?_))
  refine XL.set rfl rfl rfl (qdV r1 rfl rfl (by omega) (show ro[((k : Nat) : Int).toNat]? = some _ from hrow) ?_)
  intro pp hpp
  repeat (first | refine XL.set rfl rfl rfl (qad rfl ?_) | refine XL.set rfl rfl rfl (qa1 hpp rfl rfl rfl ?_) | refine XL.set rfl rfl rfl (qaw ?_))
  refine XL.eff rfl rfl (qaE (vs := entC kv vv e) rfl rfl rfl rfl (by unfold entC; simp only [List.all_cons, o1.1, o2.1]; rfl) ?_)
  have g1 := Heap.alloc_new H ⟨entC kv vv e, 171, true⟩
  have x1 := wfH.ext ⟨entC kv vv e, 171, true⟩
  have wf1 := wfH.alloc ⟨entC kv vv e, 171, true⟩
  have hY1 := hYs k H _ hY x1 (Nat.le_succ _)
  generalize H.alloc ⟨entC kv vv e, 171, true⟩ = H1 at g1 x1 wf1 hY1 ⊢
  have xh1 := x1
  have rt : ∀ h', Ext H1 h' → RE h' (subN 4 u 0 (k : Nat)) (l.take k) := fun h' hx => by
   refine ⟨⟨ro.take k, ?_, by simp; omega, fun j row' e' hr' he' => ?_⟩, by simp; omega⟩
   ·
    have := ((r1.ext xh1).ext hx).sub (l := 0) (m := (k : Nat)) (by omega) (by omega) (by omega)
    simpa using this
   ·
    rw [List.getElem?_take] at hr' he'
    split at hr'
    ·
     rw [if_pos (by assumption)] at he'
     exact ((r3 j row' e' hr' he').ext xh1).ext hx
    ·
     cases hr'
  have cb := fun (h' : Heap) (hx : Ext H1 h') => behind_c (subN 4 u 0 (k : Nat)) kv vv (l.take k) e h' (rt h' hx) ((a1.ext xh1).ext hx) ((a2.ext xh1).ext hx)
  cases hbm : behindM (l.take k) e with
  | false =>
   rw [hbm] at cb
   repeat (first | refine XL.nil ?_ | refine XWp.seq ?_)
   refine XWp.drawY (σ := [(0, .R), (1, .R), (2, .R), (3, .R), (4, .R), (5, .R), (6, .R), (7, .R), (8, .R), (9, .W), (10, .R), (11, .R)]) mixed (by kernel_rfl) (by kernel_rfl) ?_
   repeat' (first | refine YDAL.skip rfl rfl rfl ?_ | refine YDAL.r rfl rfl rfl (fun h' hx hn => qac rfl ⟨rfl, rfl⟩) ?_ | refine YDAL.r rfl rfl rfl (fun h' hx hn => qae rfl ⟨rfl, rfl⟩) ?_ | refine YDAL.r rfl rfl rfl (fun h' hx hn => qaf rfl rfl (hx.c _ _ (xh1.c _ _ hbH)) rfl ⟨rfl, rfl⟩) ?_ | refine YDAL.r rfl rfl rfl (fun h' hx hn => qfP (l := 0) (m := (k : Nat)) ((r1.ext xh1).ext hx) rfl rfl rfl (by omega) (by omega) (by omega) ⟨rfl, rfl⟩) ?_ | refine YDAL.r rfl rfl rfl (fun h' hx hn => qaj (sz := 4) rfl rfl (hx.c _ _ g1) (Nat.le_refl _) ⟨rfl, rfl⟩) ?_ | refine YDAL.r rfl rfl rfl (fun h' hx hn => qab rfl rfl (cb h' hx) ⟨rfl, rfl⟩) ?_ | refine YDAL.r rfl rfl rfl (fun h' hx hn => qaL rfl ⟨rfl, rfl⟩) ?_ | refine YDAL.r rfl rfl rfl (fun h' hx hn => qah (v := .bool _) rfl rfl ⟨rfl, rfl⟩) ?_)
   refine YDAL.nil ?_
   repeat (first | refine XWp.condT rfl ?_ | refine XWp.ret ?_)
   exact ⟨_, ResV.none rfl, .inl ⟨rfl, k, hk, hgd, .inr (fun hg => by rw [hg e he] at hbm; cases hbm), hY1⟩⟩
  | true =>
   rw [hbm] at cb
   repeat (first | refine XL.nil ?_ | refine XWp.seq ?_)
   refine XWp.drawY (σ := [(0, .R), (1, .R), (2, .R), (3, .R), (4, .R), (5, .R), (6, .R), (7, .R), (8, .R), (9, .W), (10, .R), (11, .R)]) mixed (by kernel_rfl) (by kernel_rfl) ?_
   repeat' (first | refine YDAL.r rfl rfl rfl (fun h' hx hn => qac rfl ⟨rfl, rfl⟩) ?_ | refine YDAL.r rfl rfl rfl (fun h' hx hn => qae rfl ⟨rfl, rfl⟩) ?_ | refine YDAL.r rfl rfl rfl (fun h' hx hn => qa4 rfl ⟨rfl, rfl⟩) ?_ | refine YDAL.r rfl rfl rfl (fun h' hx hn => qaf rfl rfl (hx.c _ _ (xh1.c _ _ hbH)) rfl ⟨rfl, rfl⟩) ?_ | refine YDAL.r rfl rfl rfl (fun h' hx hn => qfP (l := 0) (m := (k : Nat)) ((r1.ext xh1).ext hx) rfl rfl rfl (by omega) (by omega) (by omega) ⟨rfl, rfl⟩) ?_ | refine YDAL.r rfl rfl rfl (fun h' hx hn => qaj (sz := 4) rfl rfl (hx.c _ _ g1) (Nat.le_refl _) ⟨rfl, rfl⟩) ?_ | refine YDAL.r rfl rfl rfl (fun h' hx hn => qab rfl rfl (cb h' hx) ⟨rfl, rfl⟩) ?_ | refine YDAL.r rfl rfl rfl (fun h' hx hn => qaL rfl ⟨rfl, rfl⟩) ?_)
   refine YDAL.w rfl rfl rfl (WOp.yield (l := y) rfl ?_)
   refine YSpec.mono (hy k H1 [.agg (entC kv vv e).toArray] ⟨rfl, hlt, hY1⟩) ?_
   rintro v' H2 s' wf2 n2 (⟨rfl, rfl, hY2⟩ | ⟨rfl, j, rfl, hF⟩)
   ·
    repeat' (first | refine YDAL.r rfl rfl rfl (fun h' hx hn => qaL rfl ⟨rfl, rfl⟩) ?_ | refine YDAL.r rfl rfl rfl (fun h' hx hn => qah (v := .bool _) rfl rfl ⟨rfl, rfl⟩) ?_)
    refine YDAL.nil ?_
    repeat (first | refine XL.nil ?_ | refine XWp.region ?_ | refine XWp.condF rfl ?_ | refine XWp.skip ?_ | refine XL.set rfl rfl rfl (qac rfl ?_) | refine XL.set rfl rfl rfl (qas rfl rfl (by omega) ?_))
    refine ⟨rfl, (k + 1, H2), ⟨hlt, fun i hi => ?_, hY2, wf2⟩, by show l.length - (k + 1) < l.length - k; omega, Weak.same (EW.cons rfl (EW.cons rfl (EW.cons rfl (EW.cons rfl (EW.cons rfl EW.nil)))))⟩
    by_cases hik : i < k
    ·
     exact hgd i hik
    ·
     obtain rfl : i = k := by omega
     intro e' he'
     rw [he] at he'
     cases he'
     exact hbm
   ·
    exact hF.elim
 ·
  obtain rfl : k = l.length := by omega
  repeat (first | refine XL.nil ?_ | refine XWp.seq ?_ | refine XWp.region ?_ | refine XWp.condF rfl ?_ | refine XWp.exit ?_ | refine XL.set rfl rfl rfl (qak rfl rfl rfl (by omega) ?_))
  exact ⟨_, ResV.none rfl, .inl ⟨rfl, _, Nat.le_refl _, hgd, .inl rfl, hY⟩⟩
abbrev cellN (n : Int) : Blk := ⟨[.int .i64 n], 3, true⟩
theorem rising_c (u : Value) (l : List EntM) (h : Heap) (r : RE h u l) : ACalls Tryz.prog 150 [u] h fun v h' => v = .bool (risingM l) ∧ h' = h := by
 refine ACalls.wf fun wf => ACalls.reset ?_
 refine ACalls.bodyX Tryz.func150 rfl (Nat.le_of_ble_eq_true rfl) fun bb => ?_
 obtain ⟨ro, r1, r2, r3⟩ := r.ex
 have hlen := r.len
 obtain ⟨ua, uc, hu⟩ := r1.slice
 repeat (first | refine XL.nil ?_ | refine XWp.seq ?_ | refine XWp.region ?_ | refine XL.set rfl rfl rfl (qaa rfl ?_) | refine XL.set rfl rfl rfl (qaw ?_))
 refine XL.eff rfl rfl (qej (v := .int .i64 0) rfl rfl rfl ?_)
 have g0 : (h.alloc (cellN 0)).get h.next = some (cellN 0) := Heap.alloc_new _ _
 have x0 := wf.ext (cellN 0)
 have wf0 := wf.alloc (cellN 0)
 generalize h.alloc (cellN 0) = H0 at g0 x0 wf0 ⊢
 repeat (first | refine XL.nil ?_ | refine XWp.seq ?_ | refine XWp.region ?_ | refine XL.set rfl rfl rfl (qal (v := u) rfl ?_) | refine XL.set rfl rfl rfl (qar rfl rfl ((rising0_c u l H0 (r.ext x0)).mono ?_)))
 rintro _ H1 ⟨rfl, hH1⟩
 cases hH1.symm
 obtain ⟨H1, hQ, g1, x1, wf1, _⟩ := aq wf0 ⟨[u], 35, true⟩
 rw [hQ]
 have n1 := wf1.lt (x1.c _ _ g0)
 have n0 : h.next ≠ H0.next := fun e => by have := wf0.lt g0; omega
 have hxx := x0.trans x1
 let Y : Nat → Heap → Prop := fun k H => Ext h H ∧ H.get h.next = some (cellN (k : Nat)) ∧ H.get H0.next = some ⟨[u], 35, true⟩
 repeat (first | refine XL.nil ?_ | refine XWp.block ?_)
 refine XWp.rangeFunc (ι := Nat) (fi := []) (ca := [ptr H0.next]) (fun i H args => args.length = 1 ∧ i < l.length ∧ Y i H) (fun i H => Y (i + 1) H) (fun _ _ _ => False)
  (fun H => ∃ n, n ≤ l.length ∧ (∀ i, i < n → goodAt l i) ∧ (n = l.length ∨ ¬ goodAt l n) ∧ Y n H) (fun _ _ => False) rfl (fun k e => e) (fun _ _ l => l) rfl ?_ ?_ ?_ ?_ ?_
 ·
  rintro i H args ⟨e, _⟩; exact e
 ·
  intro C1 y hq ys
  exact rising1_x C1 hq y H0.next u l H1 g1 (r.ext hxx) Y (fun k H hY => ⟨hY.2.2, r.ext hY.1⟩) (fun k H H' hY hx _ => ⟨hY.1.trans hx, hx.c _ _ hY.2.1, hx.c _ _ hY.2.2⟩) ys ⟨hxx, x1.c _ _ g0, g1⟩
 ·
  rintro Ca Cb y i H args ⟨e, hi, hY1, hY2, hY3⟩
  match args, e with
  | [a], _ =>
   show XWp Ca _ _ _ _ (setPs _ [a] _) H none
   repeat (first | refine XWp.region ?_ | refine XWp.block ?_ | refine XWp.skip ?_ | refine XL.set rfl rfl rfl (qaf rfl rfl hY2 rfl ?_) | refine XL.set rfl rfl rfl (qas rfl rfl (by omega) ?_))
   refine XL.eff rfl rfl (qau (v := .int .i64 ((i : Int) + 1)) rfl rfl rfl hY2 rfl (Nat.zero_lt_one) ?_)
   have hs : H.set h.next ⟨[.int .i64 ((i : Int) + 1)], 3, true⟩ = H.set h.next (cellN ((i + 1 : Nat) : Nat)) := by
    rw [show (i : Int) + 1 = ((i + 1 : Nat) : Int) by omega]
   refine XL.heap hs ?_
   repeat (first | refine XL.nil ?_)
   exact ⟨wf.ext_set hY1 (Nat.le_refl _) _, Heap.set_at _ _ _, (Heap.set_other (Ne.symm n0)).trans hY3⟩
 ·
  rintro H hn ⟨n, h1, h2, h3, hY1, hY2, hY3⟩
  have hr := qc4 l n h1 h2 h3
  obtain ⟨ro', s1, s2, s3⟩ := (r.ext hY1).ex
  by_cases hnl : n = l.length
  ·
   rw [decide_eq_true hnl] at hr
   repeat (first | refine XL.nil ?_ | refine XWp.seq ?_ | refine XWp.region ?_ | refine XWp.ret ?_ | refine XL.set rfl rfl rfl (qaa rfl ?_) | refine XL.set rfl rfl rfl (qaf rfl rfl hY2 rfl ?_) | refine XL.set rfl rfl rfl (qal (v := u) rfl ?_) | refine XL.set rfl rfl rfl (qaB s1 rfl ?_) | refine XL.set rfl rfl rfl (qam rfl rfl rfl (by omega) ?_))
   exact ⟨_, ResV.tmp rfl, rfl, hY1, congrArg Value.bool hr.symm, rfl⟩
  ·
   rw [decide_eq_false hnl] at hr
   repeat (first | refine XL.nil ?_ | refine XWp.seq ?_ | refine XWp.region ?_ | refine XWp.ret ?_ | refine XL.set rfl rfl rfl (qaa rfl ?_) | refine XL.set rfl rfl rfl (qaf rfl rfl hY2 rfl ?_) | refine XL.set rfl rfl rfl (qal (v := u) rfl ?_) | refine XL.set rfl rfl rfl (qaB s1 rfl ?_) | refine XL.set rfl rfl rfl (qak rfl rfl rfl (by omega) ?_))
   exact ⟨_, ResV.tmp rfl, rfl, hY1, congrArg Value.bool hr.symm, rfl⟩
 ·
  rintro H j _ hF
  exact hF.elim
end Go.Proofs.YtigmojilaadbhaaGreatDoor
/- . -/
namespace Go.Eng
open Go
section
variable {P : Program} {ρ : Operand → Value} {h : Heap} {K : Value → Heap → Prop} {dst : Option Tmp} {ty : TypeId} {pos : String} {aft : Array Edge} {g : Option (Nat × Bool)}
theorem qaD {t e : TypeId} {x y : Operand} {H : Heap} {by_ o : Nat} {z v : Value} {s : Option Nat} {old : List Value} [ti : TyI P t 1 by_ z] (hx : ρ x = .pointer (some ⟨H.next, o, s⟩)) (hy : ρ y = v) (h1 : oneB v = true) (hl : Nat.blt o old.length = true)
  (kk : K undef (H.alloc ⟨old.set o v, e, true⟩)) : AOp P ⟨dst, .store t x y, ty, pos, aft, g⟩ ρ (H.alloc ⟨old, e, true⟩) K := by
 refine qau (b := ⟨old, e, true⟩) hx hy h1 (Heap.alloc_new _ _) rfl (by simpa [Nat.blt_eq] using hl) ?_
 show K undef ((H.alloc ⟨old, e, true⟩).set H.next ⟨old.set o v, e, true⟩)
 rw [Heap.set_alloc]
 exact kk
theorem qbp {t e : TypeId} {x y : Operand} {H : Heap} {sz by_ o : Nat} {z : Value} {s : Option Nat} {old vs : List Value} [ti : TyI P t sz by_ z] (hx : ρ x = .pointer (some ⟨H.next, o, s⟩)) (hy : ρ y = .agg vs.toArray) (hsz : vs.length = sz) (h1 : vs.all oneB = true) (hl : Nat.ble (o + sz) old.length = true)
  (kk : K undef (H.alloc ⟨splice old o vs, e, true⟩)) : AOp P ⟨dst, .store t x y, ty, pos, aft, g⟩ ρ (H.alloc ⟨old, e, true⟩) K := by
 refine qbd (vs := vs.toArray) hx hy (by simpa using h1) (by simpa using hsz) (Heap.alloc_new _ _) rfl (Nat.le_of_ble_eq_true hl) ?_
 show K undef ((H.alloc ⟨old, e, true⟩).set H.next ⟨splice old o vs, e, true⟩)
 rw [Heap.set_alloc]
 exact kk
theorem qan {t e : TypeId} {x y : Operand} {i sz by_ : Nat} {z : Value} {s : Option Nat} {old vs : List Value} [ti : TyI P t sz by_ z] (hx : ρ x = .pointer (some ⟨i, 0, s⟩)) (hy : ρ y = .agg vs.toArray) (hsz : vs.length = sz) (h1 : vs.all oneB = true) (hi : h.get i = some ⟨old, e, true⟩) (ho : old.length = sz)
  (kk : K undef (h.set i ⟨vs, e, true⟩)) : AOp P ⟨dst, .store t x y, ty, pos, aft, g⟩ ρ h K := by
 refine qbd (vs := vs.toArray) hx hy (by simpa using h1) (by simpa using hsz) hi rfl (by show 0 + sz ≤ old.length; omega) ?_
 have e1 : splice old 0 vs = vs := by
  unfold splice
  rw [List.drop_of_length_le (by omega)]
  simp
 show K undef (h.set i ⟨splice old 0 vs, e, true⟩)
 rw [e1]
 exact kk
end
end Go.Eng
/- . -/
namespace Go.Proofs.YtigmojilaadbhaaGreatDoor
open Go Go.Eng Go.Pln Go.Lib
attribute [local irreducible] AWp AL DAL AOp TAL
instance qdY : FnC Tryz.prog 116 := ⟨Tryz.f116, Tryz.func116, by kernel_rfl, by kernel_rfl⟩
instance qeA : FnC Tryz.prog 87 := ⟨Tryz.f87, Tryz.func87, by kernel_rfl, by kernel_rfl⟩
def namedC (c : CmdM) : CmdM :=
 if c.kind = 2 then { cmd0 with kind := c.kind, req := c.req }
 else if c.kind = 3 ∨ c.kind = 5 ∨ c.kind = 9 ∨ c.kind = 10 then { cmd0 with kind := c.kind, move := c.move }
 else if c.kind = 4 then { cmd0 with kind := c.kind, move := c.move, entries := c.entries, answers := c.answers }
 else if c.kind = 6 ∨ c.kind = 7 then { cmd0 with kind := c.kind, key := c.key }
 else if c.kind = 8 then { cmd0 with kind := c.kind, key := c.key, group := c.group }
 else { cmd0 with kind := c.kind }
def keyOk (b : Bytes) : Bool := decide (1 ≤ b.length ∧ b.length ≤ 24)
def okC (c : CmdM) : Bool :=
 if c.kind = 1 then true else if c.kind = 2 then reqOk c.req
 else if c.kind = 3 ∨ c.kind = 5 ∨ c.kind = 9 ∨ c.kind = 10 then moveOk c.move
 else if c.kind = 4 then moveOk c.move && risingM c.entries && decide (c.entries.length ≤ 65536) && decide (c.answers.length ≤ 524288)
 else if c.kind = 6 ∨ c.kind = 7 then keyOk c.key
 else if c.kind = 8 then decide (c.key.length ≤ 24 ∧ 1 ≤ c.group ∧ c.group < 5)
 else false
theorem RE.one {h : Heap} {v : Value} {l : List EntM} (r : RE h v l) : oneB v = true := by
 obtain ⟨ro, r1, _⟩ := r.ex
 exact r1.one
theorem RK.one {h : Heap} {v : Value} {l : List (Bytes × Int)} (r : RK h v l) : oneB v = true := r.rn.one
theorem qcO {h : Heap} {p : MoveV} {m : MoveM} (r : MoveR h p m) : (moveC p m).all oneB = true := by
 unfold moveC
 simp only [List.all_cons, r.f.one.1, r.t.one.1]
 rfl
theorem qaU {h : Heap} {p : AskV} {m : AskM} (r : AskR h p m) : (askC p m).all oneB = true := by
 unfold askC
 simp only [List.all_cons, r.k.one.1, r.t.one.1, r.v.one.1, r.w.one.1]
 rfl
theorem qhI {h : Heap} {p : AskV} {m : ReqM} (r : AskR h p m.ask) : (reqC p m).all oneB = true := by
 unfold reqC
 simp only [List.all_cons, r.k.one.1, r.t.one.1, r.v.one.1, r.w.one.1]
 rfl
theorem qa5 {h : Heap} {p : CmdV} {m : CmdM} (r : CmdR h p m) : (cmdC p m).all oneB = true := by
 unfold cmdC
 simp only [List.all_cons, r.r.k.one.1, r.r.t.one.1, r.r.v.one.1, r.r.w.one.1, r.m.f.one.1, r.m.t.one.1, r.e.one, r.n.one.1, r.k.one.1]
 rfl
theorem keyOk_c (v : Value) (b : Bytes) (h : Heap) (r : RB h v b) : ACalls Tryz.prog 151 [v] h fun u h' => u = .bool (keyOk b) ∧ h' = h := key_c v b h r
theorem cnamed_c (p : CmdV) (m : CmdM) (h : Heap) (r : CmdR h p m) : ACalls Tryz.prog 116 [.agg (cmdC p m).toArray] h fun u h' => ∃ q, u = .tuple #[.agg (cmdC q (namedC m)).toArray, .bool (okC m)] ∧ CmdR h' q (namedC m) ∧ Ext h h' := by
 refine ACalls.wf fun wf => ?_
 refine ACalls.body Tryz.func116 rfl rfl ?_
 repeat (first | refine W.w ?_ | refine zz rfl (qaV rfl (by intro e; cases e) ?_))
 generalize hH : h.alloc _ = H1
 have hg1 : H1.get h.next = some ⟨cmdC p m, 37, true⟩ := hH ▸ Heap.alloc_new _ _
 have hx1 : Ext h H1 := hH ▸ wf.ext _
 have wf1 : WF H1 := hH ▸ wf.alloc _
 have n1 : h.next < H1.next := wf1.lt hg1
 clear hH
 repeat (first | refine W.w ?_ | refine zz rfl (qaa rfl ?_) | refine zz rfl (qaw ?_))
 generalize hH : H1.alloc _ = H2
 have g2 : H2.get H1.next = some ⟨cmdC cmdV0 cmd0, 37, true⟩ := hH ▸ Heap.alloc_new _ _
 have hx2 : Ext H1 H2 := hH ▸ wf1.ext _
 have wf2 : WF H2 := hH ▸ wf1.alloc _
 have n2 : H1.next < H2.next := wf2.lt g2
 have hg2 := hx2.c _ _ hg1
 clear hH
 repeat (first | refine W.w ?_ | refine AL.eff rfl (qaE (vs := cmdC cmdV0 { cmd0 with kind := m.kind }) rfl rfl rfl rfl rfl ?_) | (refine zz rfl ?_; first | refine qao rfl ?_ | refine qaf rfl rfl hg2 rfl ?_ | refine qax (out := cmdC cmdV0 { cmd0 with kind := m.kind }) rfl rfl ?_ | refine qaw ?_))
 have gl := Heap.alloc_new H2
 have hgx : ∀ b, (H2.alloc b).get h.next = some ⟨cmdC p m, 37, true⟩ := fun b => (wf2.ext b).c _ _ hg2
 have gj : ∀ b, (H2.alloc b).get H1.next = some ⟨cmdC cmdV0 cmd0, 37, true⟩ := fun b => (wf2.ext b).c _ _ g2
 have xl : ∀ b, Ext h (H2.alloc b) := fun b => hx1.trans (hx2.trans (wf2.ext b))
 have xf : ∀ b b', Ext h ((H2.alloc b).set H1.next b') := fun b b' => wf.ext_set (xl b) (Nat.le_of_lt n1) _
 clear hg1 hg2 g2 hx1 hx2 wf1
 by_cases k1 : m.kind = 1
 ·
  have hn : namedC m = { cmd0 with kind := m.kind } := by unfold namedC; grind
  have ho : okC m = true := by unfold okC; grind
  have hq : ∀ h', Ext h h' → CmdR h' cmdV0 { cmd0 with kind := m.kind } := fun h' _ => ⟨(CmdR.nil h').r, (CmdR.nil h').m, RE.nil h', RB.nil h', RB.nil h'⟩
  repeat (first | refine W.w ?_ | refine AWp.c8 rfl ?_ | refine AL.eff rfl (qan (vs := cmdC cmdV0 { cmd0 with kind := m.kind }) rfl rfl rfl rfl (gj _) rfl ?_) | (refine zz rfl ?_; first | refine qaa rfl ?_ | refine qaf rfl rfl (hgx _) rfl ?_ | refine qaj (sz := 20) rfl rfl (gl _) (Nat.le_refl _) ?_ | refine qam rfl rfl rfl (by omega) ?_))
  exact ⟨_, ResV.cell2 rfl rfl rfl (Heap.set_at _ _ _) (Nat.le_refl _), cmdV0, by rw [hn, ho]; rfl, by rw [hn]; exact hq _ (xf _ _), xf _ _⟩
 by_cases k2 : m.kind = 2
 ·
  have hn : namedC m = { cmd0 with kind := m.kind, req := m.req } := by unfold namedC; grind
  have hq : ∀ h', Ext h h' → CmdR h' { cmdV0 with r := p.r } { cmd0 with kind := m.kind, req := m.req } := fun h' x => ⟨(r.ext x).r, (CmdR.nil h').m, RE.nil h', RB.nil h', RB.nil h'⟩
  have ho : okC m = reqOk m.req := by unfold okC; grind
  repeat (first | refine W.w ?_ | refine AWp.c8 rfl ?_ | refine AWp.c9 rfl ?_ | refine AL.eff rfl (qbp (vs := reqC p.r m.req) rfl rfl rfl (qhI r.r) rfl ?_) | (refine zz rfl ?_; first | refine qaa rfl ?_ | refine qao rfl ?_ | refine qaf rfl rfl (hgx _) rfl ?_ | refine qaj (sz := 9) rfl rfl (hgx _) (Nat.le_of_ble_eq_true rfl) ?_ | refine qam rfl rfl rfl (by omega) ?_ | refine qak rfl rfl rfl (by omega) ?_))
  refine AWp.draw (σ := [(0, .R), (1, .R), (2, .R), (3, .R), (4, .W), (5, .R)]) mixed (by kernel_rfl) ?_
  repeat (first | refine DAL.r rfl rfl rfl (fun h' hx hn => qao rfl ⟨rfl, rfl⟩) ?_ | refine DAL.r rfl rfl rfl (fun h' hx hn => qaj (sz := 20) rfl rfl (hx.c _ _ (gl _)) (Nat.le_refl _) ⟨rfl, rfl⟩) ?_ | refine DAL.r rfl rfl rfl (fun h' hx hn => qaj (sz := 9) rfl rfl (hx.c _ _ (hgx _)) (Nat.le_of_ble_eq_true rfl) ⟨rfl, rfl⟩) ?_ | refine DAL.r rfl rfl rfl (fun h' hx hn => qab rfl rfl (mayReq_c p.r m.req h' (r.r.ext ((xl _).trans hx))) ⟨rfl, rfl⟩) ?_)
  refine DAL.w0 rfl rfl (qan (vs := cmdC { cmdV0 with r := p.r } { cmd0 with kind := m.kind, req := m.req }) rfl rfl rfl (qa5 (hq h (Ext.refl h))) (gj _) rfl ?_)
  repeat (first | refine DAL.r rfl rfl rfl (fun h' hx hn => qaa rfl ⟨rfl, rfl⟩) ?_)
  refine DAL.nil ?_
  repeat (first | refine AWp.ret ?_)
  exact ⟨_, ResV.cell2 rfl rfl rfl (Heap.set_at _ _ _) (Nat.le_refl _), { cmdV0 with r := p.r }, by rw [hn, ho]; rfl, by rw [hn]; exact hq _ (xf _ _), xf _ _⟩
 by_cases k3 : m.kind = 3 ∨ m.kind = 5 ∨ m.kind = 9 ∨ m.kind = 10
 ·
  have hn : namedC m = { cmd0 with kind := m.kind, move := m.move } := by unfold namedC; grind
  have hq : ∀ h', Ext h h' → CmdR h' { cmdV0 with m := p.m } { cmd0 with kind := m.kind, move := m.move } := fun h' x => ⟨(CmdR.nil h').r, (r.ext x).m, RE.nil h', RB.nil h', RB.nil h'⟩
  have ho : okC m = moveOk m.move := by unfold okC; grind
  rcases k3 with k | k | k | k <;>
  ·
   repeat (first | refine W.w ?_ | refine AWp.c8 rfl ?_ | refine AWp.c9 rfl ?_ | refine AL.eff rfl (qbp (vs := moveC p.m m.move) rfl rfl rfl (qcO r.m) rfl ?_) | (refine zz rfl ?_; first | refine qaa rfl ?_ | refine qao rfl ?_ | refine qaf rfl rfl (hgx _) rfl ?_ | refine qaj (sz := 6) rfl rfl (hgx _) (Nat.le_of_ble_eq_true rfl) ?_ | refine qam rfl rfl rfl (by omega) ?_ | refine qak rfl rfl rfl (by omega) ?_))
   refine AWp.draw (σ := [(0, .R), (1, .R), (2, .R), (3, .R), (4, .W), (5, .R)]) mixed (by kernel_rfl) ?_
   repeat (first | refine DAL.r rfl rfl rfl (fun h' hx hn => qao rfl ⟨rfl, rfl⟩) ?_ | refine DAL.r rfl rfl rfl (fun h' hx hn => qaj (sz := 20) rfl rfl (hx.c _ _ (gl _)) (Nat.le_refl _) ⟨rfl, rfl⟩) ?_ | refine DAL.r rfl rfl rfl (fun h' hx hn => qaj (sz := 6) rfl rfl (hx.c _ _ (hgx _)) (Nat.le_of_ble_eq_true rfl) ⟨rfl, rfl⟩) ?_ | refine DAL.r rfl rfl rfl (fun h' hx hn => qab rfl rfl (qgq p.m m.move h' (r.m.ext ((xl _).trans hx))) ⟨rfl, rfl⟩) ?_)
   refine DAL.w0 rfl rfl (qan (vs := cmdC { cmdV0 with m := p.m } { cmd0 with kind := m.kind, move := m.move }) rfl rfl rfl (qa5 (hq h (Ext.refl h))) (gj _) rfl ?_)
   repeat (first | refine DAL.r rfl rfl rfl (fun h' hx hn => qaa rfl ⟨rfl, rfl⟩) ?_)
   refine DAL.nil ?_
   repeat (first | refine AWp.ret ?_)
   exact ⟨_, ResV.cell2 rfl rfl rfl (Heap.set_at _ _ _) (Nat.le_refl _), { cmdV0 with m := p.m }, by rw [hn, ho]; rfl, by rw [hn]; exact hq _ (xf _ _), xf _ _⟩
 by_cases k4 : m.kind = 4
 ·
  have hn : namedC m = { cmd0 with kind := m.kind, move := m.move, entries := m.entries, answers := m.answers } := by unfold namedC; grind
  have hq : ∀ h', Ext h h' → CmdR h' { cmdV0 with m := p.m, e := p.e, n := p.n } { cmd0 with kind := m.kind, move := m.move, entries := m.entries, answers := m.answers } := fun h' x => ⟨(CmdR.nil h').r, (r.ext x).m, (r.ext x).e, (r.ext x).n, RB.nil h'⟩
  obtain ⟨ro, s1, s2, s3⟩ := r.e.ex
  have hel := r.e.len
  obtain ⟨ea, ec, hev⟩ := s1.slice
  obtain ⟨na, nc, hnv⟩ := RS.slice r.n
  rw [qaz] at hnv
  repeat (first | refine W.w ?_ | refine AWp.c8 rfl ?_ | refine AWp.c9 rfl ?_ | (refine zz rfl ?_; first | refine qaa rfl ?_ | refine qaf rfl rfl (hgx _) rfl ?_ | refine qam rfl rfl rfl (by omega) ?_ | refine qak rfl rfl rfl (by omega) ?_))
  refine AWp.treeJ (fun H => H.get h.next = some ⟨cmdC p m, 37, true⟩) (fun _ _ a b => b.c _ _ a) (t := OT.seq [(0, .P), (1, .S), (2, .P), (3, .S), (4, .P), (5, .S), (6, .P), (7, .W), (8, .P), (9, .W), (10, .P), (11, .W)] .nil) mixed (by kernel_rfl) (hgx _) ?_
  repeat (first | refine TAL.p rfl rfl rfl (fun h' hn => qao rfl ⟨rfl, rfl⟩) ?_ | refine TAL.s rfl rfl rfl (fun h' hn hx => qaf rfl rfl hx rfl ⟨rfl, rfl⟩) ?_ | refine TAL.s rfl rfl rfl (fun h' hn hx => qaj (sz := 6) rfl rfl hx (Nat.le_of_ble_eq_true rfl) ⟨rfl, rfl⟩) ?_)
  refine TAL.wj0 rfl rfl (qbp (vs := moveC p.m m.move) rfl rfl rfl (qcO r.m) rfl ⟨hgx _, ?_⟩)
  repeat (first | refine TAL.p rfl rfl rfl (fun h' hn => qao rfl ⟨rfl, rfl⟩) ?_)
  refine TAL.wj0 rfl rfl (qaD (v := p.e) rfl rfl r.e.one rfl ⟨hgx _, ?_⟩)
  repeat (first | refine TAL.p rfl rfl rfl (fun h' hn => qao rfl ⟨rfl, rfl⟩) ?_)
  refine TAL.wj0 rfl rfl (qaD (v := p.n) rfl rfl r.n.one.1 rfl ⟨hgx _, ?_⟩)
  refine TAL.nil ?_
  repeat (first | refine AWp.seq ?_)
  have gb : ∀ b, (H2.alloc b).get h.next = some ⟨cmdC p m, 37, true⟩ := hgx
  refine AWp.treeJ (fun H => H.get h.next = some ⟨cmdC p m, 37, true⟩) (fun _ _ a b => b.c _ _ a) (t := OT.seq [(0, .R), (1, .R), (2, .R), (3, .R), (4, .R), (5, .R), (6, .R), (7, .R), (8, .R), (9, .R), (10, .R), (11, .R), (12, .R), (13, .R), (14, .R), (15, .R), (16, .P), (17, .S), (18, .P), (19, .P), (20, .P), (21, .W), (22, .R)] .nil) mixed (by kernel_rfl) (hgx _) ?_
  repeat' (first | refine TAL.skip rfl rfl rfl ?_ | refine TAL.r rfl rfl rfl (fun h' hx hn => qae rfl ⟨rfl, rfl⟩) ?_ | refine TAL.rB rfl rfl rfl (fun h' hx hn => qab rfl rfl (qgq p.m m.move h' (r.m.ext ((xl _).trans hx))) ⟨rfl, rfl⟩) (fun c => ?_) (fun c => ?_) | refine TAL.rB rfl rfl rfl (fun h' hx hn => qab rfl rfl (rising_c p.e m.entries h' (r.e.ext ((xl _).trans hx))) ⟨rfl, rfl⟩) (fun c => ?_) (fun c => ?_) | refine TAL.r rfl rfl rfl (fun h' hx hn => qao rfl ⟨rfl, rfl⟩) ?_ | refine TAL.r rfl rfl rfl (fun h' hx hn => qaf rfl rfl (hx.c _ _ (hgx _)) rfl ⟨rfl, rfl⟩) ?_ | refine TAL.r rfl rfl rfl (fun h' hx hn => qaj (sz := 20) rfl rfl (hx.c _ _ (gl _)) (Nat.le_refl _) ⟨rfl, rfl⟩) ?_ | refine TAL.r rfl rfl rfl (fun h' hx hn => qaj (sz := 6) rfl rfl (hx.c _ _ (hgx _)) (Nat.le_of_ble_eq_true rfl) ⟨rfl, rfl⟩) ?_ | refine TAL.r rfl rfl rfl (fun h' hx hn => qca hev ⟨rfl, rfl⟩) ?_ | refine TAL.p rfl rfl rfl (fun h' hn => qao rfl ⟨rfl, rfl⟩) ?_ | refine TAL.p rfl rfl rfl (fun h' hn => qca hnv ⟨rfl, rfl⟩) ?_ | refine TAL.s rfl rfl rfl (fun h' hn hx => qaf rfl rfl hx rfl ⟨rfl, rfl⟩) ?_ | refine TAL.rP rfl rfl rfl (fun h' hx hn => qaX rfl rfl rfl ⟨rfl, rfl⟩) (fun c => ?_) (fun c => ?_) | refine TAL.pP rfl rfl rfl (fun h' hn => qaX rfl rfl rfl ⟨rfl, rfl⟩) (fun c => ?_) (fun c => ?_) | refine TAL.r rfl rfl rfl (fun h' hx hn => qah (v := .bool _) rfl rfl ⟨rfl, rfl⟩) ?_ | refine TAL.p rfl rfl rfl (fun h' hn => qah (v := .bool _) rfl rfl ⟨rfl, rfl⟩) ?_)
  all_goals refine TAL.wj0 rfl rfl (qan (vs := cmdC { cmdV0 with m := p.m, e := p.e, n := p.n } { cmd0 with kind := m.kind, move := m.move, entries := m.entries, answers := m.answers }) rfl rfl rfl (qa5 (hq h (Ext.refl h))) (gj _) rfl ⟨(Heap.set_other (Nat.ne_of_lt n1)).trans (hgx _), ?_⟩)
  repeat' (first | refine TAL.nil ?_ | refine TAL.r rfl rfl rfl (fun h' hx hn => qaa rfl ⟨rfl, rfl⟩) ?_)
  repeat' (first | refine AWp.ret ?_)
  all_goals (
   exact ⟨_, ResV.cell2 rfl rfl rfl (Heap.set_at _ _ _) (Nat.le_refl _), { cmdV0 with m := p.m, e := p.e, n := p.n }, (by rw [hn]; first | (rw [show okC m = true by (unfold okC; grind)]; rfl) | (rw [show okC m = false by (unfold okC; grind)]; rfl)), by rw [hn]; exact hq _ (xf _ _), xf _ _⟩
   )
 by_cases k6 : m.kind = 6 ∨ m.kind = 7
 ·
  have hn : namedC m = { cmd0 with kind := m.kind, key := m.key } := by unfold namedC; grind
  have hq : ∀ h', Ext h h' → CmdR h' { cmdV0 with k := p.k } { cmd0 with kind := m.kind, key := m.key } := fun h' x => ⟨(CmdR.nil h').r, (CmdR.nil h').m, RE.nil h', RB.nil h', (r.ext x).k⟩
  have ho : okC m = keyOk m.key := by unfold okC; grind
  rcases k6 with k | k <;>
  ·
   repeat (first | refine W.w ?_ | refine AWp.c8 rfl ?_ | refine AWp.c9 rfl ?_ | refine AL.eff rfl (qaD (v := p.k) rfl rfl r.k.one.1 rfl ?_) | (refine zz rfl ?_; first | refine qaa rfl ?_ | refine qao rfl ?_ | refine qaf rfl rfl (hgx _) rfl ?_ | refine qam rfl rfl rfl (by omega) ?_ | refine qak rfl rfl rfl (by omega) ?_))
   refine AWp.draw (σ := [(0, .R), (1, .R), (2, .R), (3, .R), (4, .W), (5, .R)]) mixed (by kernel_rfl) ?_
   repeat (first | refine DAL.r rfl rfl rfl (fun h' hx hn => qao rfl ⟨rfl, rfl⟩) ?_ | refine DAL.r rfl rfl rfl (fun h' hx hn => qaf rfl rfl (hx.c _ _ (hgx _)) rfl ⟨rfl, rfl⟩) ?_ | refine DAL.r rfl rfl rfl (fun h' hx hn => qaj (sz := 20) rfl rfl (hx.c _ _ (gl _)) (Nat.le_refl _) ⟨rfl, rfl⟩) ?_ | refine DAL.r rfl rfl rfl (fun h' hx hn => qab rfl rfl (keyOk_c p.k m.key h' (r.k.ext ((xl _).trans hx))) ⟨rfl, rfl⟩) ?_)
   refine DAL.w0 rfl rfl (qan (vs := cmdC { cmdV0 with k := p.k } { cmd0 with kind := m.kind, key := m.key }) rfl rfl rfl (qa5 (hq h (Ext.refl h))) (gj _) rfl ?_)
   repeat (first | refine DAL.r rfl rfl rfl (fun h' hx hn => qaa rfl ⟨rfl, rfl⟩) ?_)
   refine DAL.nil ?_
   repeat (first | refine AWp.ret ?_)
   exact ⟨_, ResV.cell2 rfl rfl rfl (Heap.set_at _ _ _) (Nat.le_refl _), { cmdV0 with k := p.k }, by rw [hn, ho]; rfl, by rw [hn]; exact hq _ (xf _ _), xf _ _⟩
 by_cases k8 : m.kind = 8
 ·
  have hn : namedC m = { cmd0 with kind := m.kind, key := m.key, group := m.group } := by unfold namedC; grind
  have hq : ∀ h', Ext h h' → CmdR h' { cmdV0 with k := p.k } { cmd0 with kind := m.kind, key := m.key, group := m.group } := fun h' x => ⟨(CmdR.nil h').r, (CmdR.nil h').m, RE.nil h', RB.nil h', (r.ext x).k⟩
  repeat (first | refine W.w ?_ | refine AWp.c8 rfl ?_ | refine AWp.c9 rfl ?_ | (refine zz rfl ?_; first | refine qaa rfl ?_ | refine qaf rfl rfl (hgx _) rfl ?_ | refine qam rfl rfl rfl (by omega) ?_ | refine qak rfl rfl rfl (by omega) ?_))
  refine AWp.treeJ (fun H => H.get h.next = some ⟨cmdC p m, 37, true⟩) (fun _ _ a b => b.c _ _ a) (t := OT.seq [(0, .P), (1, .S), (2, .P), (3, .S), (4, .P), (5, .W), (6, .P), (7, .W)] .nil) mixed (by kernel_rfl) (hgx _) ?_
  repeat (first | refine TAL.p rfl rfl rfl (fun h' hn => qao rfl ⟨rfl, rfl⟩) ?_ | refine TAL.s rfl rfl rfl (fun h' hn hx => qaf rfl rfl hx rfl ⟨rfl, rfl⟩) ?_)
  refine TAL.wj0 rfl rfl (qaD (v := p.k) rfl rfl r.k.one.1 rfl ⟨hgx _, ?_⟩)
  repeat (first | refine TAL.p rfl rfl rfl (fun h' hn => qao rfl ⟨rfl, rfl⟩) ?_)
  refine TAL.wj0 rfl rfl (qaD (v := .int .i64 m.group) rfl rfl rfl rfl ⟨hgx _, ?_⟩)
  refine TAL.nil ?_
  repeat (first | refine AWp.seq ?_)
  refine AWp.tree (t := OT.seq [(0, .R), (1, .R), (2, .R), (3, .R), (4, .R), (5, .R), (6, .R), (7, .R), (8, .R), (9, .P), (10, .W), (11, .R)] .nil) mixed (by kernel_rfl) ?_
  repeat' (first | refine TAL.skip rfl rfl rfl ?_ | refine TAL.r rfl rfl rfl (fun h' hx hn => qae rfl ⟨rfl, rfl⟩) ?_ | refine TAL.rB rfl rfl rfl (fun h' hx hn => qab rfl rfl (qh2 m.group h') ⟨rfl, rfl⟩) (fun c => ?_) (fun c => ?_) | refine TAL.r rfl rfl rfl (fun h' hx hn => qao rfl ⟨rfl, rfl⟩) ?_ | refine TAL.r rfl rfl rfl (fun h' hx hn => qaf rfl rfl (hx.c _ _ (hgx _)) rfl ⟨rfl, rfl⟩) ?_ | refine TAL.r rfl rfl rfl (fun h' hx hn => qaj (sz := 20) rfl rfl (hx.c _ _ (gl _)) (Nat.le_refl _) ⟨rfl, rfl⟩) ?_ | refine TAL.r rfl rfl rfl (fun h' hx hn => qaJ (r.k.ext ((xl _).trans hx)) rfl ⟨rfl, rfl⟩) ?_ | refine TAL.rP rfl rfl rfl (fun h' hx hn => qaX rfl rfl rfl ⟨rfl, rfl⟩) (fun c => ?_) (fun c => ?_) | refine TAL.p rfl rfl rfl (fun h' hn => qah (v := .bool _) rfl rfl ⟨rfl, rfl⟩) ?_)
  all_goals refine TAL.w0 rfl rfl (qan (vs := cmdC { cmdV0 with k := p.k } { cmd0 with kind := m.kind, key := m.key, group := m.group }) rfl rfl rfl (qa5 (hq h (Ext.refl h))) (gj _) rfl ?_)
  repeat' (first | refine TAL.nil ?_ | refine TAL.r rfl rfl rfl (fun h' hx hn => qaa rfl ⟨rfl, rfl⟩) ?_)
  repeat' (first | refine AWp.ret ?_)
  all_goals (
   exact ⟨_, ResV.cell2 rfl rfl rfl (Heap.set_at _ _ _) (Nat.le_refl _), { cmdV0 with k := p.k }, (by rw [hn]; first | (rw [show okC m = true by (unfold okC; grind)]; rfl) | (rw [show okC m = false by (unfold okC; grind)]; rfl)), by rw [hn]; exact hq _ (xf _ _), xf _ _⟩
   )
 ·
  have hn : namedC m = { cmd0 with kind := m.kind } := by unfold namedC; grind
  have ho : okC m = false := by unfold okC; grind
  have hq : ∀ h', Ext h h' → CmdR h' cmdV0 { cmd0 with kind := m.kind } := fun h' _ => ⟨(CmdR.nil h').r, (CmdR.nil h').m, RE.nil h', RB.nil h', RB.nil h'⟩
  repeat (first | refine W.w ?_ | refine AWp.c9 rfl ?_ | refine AL.eff rfl (qan (vs := cmdC cmdV0 { cmd0 with kind := m.kind }) rfl rfl rfl rfl (gj _) rfl ?_) | (refine zz rfl ?_; first | refine qaa rfl ?_ | refine qaf rfl rfl (hgx _) rfl ?_ | refine qaj (sz := 20) rfl rfl (gl _) (Nat.le_refl _) ?_ | refine qak rfl rfl rfl (by omega) ?_))
  exact ⟨_, ResV.cell2 rfl rfl rfl (Heap.set_at _ _ _) (Nat.le_refl _), cmdV0, by rw [hn, ho]; rfl, by rw [hn]; exact hq _ (xf _ _), xf _ _⟩
end Go.Proofs.YtigmojilaadbhaaGreatDoor
