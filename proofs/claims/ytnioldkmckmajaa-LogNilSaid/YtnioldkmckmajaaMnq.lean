/-
  Texts of one claim, merged: 3 parts.
-/
import Derived.Test.YtnioldkmckmajaaMnd
import Derived.Test.YtnioldkmckmajaaMnl
import Derived.Test.YtnioldkmckmajaaMno
import Derived.Test.YtnioldkmckmajaaMnp
set_option maxHeartbeats 16000000
/-
  The engine: a region that draws its order, where operations that make memory may come in either order: a tree of orders.
-/
namespace Go.Eng
open Go
inductive KT where
  | P | S | R | X | W
def ktP : KT → Bool
  | .P => true
  | .S => true
  | _ => false
def ktR : KT → Bool
  | .R => true
  | _ => false
def ktW : KT → Bool
  | .W => true
  | _ => false
def pairT (ops : Array Oper) (A : Array Nat) (p q : Nat × KT) : Bool :=
  !edgeB ops p.1 q.1 && (ancB A q.1 p.1 || ((ktP p.2 || (ktR p.2 && !ktW q.2)) && apartB ops p.1 q.1))
def POp (P : Program) (o : Oper) (ρ : Operand → Value) (h : Heap) (v : Value) : Prop :=
  ∀ h', h.next ≤ h'.next → AOp P o ρ h' fun v' h'' => v' = v ∧ h'' = h'
def SOp (P : Program) (J : Heap → Prop) (o : Oper) (ρ : Operand → Value) (h : Heap) (v : Value) : Prop :=
  ∀ h', h.next ≤ h'.next → J h' → AOp P o ρ h' fun v' h'' => v' = v ∧ h'' = h'
theorem SOp.congr {P : Program} {J : Heap → Prop} {o : Oper} {ρ ρ' : Operand → Value} {h : Heap} {v : Value} (hq : ∀ x, x ∈ o.op.operands → ρ x = ρ' x) (p : SOp P J o ρ h v) : SOp P J o ρ' h v :=
  fun h' hn hj => (p h' hn hj).congr hq
theorem POp.congr {P : Program} {o : Oper} {ρ ρ' : Operand → Value} {h : Heap} {v : Value} (hq : ∀ x, x ∈ o.op.operands → ρ x = ρ' x) (p : POp P o ρ h v) : POp P o ρ' h v :=
  fun h' hn => (p h' hn).congr hq
inductive OT where
  | nil
  | op (i : Nat) (k : KT) (t : OT)
  | alt (a b : OT)
def OT.nodes : OT → List (Nat × KT)
  | .nil => []
  | .op i k t => (i, k) :: t.nodes
  | .alt a b => a.nodes ++ b.nodes
def OT.ids : OT → List Nat
  | .nil => []
  | .op i _ t => i :: t.ids
  | .alt a _ => a.ids
def OT.heads : OT → List Nat
  | .nil => []
  | .op i _ _ => [i]
  | .alt a b => a.heads ++ b.heads
def OT.seq : List (Nat × KT) → OT → OT
  | [], t => t
  | (i, k) :: l, t => .op i k (OT.seq l t)
def TAL (P : Program) (N : Nat) (ops : Array Oper) (J : Heap → Prop) (Q : Exit → Env → Heap → Prop) : OT → Env → Heap → Prop
  | .nil, env, h => ∀ φ a w, a.defers = [] → Rel P N φ env h a.tmps w → Post P N φ h w (Q .normal) a w
  | .op i .P t, env, h => ∃ o, ops[i]? = some o ∧ dstB N o.dst = true ∧ ∃ v, ((gv ops env o = some true ∧ POp P o (ev P env) h v) ∨ (gv ops env o = some false ∧ v = skipV)) ∧ TAL P N ops J Q t (env.put o.dst v) h
  | .op i .S t, env, h => ∃ o, ops[i]? = some o ∧ dstB N o.dst = true ∧ ∃ v, ((gv ops env o = some true ∧ SOp P J o (ev P env) h v) ∨ (gv ops env o = some false ∧ v = skipV)) ∧ TAL P N ops J Q t (env.put o.dst v) h
  | .op i .R t, env, h => ∃ o, ops[i]? = some o ∧ dstB N o.dst = true ∧ ∃ v, ((gv ops env o = some true ∧ ROp P o (ev P env) h v) ∨ (gv ops env o = some false ∧ v = skipV)) ∧ TAL P N ops J Q t (env.put o.dst v) h
  | .op i .X t, env, h => ∃ o, ops[i]? = some o ∧ dstB N o.dst = true ∧
      ((gv ops env o = some true ∧ AOp P o (ev P env) h fun v h' => Ext h h' ∧ TAL P N ops J Q t (env.put o.dst v) h') ∨ (gv ops env o = some false ∧ TAL P N ops J Q t (env.put o.dst skipV) h))
  | .op i .W t, env, h => ∃ o, ops[i]? = some o ∧ dstB N o.dst = true ∧
      ((gv ops env o = some true ∧ AOp P o (ev P env) h fun v h' => J h' ∧ TAL P N ops J Q t (env.put o.dst v) h') ∨ (gv ops env o = some false ∧ TAL P N ops J Q t (env.put o.dst skipV) h))
  | .alt a b, env, h => TAL P N ops J Q a env h ∧ TAL P N ops J Q b env h
section
variable {P : Program} {N : Nat} {ops : Array Oper} {Q : Exit → Env → Heap → Prop} {J : Heap → Prop}
theorem TAL.eqE : ∀ {t : OT} {e e' : Env} {h : Heap}, TAL P N ops J Q t e h → EqE e e' → TAL P N ops J Q t e' h
  | .nil, _, _, _, p, q => fun φ a w hd r => p φ a w hd (r.eqE fun t => (q t).symm)
  | .op i .P t, _, _, _, ⟨o, ho, hd, v, hv, p⟩, q => by
    refine ⟨o, ho, hd, v, ?_, TAL.eqE p (q.put o.dst v)⟩
    rw [← q.gv o]
    exact hv.imp (fun ⟨a, b⟩ => ⟨a, b.congr fun x _ => q.ev x⟩) id
  | .op i .S t, _, _, _, ⟨o, ho, hd, v, hv, p⟩, q => by
    refine ⟨o, ho, hd, v, ?_, TAL.eqE p (q.put o.dst v)⟩
    rw [← q.gv o]
    exact hv.imp (fun ⟨a, b⟩ => ⟨a, b.congr fun x _ => q.ev x⟩) id
  | .op i .R t, _, _, _, ⟨o, ho, hd, v, hv, p⟩, q => by
    refine ⟨o, ho, hd, v, ?_, TAL.eqE p (q.put o.dst v)⟩
    rw [← q.gv o]
    exact hv.imp (fun ⟨a, b⟩ => ⟨a, b.congr fun x _ => q.ev x⟩) id
  | .op i .X t, _, _, _, ⟨o, ho, hd, hv⟩, q => by
    refine ⟨o, ho, hd, ?_⟩
    rw [← q.gv o]
    exact hv.imp (fun ⟨a, b⟩ => ⟨a, (b.congr fun x _ => q.ev x).mono fun v h' _ ⟨k1, k2⟩ => ⟨k1, TAL.eqE k2 (q.put o.dst v)⟩⟩) (fun ⟨a, b⟩ => ⟨a, TAL.eqE b (q.put o.dst skipV)⟩)
  | .op i .W t, _, _, _, ⟨o, ho, hd, hv⟩, q => by
    refine ⟨o, ho, hd, ?_⟩
    rw [← q.gv o]
    exact hv.imp (fun ⟨a, b⟩ => ⟨a, (b.congr fun x _ => q.ev x).mono fun v h' _ ⟨k1, k2⟩ => ⟨k1, TAL.eqE k2 (q.put o.dst v)⟩⟩) (fun ⟨a, b⟩ => ⟨a, TAL.eqE b (q.put o.dst skipV)⟩)
  | .alt _ _, _, _, _, ⟨p1, p2⟩, q => ⟨p1.eqE q, p2.eqE q⟩
theorem TAL.swap {i j : Nat} {k : KT} {oi oj : Oper} {t : OT} {e : Env} {h : Heap} (hi : ops[i]? = some oi) (hj : ops[j]? = some oj) (hap : oj.apart ops oi = true) (hk : ktW k = false)
    (p : TAL P N ops J Q (.op j .R (.op i k t)) e h) : TAL P N ops J Q (.op i k (.op j .R t)) e h := by
  obtain ⟨a1, a2, a3⟩ := Oper.apart_spec hap
  obtain ⟨o, ho, hd, vj, hvj, p⟩ := p
  rw [hj] at ho; cases ho
  have later : ∀ (vi : Value) (h' : Heap), Ext h h' → h.next ≤ h'.next → TAL P N ops J Q t ((e.put oj.dst vj).put oi.dst vi) h' → TAL P N ops J Q (.op j .R t) (e.put oi.dst vi) h' := by
    intro vi h' hx hn pk
    refine ⟨oj, hj, hd, vj, ?_, pk.eqE (EqE.swap e a2 vj vi)⟩
    rw [gv_put a3]
    exact hvj.imp (fun ⟨q1, q2⟩ => ⟨q1, (q2.ext hx hn).congr fun x hx => (ev_put a3 x hx).symm⟩) id
  cases k with
  | P =>
    obtain ⟨o, ho, hdi, vi, hvi, p⟩ := p
    rw [hi] at ho; cases ho
    rw [gv_put a1] at hvi
    exact ⟨oi, hi, hdi, vi, hvi.imp (fun ⟨q1, q2⟩ => ⟨q1, q2.congr (ev_put a1)⟩) id, later vi h (Ext.refl h) (Nat.le_refl _) p⟩
  | S =>
    obtain ⟨o, ho, hdi, vi, hvi, p⟩ := p
    rw [hi] at ho; cases ho
    rw [gv_put a1] at hvi
    exact ⟨oi, hi, hdi, vi, hvi.imp (fun ⟨q1, q2⟩ => ⟨q1, q2.congr (ev_put a1)⟩) id, later vi h (Ext.refl h) (Nat.le_refl _) p⟩
  | R =>
    obtain ⟨o, ho, hdi, vi, hvi, p⟩ := p
    rw [hi] at ho; cases ho
    rw [gv_put a1] at hvi
    exact ⟨oi, hi, hdi, vi, hvi.imp (fun ⟨q1, q2⟩ => ⟨q1, q2.congr (ev_put a1)⟩) id, later vi h (Ext.refl h) (Nat.le_refl _) p⟩
  | X =>
    obtain ⟨o, ho, hdi, hvi⟩ := p
    rw [hi] at ho; cases ho
    rw [gv_put a1] at hvi
    refine ⟨oi, hi, hdi, ?_⟩
    exact hvi.imp (fun ⟨q1, q2⟩ => ⟨q1, (q2.congr (ev_put a1)).mono fun v h' hn ⟨k1, k2⟩ => ⟨k1, later v h' k1 hn k2⟩⟩) (fun ⟨q1, q2⟩ => ⟨q1, later skipV h (Ext.refl h) (Nat.le_refl _) q2⟩)
  | W => cases hk
theorem TAL.swapP {i j : Nat} {k : KT} {oi oj : Oper} {t : OT} {e : Env} {h : Heap} (hi : ops[i]? = some oi) (hj : ops[j]? = some oj) (hap : oj.apart ops oi = true)
    (p : TAL P N ops J Q (.op j .P (.op i k t)) e h) : TAL P N ops J Q (.op i k (.op j .P t)) e h := by
  obtain ⟨a1, a2, a3⟩ := Oper.apart_spec hap
  obtain ⟨o, ho, hd, vj, hvj, p⟩ := p
  rw [hj] at ho; cases ho
  have later : ∀ (vi : Value) (h' : Heap), h.next ≤ h'.next → TAL P N ops J Q t ((e.put oj.dst vj).put oi.dst vi) h' → TAL P N ops J Q (.op j .P t) (e.put oi.dst vi) h' := by
    intro vi h' hn pk
    refine ⟨oj, hj, hd, vj, ?_, pk.eqE (EqE.swap e a2 vj vi)⟩
    rw [gv_put a3]
    exact hvj.imp (fun ⟨q1, q2⟩ => ⟨q1, fun h2 hn2 => (q2 h2 (Nat.le_trans hn hn2)).congr fun x hx => (ev_put a3 x hx).symm⟩) id
  cases k with
  | P =>
    obtain ⟨o, ho, hdi, vi, hvi, p⟩ := p
    rw [hi] at ho; cases ho
    rw [gv_put a1] at hvi
    exact ⟨oi, hi, hdi, vi, hvi.imp (fun ⟨q1, q2⟩ => ⟨q1, q2.congr (ev_put a1)⟩) id, later vi h (Nat.le_refl _) p⟩
  | S =>
    obtain ⟨o, ho, hdi, vi, hvi, p⟩ := p
    rw [hi] at ho; cases ho
    rw [gv_put a1] at hvi
    exact ⟨oi, hi, hdi, vi, hvi.imp (fun ⟨q1, q2⟩ => ⟨q1, q2.congr (ev_put a1)⟩) id, later vi h (Nat.le_refl _) p⟩
  | R =>
    obtain ⟨o, ho, hdi, vi, hvi, p⟩ := p
    rw [hi] at ho; cases ho
    rw [gv_put a1] at hvi
    exact ⟨oi, hi, hdi, vi, hvi.imp (fun ⟨q1, q2⟩ => ⟨q1, q2.congr (ev_put a1)⟩) id, later vi h (Nat.le_refl _) p⟩
  | X =>
    obtain ⟨o, ho, hdi, hvi⟩ := p
    rw [hi] at ho; cases ho
    rw [gv_put a1] at hvi
    refine ⟨oi, hi, hdi, ?_⟩
    exact hvi.imp (fun ⟨q1, q2⟩ => ⟨q1, (q2.congr (ev_put a1)).mono fun v h' hn ⟨k1, k2⟩ => ⟨k1, later v h' hn k2⟩⟩) (fun ⟨q1, q2⟩ => ⟨q1, later skipV h (Nat.le_refl _) q2⟩)
  | W =>
    obtain ⟨o, ho, hdi, hvi⟩ := p
    rw [hi] at ho; cases ho
    rw [gv_put a1] at hvi
    refine ⟨oi, hi, hdi, ?_⟩
    exact hvi.imp (fun ⟨q1, q2⟩ => ⟨q1, (q2.congr (ev_put a1)).mono fun v h' hn ⟨k1, k2⟩ => ⟨k1, later v h' hn k2⟩⟩) (fun ⟨q1, q2⟩ => ⟨q1, later skipV h (Nat.le_refl _) q2⟩)
theorem TAL.swapS {i j : Nat} {k : KT} {oi oj : Oper} {t : OT} {e : Env} {h : Heap} (hi : ops[i]? = some oi) (hj : ops[j]? = some oj) (hap : oj.apart ops oi = true)
    (p : TAL P N ops J Q (.op j .S (.op i k t)) e h) : TAL P N ops J Q (.op i k (.op j .S t)) e h := by
  obtain ⟨a1, a2, a3⟩ := Oper.apart_spec hap
  obtain ⟨o, ho, hd, vj, hvj, p⟩ := p
  rw [hj] at ho; cases ho
  have later : ∀ (vi : Value) (h' : Heap), h.next ≤ h'.next → TAL P N ops J Q t ((e.put oj.dst vj).put oi.dst vi) h' → TAL P N ops J Q (.op j .S t) (e.put oi.dst vi) h' := by
    intro vi h' hn pk
    refine ⟨oj, hj, hd, vj, ?_, pk.eqE (EqE.swap e a2 vj vi)⟩
    rw [gv_put a3]
    exact hvj.imp (fun ⟨q1, q2⟩ => ⟨q1, fun h2 hn2 hj2 => (q2 h2 (Nat.le_trans hn hn2) hj2).congr fun x hx => (ev_put a3 x hx).symm⟩) id
  cases k with
  | P =>
    obtain ⟨o, ho, hdi, vi, hvi, p⟩ := p
    rw [hi] at ho; cases ho
    rw [gv_put a1] at hvi
    exact ⟨oi, hi, hdi, vi, hvi.imp (fun ⟨q1, q2⟩ => ⟨q1, q2.congr (ev_put a1)⟩) id, later vi h (Nat.le_refl _) p⟩
  | S =>
    obtain ⟨o, ho, hdi, vi, hvi, p⟩ := p
    rw [hi] at ho; cases ho
    rw [gv_put a1] at hvi
    exact ⟨oi, hi, hdi, vi, hvi.imp (fun ⟨q1, q2⟩ => ⟨q1, q2.congr (ev_put a1)⟩) id, later vi h (Nat.le_refl _) p⟩
  | R =>
    obtain ⟨o, ho, hdi, vi, hvi, p⟩ := p
    rw [hi] at ho; cases ho
    rw [gv_put a1] at hvi
    exact ⟨oi, hi, hdi, vi, hvi.imp (fun ⟨q1, q2⟩ => ⟨q1, q2.congr (ev_put a1)⟩) id, later vi h (Nat.le_refl _) p⟩
  | X =>
    obtain ⟨o, ho, hdi, hvi⟩ := p
    rw [hi] at ho; cases ho
    rw [gv_put a1] at hvi
    refine ⟨oi, hi, hdi, ?_⟩
    exact hvi.imp (fun ⟨q1, q2⟩ => ⟨q1, (q2.congr (ev_put a1)).mono fun v h' hn ⟨k1, k2⟩ => ⟨k1, later v h' hn k2⟩⟩) (fun ⟨q1, q2⟩ => ⟨q1, later skipV h (Nat.le_refl _) q2⟩)
  | W =>
    obtain ⟨o, ho, hdi, hvi⟩ := p
    rw [hi] at ho; cases ho
    rw [gv_put a1] at hvi
    refine ⟨oi, hi, hdi, ?_⟩
    exact hvi.imp (fun ⟨q1, q2⟩ => ⟨q1, (q2.congr (ev_put a1)).mono fun v h' hn ⟨k1, k2⟩ => ⟨k1, later v h' hn k2⟩⟩) (fun ⟨q1, q2⟩ => ⟨q1, later skipV h (Nat.le_refl _) q2⟩)
mutual
def okB (ops : Array Oper) (A : Array Nat) : OT → Bool
  | .nil => true
  | .op i k t => !edgeB ops i i && t.nodes.all (fun q => !Nat.beq i q.1 && pairT ops A (i, k) q) && okB ops A t
  | .alt a b => okA ops A a && okA ops A b && a.ids.all (b.ids.contains ·) && b.ids.all (a.ids.contains ·) && Nat.beq a.ids.length b.ids.length &&
      (a.ids.all fun q => (a.heads ++ b.heads).any fun x => Nat.beq q x || ancB A q x)
def okA (ops : Array Oper) (A : Array Nat) : OT → Bool
  | .nil => false
  | .op i _ t => !edgeB ops i i && t.nodes.all (fun q => !Nat.beq i q.1 && !edgeB ops i q.1) && okB ops A t
  | .alt a b => okA ops A a && okA ops A b && a.ids.all (b.ids.contains ·) && b.ids.all (a.ids.contains ·) && Nat.beq a.ids.length b.ids.length
end
theorem OT.heads_ids {A : Array Nat} : ∀ {t : OT}, okA ops A t = true ∨ okB ops A t = true → ∀ x, x ∈ t.heads → x ∈ t.ids
  | .nil, _, x, hx => by cases hx
  | .op i k t, _, x, hx => by
    simp only [OT.heads, List.mem_singleton] at hx
    simp [OT.ids, hx]
  | .alt a b, ok, x, hx => by
    have ok' : okA ops A a = true ∧ okA ops A b = true ∧ b.ids.all (a.ids.contains ·) = true := by
      rcases ok with ok | ok
      · simp only [okA, Bool.and_eq_true] at ok; exact ⟨ok.1.1.1.1, ok.1.1.1.2, ok.1.2⟩
      · simp only [okB, Bool.and_eq_true] at ok; exact ⟨ok.1.1.1.1.1, ok.1.1.1.1.2, ok.1.1.2⟩
    rcases List.mem_append.1 hx with h | h
    · exact OT.heads_ids (.inl ok'.1) x h
    · have := OT.heads_ids (.inl ok'.2.1) x h
      have q := List.all_eq_true.1 ok'.2.2 x this
      show x ∈ a.ids
      simpa using q
theorem OT.ids_nodes {A : Array Nat} : ∀ {t : OT}, okA ops A t = true ∨ okB ops A t = true → ∀ x, x ∈ t.ids ↔ ∃ k, (x, k) ∈ t.nodes
  | .nil, _, x => by simp [OT.ids, OT.nodes]
  | .op i k t, ok, x => by
    have ok' : okB ops A t = true := by
      rcases ok with ok | ok
      · simp only [okA, Bool.and_eq_true] at ok; exact ok.2
      · simp only [okB, Bool.and_eq_true] at ok; exact ok.2
    have ih := OT.ids_nodes (.inr ok') x
    simp only [OT.ids, OT.nodes, List.mem_cons, ih]
    constructor
    · rintro (rfl | ⟨k', h⟩)
      · exact ⟨k, .inl rfl⟩
      · exact ⟨k', .inr h⟩
    · rintro ⟨k', h | h⟩
      · cases h; exact .inl rfl
      · exact .inr ⟨k', h⟩
  | .alt a b, ok, x => by
    have ok' : okA ops A a = true ∧ okA ops A b = true ∧ b.ids.all (a.ids.contains ·) = true := by
      rcases ok with ok | ok
      · simp only [okA, Bool.and_eq_true] at ok; exact ⟨ok.1.1.1.1, ok.1.1.1.2, ok.1.2⟩
      · simp only [okB, Bool.and_eq_true] at ok; exact ⟨ok.1.1.1.1.1, ok.1.1.1.1.2, ok.1.1.2⟩
    have ia := OT.ids_nodes (.inl ok'.1) x
    have ib := OT.ids_nodes (.inl ok'.2.1) x
    have hba : x ∈ b.ids → x ∈ a.ids := fun h => by simpa using List.all_eq_true.1 ok'.2.2 x h
    simp only [OT.ids, OT.nodes, List.mem_append]
    constructor
    · intro h
      obtain ⟨k, hk⟩ := ia.1 h
      exact ⟨k, .inl hk⟩
    · rintro ⟨k, h | h⟩
      · exact ia.2 ⟨k, h⟩
      · exact hba (ib.2 ⟨k, h⟩)
def Left (P : Program) (N : Nat) (ops : Array Oper) (J : Heap → Prop) (A : Array Nat) (Q : Exit → Env → Heap → Prop) (i : Nat) (ids : List Nat) (nodes : List (Nat × KT)) (e : Env) (h : Heap) : Prop :=
  ∃ k t, okB ops A t = true ∧ (∀ j, j ∈ t.ids ↔ j ∈ ids ∧ j ≠ i) ∧ t.ids.length + 1 = ids.length ∧ (i, k) ∈ nodes ∧ (∀ q ∈ t.nodes, q ∈ nodes) ∧ TAL P N ops J Q (.op i k t) e h
theorem OT.head_front {A : Array Nat} {i : Nat} : ∀ {t : OT} {e : Env} {h : Heap}, okA ops A t = true → i ∈ t.heads → TAL P N ops J Q t e h → Left P N ops J A Q i t.ids t.nodes e h
  | .nil, _, _, ok, _, _ => by simp [okA] at ok
  | .op j k t, e, h, ok, hi, p => by
    simp only [okA, Bool.and_eq_true] at ok
    simp only [OT.heads, List.mem_singleton] at hi
    subst hi
    refine ⟨k, t, ok.2, fun j => ?_, by simp [OT.ids], by simp [OT.nodes], fun q hq => by simp [OT.nodes, hq], p⟩
    simp only [OT.ids, List.mem_cons]
    constructor
    · intro hj
      refine ⟨.inr hj, fun he => ?_⟩
      subst he
      obtain ⟨kk, hk⟩ := (OT.ids_nodes (.inr ok.2) j).1 hj
      have := List.all_eq_true.1 ok.1.2 _ hk
      simp at this
    · rintro ⟨h1 | h1, h2⟩
      · exact absurd h1 h2
      · exact h1
  | .alt a b, e, h, ok, hi, ⟨p1, p2⟩ => by
    simp only [okA, Bool.and_eq_true, Nat.beq_eq] at ok
    obtain ⟨⟨⟨⟨o1, o2⟩, o3⟩, o4⟩, o5⟩ := ok
    rcases List.mem_append.1 hi with hi | hi
    · obtain ⟨k, t, h1, h2, h3, h4, h5, h6⟩ := OT.head_front o1 hi p1
      exact ⟨k, t, h1, h2, h3, by simp [OT.nodes, h4], fun q hq => by simp [OT.nodes, h5 q hq], h6⟩
    · obtain ⟨k, t, h1, h2, h3, h4, h5, h6⟩ := OT.head_front o2 hi p2
      refine ⟨k, t, h1, fun j => ?_, by simp only [OT.ids]; omega, by simp [OT.nodes, h4], fun q hq => by simp [OT.nodes, h5 q hq], h6⟩
      rw [h2]
      have q1 : j ∈ b.ids → j ∈ a.ids := fun h => by simpa using List.all_eq_true.1 o4 j h
      have q2 : j ∈ a.ids → j ∈ b.ids := fun h => by simpa using List.all_eq_true.1 o3 j h
      exact ⟨fun ⟨x, y⟩ => ⟨q1 x, y⟩, fun ⟨x, y⟩ => ⟨q2 x, y⟩⟩
theorem okB_op {A : Array Nat} {j : Nat} {kj : KT} {t t' : OT} (ok : okB ops A (.op j kj t) = true) (hs : ∀ q ∈ t'.nodes, q ∈ t.nodes) (ok' : okB ops A t' = true) : okB ops A (.op j kj t') = true := by
  simp only [okB, Bool.and_eq_true] at ok ⊢
  exact ⟨⟨ok.1.1, List.all_eq_true.2 fun q hq => List.all_eq_true.1 ok.1.2 q (hs q hq)⟩, ok'⟩
theorem OT.front {A : Array Nat} {i : Nat} {oi : Oper} (hi : ops[i]? = some oi) : ∀ {t : OT} {e : Env} {h : Heap}, okB ops A t = true → i ∈ t.ids → (∀ j, j ∈ t.ids → ancB A i j = false) → TAL P N ops J Q t e h → Left P N ops J A Q i t.ids t.nodes e h
  | .nil, _, _, _, hm, _, _ => by cases hm
  | .op j kj t, e, h, ok, hm, ha, p => by
    have ok0 := ok
    simp only [okB, Bool.and_eq_true] at ok
    obtain ⟨⟨o1, o2⟩, o3⟩ := ok
    have hne : ∀ x, x ∈ t.ids → x ≠ j := by
      intro x hx he
      subst he
      obtain ⟨kk, hk⟩ := (OT.ids_nodes (.inr o3) x).1 hx
      have := List.all_eq_true.1 o2 _ hk
      simp at this
    by_cases hji : j = i
    · subst hji
      refine ⟨kj, t, o3, fun x => ?_, by simp [OT.ids], by simp [OT.nodes], fun q hq => by simp [OT.nodes, hq], p⟩
      simp only [OT.ids, List.mem_cons]
      constructor
      · intro hx; exact ⟨.inr hx, hne x hx⟩
      · rintro ⟨h1 | h1, h2⟩
        · exact absurd h1 h2
        · exact h1
    · have hit : i ∈ t.ids := by
        simp only [OT.ids, List.mem_cons] at hm
        rcases hm with h1 | h1
        · exact absurd h1.symm hji
        · exact h1
      have hj0 := ha j (by simp [OT.ids])
      have hpair : ∀ k, (i, k) ∈ t.nodes → (kj = .P ∨ kj = .S ∨ (kj = .R ∧ ktW k = false)) ∧ ∃ oj, ops[j]? = some oj ∧ oj.apart ops oi = true := by
        intro k hk
        have h1 := List.all_eq_true.1 o2 _ hk
        simp only [pairT, Bool.and_eq_true, Bool.or_eq_true, Bool.not_eq_eq_eq_not, Bool.not_true, hj0, Bool.false_eq_true, false_or] at h1
        obtain ⟨_, _, u3, u5⟩ := h1
        refine ⟨?_, ?_⟩
        · rcases u3 with u3 | ⟨u3, u4⟩
          · cases kj with
            | P => exact .inl rfl
            | S => exact .inr (.inl rfl)
            | _ => cases u3
          · cases kj with
            | R => exact .inr (.inr ⟨rfl, u4⟩)
            | _ => cases u3
        · unfold apartB at u5
          rw [hi] at u5
          cases hoj : ops[j]? with
          | none => rw [hoj] at u5; cases u5
          | some oj => rw [hoj] at u5; exact ⟨oj, rfl, u5⟩
      obtain ⟨k0, hk0⟩ := (OT.ids_nodes (.inr o3) i).1 hit
      have fin : ∃ k t', okB ops A t' = true ∧ (∀ j, j ∈ t'.ids ↔ j ∈ t.ids ∧ j ≠ i) ∧ t'.ids.length + 1 = t.ids.length ∧ (i, k) ∈ t.nodes ∧ (∀ q ∈ t'.nodes, q ∈ t.nodes) ∧ TAL P N ops J Q (.op i k (.op j kj t')) e h := by
        rcases (hpair k0 hk0).1 with rfl | rfl | ⟨rfl, _⟩
        · obtain ⟨o, ho, hd, v, hv, p⟩ := p
          obtain ⟨k, t', h1, h2, h3, h4, h5, h6⟩ := OT.front hi o3 hit (fun x hx => ha x (by simp [OT.ids, hx])) p
          obtain ⟨_, oj, hoj, hap⟩ := hpair k h4
          exact ⟨k, t', h1, h2, h3, h4, h5, TAL.swapP hi hoj hap ⟨o, ho, hd, v, hv, h6⟩⟩
        · obtain ⟨o, ho, hd, v, hv, p⟩ := p
          obtain ⟨k, t', h1, h2, h3, h4, h5, h6⟩ := OT.front hi o3 hit (fun x hx => ha x (by simp [OT.ids, hx])) p
          obtain ⟨_, oj, hoj, hap⟩ := hpair k h4
          exact ⟨k, t', h1, h2, h3, h4, h5, TAL.swapS hi hoj hap ⟨o, ho, hd, v, hv, h6⟩⟩
        · obtain ⟨o, ho, hd, v, hv, p⟩ := p
          obtain ⟨k, t', h1, h2, h3, h4, h5, h6⟩ := OT.front hi o3 hit (fun x hx => ha x (by simp [OT.ids, hx])) p
          obtain ⟨hkw, oj, hoj, hap⟩ := hpair k h4
          have hkw : ktW k = false := by
            rcases hkw with h | h | h
            · cases h
            · cases h
            · exact h.2
          exact ⟨k, t', h1, h2, h3, h4, h5, TAL.swap hi hoj hap hkw ⟨o, ho, hd, v, hv, h6⟩⟩
      obtain ⟨k, t', h1, h2, h3, h4, h5, h6⟩ := fin
      refine ⟨k, .op j kj t', okB_op ok0 h5 h1, fun x => ?_, by simp only [OT.ids, List.length_cons]; omega, by simp [OT.nodes, h4], fun q hq => ?_, h6⟩
      · simp only [OT.ids, List.mem_cons, h2]
        constructor
        · rintro (rfl | ⟨q1, q2⟩)
          · exact ⟨.inl rfl, hji⟩
          · exact ⟨.inr q1, q2⟩
        · rintro ⟨rfl | q1, q2⟩
          · exact .inl rfl
          · exact .inr ⟨q1, q2⟩
      · simp only [OT.nodes, List.mem_cons] at hq ⊢
        rcases hq with hq | hq
        · exact .inl hq
        · exact .inr (h5 q hq)
  | .alt a b, e, h, ok, hm, ha, ⟨p1, p2⟩ => by
    have ok0 := ok
    simp only [okB, Bool.and_eq_true, Nat.beq_eq] at ok
    obtain ⟨⟨⟨⟨⟨o1, o2⟩, o3⟩, o4⟩, o5⟩, o6⟩ := ok
    have hh : i ∈ a.heads ++ b.heads := by
      obtain ⟨x, hx, hx2⟩ := List.any_eq_true.1 (List.all_eq_true.1 o6 i hm)
      rw [Bool.or_eq_true] at hx2
      rcases hx2 with e1 | e1
      · rw [Nat.eq_of_beq_eq_true e1]; exact hx
      · have := ha x (OT.heads_ids (ops := ops) (A := A) (t := .alt a b) (.inr ok0) x hx)
        rw [this] at e1; cases e1
    rcases List.mem_append.1 hh with hi' | hi'
    · obtain ⟨k, t, h1, h2, h3, h4, h5, h6⟩ := OT.head_front o1 hi' p1
      exact ⟨k, t, h1, h2, h3, by simp [OT.nodes, h4], fun q hq => by simp [OT.nodes, h5 q hq], h6⟩
    · obtain ⟨k, t, h1, h2, h3, h4, h5, h6⟩ := OT.head_front o2 hi' p2
      refine ⟨k, t, h1, fun j => ?_, by simp only [OT.ids]; omega, by simp [OT.nodes, h4], fun q hq => by simp [OT.nodes, h5 q hq], h6⟩
      rw [h2]
      have q1 : j ∈ b.ids → j ∈ a.ids := fun h => by simpa using List.all_eq_true.1 o4 j h
      have q2 : j ∈ a.ids → j ∈ b.ids := fun h => by simpa using List.all_eq_true.1 o3 j h
      exact ⟨fun ⟨x, y⟩ => ⟨q1 x, y⟩, fun ⟨x, y⟩ => ⟨q2 x, y⟩⟩
theorem OT.first {A : Array Nat} : ∀ {t : OT}, okA ops A t = true ∨ okB ops A t = true → t.ids ≠ [] → ∃ i, i ∈ t.ids ∧ ∀ j, j ∈ t.ids → edgeB ops i j = false
  | .nil, _, hn => absurd rfl hn
  | .op i k t, ok, _ => by
    refine ⟨i, by simp [OT.ids], fun j hj => ?_⟩
    have ok' : okB ops A t = true := by
      rcases ok with ok | ok
      · simp only [okA, Bool.and_eq_true] at ok; exact ok.2
      · simp only [okB, Bool.and_eq_true] at ok; exact ok.2
    simp only [OT.ids, List.mem_cons] at hj
    rcases hj with rfl | hj
    · rcases ok with ok | ok
      · simp only [okA, Bool.and_eq_true] at ok; simpa using ok.1.1
      · simp only [okB, Bool.and_eq_true] at ok; simpa using ok.1.1
    · obtain ⟨kk, hk⟩ := (OT.ids_nodes (.inr ok') j).1 hj
      rcases ok with ok | ok
      · simp only [okA, Bool.and_eq_true] at ok
        have := List.all_eq_true.1 ok.1.2 _ hk
        simp only [Bool.and_eq_true] at this
        simpa using this.2
      · simp only [okB, Bool.and_eq_true] at ok
        have := List.all_eq_true.1 ok.1.2 _ hk
        simp only [Bool.and_eq_true, pairT] at this
        simpa using this.2.1
  | .alt a b, ok, hn => by
    have ok' : okA ops A a = true := by
      rcases ok with ok | ok
      · simp only [okA, Bool.and_eq_true] at ok; exact ok.1.1.1.1
      · simp only [okB, Bool.and_eq_true] at ok; exact ok.1.1.1.1.1
    exact OT.first (t := a) (.inl ok') hn
def treeB (ops : Array Oper) (t : OT) : Bool :=
  let A := Region.before ops
  Nat.beq t.ids.length ops.size && (List.range ops.size).all (fun i => t.ids.any fun p => Nat.beq p i) && t.ids.all (fun p => Nat.blt p ops.size) && A.all (fun x => Nat.blt x (2 ^ ops.size)) && rangeB ops && okB ops A t && closeB ops A
theorem any_tree (hJ : ∀ h h', J h → Ext h h' → J h') (A : Array Nat) (hr : rangeB ops = true) (hc : closeB ops A = true) (hA : ∀ i j, ancB A i j = true → j < ops.size) : ∀ (n : Nat) (t : OT) (L : Array Bool) (env : Env) (h : Heap) (φ : Ren) (a : Act) (w : World), t.ids.length = n → L.size = ops.size →
    (∀ i, i < ops.size → (L.getD i true = false ↔ i ∈ t.ids)) → (∀ s ∈ t.ids, s < ops.size) → (∀ i j, L.getD i false = true → ancB A i j = true → L.getD j false = true) → okB ops A t = true →
    a.defers = [] → Rel P N φ env h a.tmps w → J h → TAL P N ops J Q t env h → wpAny P .any ops (fun ex a' w' => Post P N φ h w (Q ex) a' w') n L a w := by
  intro n
  induction n with
  | zero =>
    intro t L env h φ a w hn hL hmem _ _ ok hd r _ p
    have hnil : t.ids = [] := List.eq_nil_of_length_eq_zero hn
    have ht : Post P N φ h w (Q .normal) a w := by
      have key : ∀ (t : OT), okA ops A t = true ∨ okB ops A t = true → t.ids = [] → TAL P N ops J Q t env h → Post P N φ h w (Q .normal) a w := by
        intro t
        induction t with
        | nil => intro _ _ p; exact p φ a w hd r
        | op i k t _ => intro _ e _; simp [OT.ids] at e
        | alt x y ihx _ =>
          intro ok e p
          refine ihx (.inl ?_) e p.1
          rcases ok with ok | ok
          · simp only [okA, Bool.and_eq_true] at ok; exact ok.1.1.1.1
          · simp only [okB, Bool.and_eq_true] at ok; exact ok.1.1.1.1.1
      exact key t (.inr ok) hnil p
    refine ⟨?_, ht⟩
    apply List.eq_nil_iff_forall_not_mem.2
    intro i hi
    obtain ⟨h1, o, h2, _⟩ := mem_ready.1 hi
    have hlt : i < ops.size := (Array.getElem?_eq_some_iff.1 h2).1
    have := (hmem i hlt).1 h1
    rw [hnil] at this
    cases this
  | succ n ih =>
    intro t L env h φ a w hn hL hmem hlt hclo ok hd r hj p
    have hin : ∀ j, j < ops.size → ¬ j ∈ t.ids → L.getD j false = true := by
      intro j hj hno
      cases hq : L.getD j true with
      | false => exact absurd ((hmem j hj).1 hq) hno
      | true =>
        have hjl : j < L.size := by omega
        simp only [Array.getD_eq_getD_getElem?, Array.getElem?_eq_getElem hjl, Option.getD_some] at hq ⊢
        exact hq
    have hrange : ∀ (i : Nat) (o : Oper), ops[i]? = some o → ∀ e ∈ o.after, Region.binds .any e = true → e.on < ops.size := by
      intro i o ho e he hb
      have h1 := Array.all_eq_true_iff_forall_mem.1 hr o (Array.mem_of_getElem? ho)
      have h2 := Array.all_eq_true_iff_forall_mem.1 h1 e he
      simp only [hb, Bool.not_true, Bool.false_or] at h2
      simpa [Nat.blt_eq] using h2
    refine ⟨fun hnil => ?_, fun i hi => ?_⟩
    · exfalso
      obtain ⟨i0, hi0, hfree⟩ := OT.first (.inr ok) (by intro e; rw [e] at hn; simp at hn)
      have hi0' := hlt i0 hi0
      have ho0 : ops[i0]? = some ops[i0] := Array.getElem?_eq_getElem hi0'
      have : i0 ∈ Region.ready .any ops L := by
        refine mem_ready.2 ⟨(hmem i0 hi0').2 hi0, ops[i0], ho0, fun e he hb => ?_⟩
        have hedge : edgeB ops i0 e.on = true := (edgeB_iff ho0).2 ⟨e, he, hb, rfl⟩
        refine hin e.on (hrange i0 _ ho0 e he hb) fun hmm => ?_
        rw [hfree e.on hmm] at hedge; cases hedge
      rw [hnil] at this
      cases this
    · obtain ⟨hi1, o, ho, hedges⟩ := mem_ready.1 hi
      have hilt : i < ops.size := (Array.getElem?_eq_some_iff.1 ho).1
      have him := (hmem i hilt).1 hi1
      have hanc : ∀ j, ancB A i j = true → L.getD j false = true := by
        intro j hj
        have hjl := hA i j hj
        have h1 := List.all_eq_true.1 (List.all_eq_true.1 hc i (List.mem_range.2 hilt)) j (List.mem_range.2 hjl)
        simp only [hj, Bool.not_true, Bool.false_or, Bool.or_eq_true, List.any_eq_true, Bool.and_eq_true] at h1
        rcases h1 with h1 | ⟨m, _, h2, h3⟩
        · obtain ⟨e, he, hb, rfl⟩ := (edgeB_iff ho).1 h1
          exact hedges e he hb
        · obtain ⟨e, he, hb, rfl⟩ := (edgeB_iff ho).1 h2
          exact hclo _ j (hedges e he hb) h3
      have hfree : ∀ j, j ∈ t.ids → ancB A i j = false := by
        intro j hj
        cases hq : ancB A i j with
        | false => rfl
        | true =>
          exfalso
          have h1 := hanc j hq
          have hjl := hlt j hj
          have h2 := (hmem j hjl).2 hj
          have hjl' : j < L.size := by omega
          simp only [Array.getD_eq_getD_getElem?, Array.getElem?_eq_getElem hjl', Option.getD_some] at h1 h2
          rw [h1] at h2; cases h2
      obtain ⟨k, t', q1, q2, q3, _, _, pf⟩ := OT.front ho ok him hfree p
      have hL' : (L.setIfInBounds i true).size = ops.size := by simp [hL]
      have hlen' : t'.ids.length = n := by omega
      have hmem' : ∀ j, j < ops.size → ((L.setIfInBounds i true).getD j true = false ↔ j ∈ t'.ids) := by
        intro j hj
        rw [q2]
        by_cases hji : i = j
        · subst hji
          have : (L.setIfInBounds i true).getD i true = true := by
            simp [Array.getD_eq_getD_getElem?]
          rw [this]
          simp
        · rw [getD_set_ne _ hji, hmem j hj]
          exact ⟨fun x => ⟨x, fun e => hji e.symm⟩, fun x => x.1⟩
      have hlt' : ∀ s ∈ t'.ids, s < ops.size := fun s hs => hlt s ((q2 s).1 hs).1
      have hclo' : ∀ x y, (L.setIfInBounds i true).getD x false = true → ancB A x y = true → (L.setIfInBounds i true).getD y false = true := by
        intro x y hx hxy
        refine getD_set_true ?_
        by_cases hxi : i = x
        · subst hxi; exact hanc y hxy
        · rw [getD_set_ne _ hxi] at hx
          exact hclo x y hx hxy
      have go : ∀ (φ' : Ren) (env' : Env) (h' : Heap) (a' : Act) (w' : World), a'.defers = [] → Rel P N φ' env' h' a'.tmps w' → Step φ h w φ' h' w' → J h' → TAL P N ops J Q t' env' h' →
          wpAny P .any ops (fun ex a2 w2 => Post P N φ h w (Q ex) a2 w2) n (L.setIfInBounds i true) a' w' := by
        intro φ' env' h' a' w' hd' r' st hj' p'
        exact wpAny_mono (fun _ _ _ hp => hp.trans st) _ _ _ _ (ih t' _ env' h' φ' a' w' hlen' hL' hmem' hlt' hclo' q1 hd' r' hj' p')
      have run : ∀ (K : Value → Heap → Prop), dstB N o.dst = true → gv ops env o = some true → AOp P o (ev P env) h K → (∀ v h', K v h' → J h' ∧ TAL P N ops J Q t' (env.put o.dst v) h') →
          wpOp P ops (fun ex a2 w2 => Post P N φ h w (Q ex) a2 w2) i (wpAny P .any ops (fun ex a2 w2 => Post P N φ h w (Q ex) a2 w2) n (L.setIfInBounds i true)) a w := by
        intro K hdst hg hop hk
        simp only [wpOp, ho, wanted_of r hg, if_true]
        refine .inl (hop φ a w ⟨r.sim, fun x _ => r.ev x⟩ _ _ fun c w' φ' h' v kv vr s st => ?_)
        exact go φ' _ h' _ w' (by rw [put_defers]; exact hd) ((r.step s st).put o.dst (dstB_lt hdst) vr) st (hk v h' kv).1 (hk v h' kv).2
      have skip : dstB N o.dst = true → gv ops env o = some false → TAL P N ops J Q t' (env.put o.dst skipV) h →
          wpOp P ops (fun ex a2 w2 => Post P N φ h w (Q ex) a2 w2) i (wpAny P .any ops (fun ex a2 w2 => Post P N φ h w (Q ex) a2 w2) n (L.setIfInBounds i true)) a w := by
        intro hdst hg hk
        simp only [wpOp, ho, wanted_of r hg, Bool.false_eq_true, if_false]
        exact go φ _ h _ w (by rw [put_defers]; exact hd) (r.put o.dst (dstB_lt hdst) .skip) (Step.refl _ _ _) hj hk
      cases k with
      | P =>
        obtain ⟨o', ho', hdst, v, hv, pk⟩ := pf
        rw [ho] at ho'; cases ho'
        rcases hv with ⟨g1, g2⟩ | ⟨g1, rfl⟩
        · exact run _ hdst g1 (g2 h (Nat.le_refl _)) fun v' h' ⟨e1, e2⟩ => by subst e1 e2; exact ⟨hj, pk⟩
        · exact skip hdst g1 pk
      | S =>
        obtain ⟨o', ho', hdst, v, hv, pk⟩ := pf
        rw [ho] at ho'; cases ho'
        rcases hv with ⟨g1, g2⟩ | ⟨g1, rfl⟩
        · exact run _ hdst g1 (g2 h (Nat.le_refl _) hj) fun v' h' ⟨e1, e2⟩ => by subst e1 e2; exact ⟨hj, pk⟩
        · exact skip hdst g1 pk
      | R =>
        obtain ⟨o', ho', hdst, v, hv, pk⟩ := pf
        rw [ho] at ho'; cases ho'
        rcases hv with ⟨g1, g2⟩ | ⟨g1, rfl⟩
        · exact run _ hdst g1 (g2 h (Ext.refl h) (Nat.le_refl _)) fun v' h' ⟨e1, e2⟩ => by subst e1 e2; exact ⟨hj, pk⟩
        · exact skip hdst g1 pk
      | X =>
        obtain ⟨o', ho', hdst, hv⟩ := pf
        rw [ho] at ho'; cases ho'
        rcases hv with ⟨g1, g2⟩ | ⟨g1, g2⟩
        · exact run _ hdst g1 g2 fun v' h' ⟨e1, e2⟩ => ⟨hJ _ _ hj e1, e2⟩
        · exact skip hdst g1 g2
      | W =>
        obtain ⟨o', ho', hdst, hv⟩ := pf
        rw [ho] at ho'; cases ho'
        rcases hv with ⟨g1, g2⟩ | ⟨g1, g2⟩
        · exact run _ hdst g1 g2 fun v' h' e2 => e2
        · exact skip hdst g1 g2
theorem AWp.treeJ (J : Heap → Prop) (hJ : ∀ h h', J h → Ext h h' → J h') {id : Nat} {t : OT} {env : Env} {h : Heap} (hm : P.follows .mixedOrders = true) (hb : treeB ops t = true) (hj : J h) (p : TAL P N ops J Q t env h) : AWp P N (.region id ops true) Q env h := by
  intro φ a w hd r
  simp only [treeB, Bool.and_eq_true] at hb
  obtain ⟨⟨⟨⟨⟨⟨b1, b2⟩, b3⟩, b4⟩, b5⟩, b6⟩, b7⟩ := hb
  have b1' : t.ids.length = ops.size := Nat.eq_of_beq_eq_true b1
  refine wp_region_any hm ?_
  have r' : Rel P N φ env h a.tmps w.drew := ⟨r.sim.drew, r.size, r.env⟩
  refine wpAny_mono (fun _ _ _ hp => hp.trans Step.drew) _ _ _ _ (any_tree hJ (Region.before ops) b5 b7 ?_ ops.size t (Array.replicate ops.size false) env h φ a w.drew b1' (by simp) ?_ ?_ ?_ b6 hd r' hj p)
  · intro i j hij
    unfold ancB at hij
    rcases Nat.lt_or_ge j ops.size with hl | hl
    · exact hl
    · exfalso
      have hx : (Region.before ops).getD i 0 < 2 ^ ops.size := by
        rcases Nat.lt_or_ge i (Region.before ops).size with h1 | h1
        · have := Array.all_eq_true_iff_forall_mem.1 b4 ((Region.before ops)[i]) (by simp)
          rw [Array.getD_eq_getD_getElem?, Array.getElem?_eq_getElem h1]
          simpa [Nat.blt_eq] using this
        · rw [Array.getD_eq_getD_getElem?, Array.getElem?_eq_none h1]
          exact Nat.two_pow_pos _
      have := Nat.testBit_lt_two_pow (Nat.lt_of_lt_of_le hx (Nat.pow_le_pow_right (by omega) hl))
      rw [this] at hij
      cases hij
  · intro i hi
    have h1 : (Array.replicate ops.size false).getD i true = false := by
      simp [Array.getD_eq_getD_getElem?, hi]
    rw [h1]
    simp only [true_iff]
    have := List.all_eq_true.1 b2 i (List.mem_range.2 hi)
    obtain ⟨j, h2, h3⟩ := List.any_eq_true.1 this
    have : j = i := Nat.eq_of_beq_eq_true h3
    subst this
    exact h2
  · intro s hs
    simpa [Nat.blt_eq] using List.all_eq_true.1 b3 s hs
  · intro i j hi
    exfalso
    by_cases hl : i < ops.size
    · simp [Array.getD_eq_getD_getElem?, hl] at hi
    · simp [Array.getD_eq_getD_getElem?, hl] at hi
theorem AWp.tree {id : Nat} {t : OT} {env : Env} {h : Heap} (hm : P.follows .mixedOrders = true) (hb : treeB ops t = true) (p : TAL P N ops (fun _ => True) Q t env h) : AWp P N (.region id ops true) Q env h :=
  AWp.treeJ (fun _ => True) (fun _ _ _ _ => trivial) hm hb trivial p
variable {i : Nat} {t : OT} {env : Env} {h : Heap} {d : Tmp} {op : Op} {ty : TypeId} {pos : String} {aft : Array Edge} {g : Option (Nat × Bool)}
theorem TAL.r {v : Value} (ho : ops[i]? = some ⟨some d, op, ty, pos, aft, g⟩) (hd : Nat.blt d N = true) (hg : gv ops env ⟨some d, op, ty, pos, aft, g⟩ = some true) (hv : ∀ h', Ext h h' → h.next ≤ h'.next → AOp P ⟨some d, op, ty, pos, aft, g⟩ (ev P env) h' fun v' h'' => v' = v ∧ h'' = h')
    (k : TAL P N ops J Q t ((d, v) :: env) h) : TAL P N ops J Q (.op i .R t) env h := ⟨_, ho, hd, v, .inl ⟨hg, hv⟩, k⟩
theorem TAL.p {v : Value} (ho : ops[i]? = some ⟨some d, op, ty, pos, aft, g⟩) (hd : Nat.blt d N = true) (hg : gv ops env ⟨some d, op, ty, pos, aft, g⟩ = some true) (hv : ∀ h', h.next ≤ h'.next → AOp P ⟨some d, op, ty, pos, aft, g⟩ (ev P env) h' fun v' h'' => v' = v ∧ h'' = h')
    (k : TAL P N ops J Q t ((d, v) :: env) h) : TAL P N ops J Q (.op i .P t) env h := ⟨_, ho, hd, v, .inl ⟨hg, hv⟩, k⟩
theorem TAL.x (ho : ops[i]? = some ⟨some d, op, ty, pos, aft, g⟩) (hd : Nat.blt d N = true) (hg : gv ops env ⟨some d, op, ty, pos, aft, g⟩ = some true) (hv : AOp P ⟨some d, op, ty, pos, aft, g⟩ (ev P env) h fun v h' => Ext h h' ∧ TAL P N ops J Q t ((d, v) :: env) h') :
    TAL P N ops J Q (.op i .X t) env h := ⟨_, ho, hd, .inl ⟨hg, hv⟩⟩
theorem TAL.w (ho : ops[i]? = some ⟨some d, op, ty, pos, aft, g⟩) (hd : Nat.blt d N = true) (hg : gv ops env ⟨some d, op, ty, pos, aft, g⟩ = some true) (hv : AOp P ⟨some d, op, ty, pos, aft, g⟩ (ev P env) h fun v h' => TAL P N ops (fun _ => True) Q t ((d, v) :: env) h') :
    TAL P N ops (fun _ => True) Q (.op i .W t) env h := ⟨_, ho, hd, .inl ⟨hg, hv.mono fun _ _ _ k => ⟨trivial, k⟩⟩⟩
theorem TAL.w0 (ho : ops[i]? = some ⟨none, op, ty, pos, aft, g⟩) (hg : gv ops env ⟨none, op, ty, pos, aft, g⟩ = some true) (hv : AOp P ⟨none, op, ty, pos, aft, g⟩ (ev P env) h fun _ h' => TAL P N ops (fun _ => True) Q t env h') :
    TAL P N ops (fun _ => True) Q (.op i .W t) env h := ⟨_, ho, rfl, .inl ⟨hg, hv.mono fun _ _ _ k => ⟨trivial, k⟩⟩⟩
theorem TAL.heap {h' : Heap} (e : h' = h) (p : TAL P N ops J Q t env h) : TAL P N ops J Q t env h' := e ▸ p
theorem TAL.nil (k : Q .normal env h) : TAL P N ops J Q .nil env h := fun _ _ _ hd r => Post.now k hd r
end
end Go.Eng
/-
  Numbers' forms: seven bits a byte, the lowest first.
-/
namespace Go.Pln
open Go Go.Eng
def vnt (n : Nat) : List UInt8 := if n < 128 then [UInt8.ofNat n] else UInt8.ofNat (128 + n % 128) :: vnt (n / 128)
termination_by n
theorem vnt_small {n : Nat} (h : n < 128) : vnt n = [UInt8.ofNat n] := by rw [vnt, if_pos h]
theorem vnt_big {n : Nat} (h : ¬ n < 128) : vnt n = UInt8.ofNat (128 + n % 128) :: vnt (n / 128) := by rw [vnt, if_neg h]
theorem vnt_len (k : Nat) : ∀ n : Nat, n < 128 ^ (k + 1) → (vnt n).length ≤ k + 1 := by
  induction k with
  | zero => intro n h; rw [vnt_small (by simpa using h)]; simp
  | succ k ih =>
    intro n h
    by_cases hs : n < 128
    · rw [vnt_small hs]; simp
    · rw [vnt_big hs, List.length_cons]
      have : n / 128 < 128 ^ (k + 1) := by
        rw [Nat.div_lt_iff_lt_mul (by omega)]
        rw [Nat.pow_succ] at h
        exact h
      have := ih _ this
      omega
theorem vnt_len10 (n : Nat) (h : n < 18446744073709551616) : (vnt n).length ≤ 10 := vnt_len 9 n (Nat.lt_of_lt_of_le h (by decide))
theorem vnt_pos (n : Nat) : 0 < (vnt n).length := by
  by_cases h : n < 128
  · rw [vnt_small h]; simp
  · rw [vnt_big h]; simp
end Go.Pln
/-
  Logs: numbers, bytes and rows of bytes, avs they are spelled.
-/
namespace Go.Proofs.Ytnioldkmckmajaa
open Go Go.Eng Go.Pln
attribute [local irreducible] AWp AL DAL AOp TAL
instance i_TyD_uint64_LogA : TyD Try.prog 102 (.int .u64) := ⟨Try.underlying102⟩
instance i_TyD_int64_LogA : TyD Try.prog 2 (.int .i64) := ⟨Try.underlying2⟩
instance i_TyD_int_LogA : TyD Try.prog 3 (.int .i64) := ⟨Try.underlying3⟩
instance i_TyD_Sl_Sl_uint8_LogA : TyD Try.prog 106 (.slice 49) := ⟨Try.underlying106⟩
instance i_spell : FnC Try.prog 78 := ⟨Try.f78, Try.func78, by kernel_rfl, by kernel_rfl⟩
instance i_Number : FnC Try.prog 75 := ⟨Try.f75, Try.func75, by kernel_rfl, by kernel_rfl⟩
instance i_Bytes : FnC Try.prog 55 := ⟨Try.f55, Try.func55, by kernel_rfl, by kernel_rfl⟩
instance i_Join : FnC Try.prog 74 := ⟨Try.f74, Try.func74, by kernel_rfl, by kernel_rfl⟩
instance i_num : FnC Try.prog 48 := ⟨Try.f48, Try.func48, by kernel_rfl, by kernel_rfl⟩
structure Low (B : Nat) (h h' : Heap) : Prop where
  c : ∀ j b, h.get j = some b → j < B → h'.get j = some b
  o : ∀ j b, h.obj j = some b → h'.obj j = some b
theorem Low.refl (B : Nat) (h : Heap) : Low B h h := ⟨fun _ _ a _ => a, fun _ _ a => a⟩
theorem Low.trans {B : Nat} {a b c : Heap} (x : Low B a b) (y : Low B b c) : Low B a c := ⟨fun j q h1 h2 => y.c j q (x.c j q h1 h2) h2, fun j q h1 => y.o j q (x.o j q h1)⟩
theorem Low.of_ext {B : Nat} {a b : Heap} (x : Ext a b) : Low B a b := ⟨fun j q h1 _ => x.c j q h1, fun j q h1 => x.o j q h1⟩
theorem Low.ext {B : Nat} {h0 h h' : Heap} (x : Low B h h') (wf : WF h0) (hB : h0.next ≤ B) (hx : Ext h0 h) : Ext h0 h' :=
  ⟨fun j q h1 => x.c j q (hx.c j q h1) (Nat.lt_of_lt_of_le (wf.lt h1) hB), fun j q h1 => x.o j q (hx.o j q h1)⟩
theorem Low.keeps {B : Nat} {h h' : Heap} {e : TypeId} {v : Value} {vs : List Value} (k : Keeps v h h') (r : OS B h e v vs) : Low B h h' :=
  ⟨fun j q h1 h2 => k.c j q h1 fun s n c hv => by
    rcases r with ⟨rfl, _⟩ | ⟨i, c', hi, rfl, _⟩
    · cases hv
    · cases hv; omega, fun j q h1 => k.o j q h1⟩
section
variable {ρ : Operand → Value} {h : Heap} {K : Value → Heap → Prop} {dst : Option Tmp} {ty : TypeId} {pos : String} {aft : Array Edge} {g : Option (Nat × Bool)} {t t' : TypeId} {x y : Operand} {n : Nat}
theorem op_rem128 (hx : ρ x = .int .u64 (n : Nat)) (hy : ρ y = .int .u64 128) (kk : K (.int .u64 ((n % 128 : Nat) : Int)) h) : AOp Try.prog ⟨dst, .binOp .rem t x y t', ty, pos, aft, g⟩ ρ h K :=
  op_rem64 hx hy ⟨by omega, by omega⟩ (by rw [show ((n : Int) % 128) = ((n % 128 : Nat) : Int) by omega]; exact kk)
theorem op_quo128 (hn : n < 18446744073709551616) (hx : ρ x = .int .u64 (n : Nat)) (hy : ρ y = .int .u64 128) (kk : K (.int .u64 ((n / 128 : Nat) : Int)) h) : AOp Try.prog ⟨dst, .binOp .quo t x y t', ty, pos, aft, g⟩ ρ h K :=
  op_int hx hy (v := .int .u64 ((n / 128 : Nat) : Int)) (by
    have h1 : (n : Int).tdiv 128 = ((n / 128 : Nat) : Int) := by rw [Int.tdiv_eq_ediv_of_nonneg (by omega)]; omega
    simp only [binI, if_true]; rw [if_neg (by omega), h1]; congr 2; rw [IntKind.wrap_u64]; omega) kk
theorem op_cb7 [TyD Try.prog t (.int .u64)] [TyD Try.prog t' (.int .u8)] (hn : n < 256) (hx : ρ x = .int .u64 (n : Nat)) (kk : K (.int .u8 (n : Nat)) h) : AOp Try.prog ⟨dst, .convert t t' x, ty, pos, aft, g⟩ ρ h K :=
  op_convI (ks := .u64) hx (by rw [show IntKind.u8.wrap (n : Int) = (n : Nat) by rw [IntKind.wrap_u8]; omega]; exact kk)
theorem or128 : ∀ m : Fin 128, (BitVec.ofInt 8 128 ||| BitVec.ofInt 8 (m.val : Int)).toNat = 128 + m.val := by decide
theorem op_or128 (hn : n < 128) (hx : ρ x = .int .u8 128) (hy : ρ y = .int .u8 (n : Nat)) (kk : K (.int .u8 ((128 + n : Nat) : Int)) h) : AOp Try.prog ⟨dst, .binOp .or t x y t', ty, pos, aft, g⟩ ρ h K :=
  op_int hx hy (v := .int .u8 ((128 + n : Nat) : Int)) (by
    simp only [binI, if_true]
    show some (Value.int .u8 (IntKind.u8.wrap ((BitVec.ofInt 8 128 ||| BitVec.ofInt 8 (n : Int)).toNat : Int))) = _
    rw [or128 ⟨n, hn⟩, IntKind.wrap_u8]
    congr 2
    simp only
    omega) kk
end
theorem ofNat_lt {n : Nat} (h : n < 256) : (UInt8.ofNat n).toNat = n := by rw [UInt8.toNat_ofNat']; omega
set_option maxHeartbeats 1000000 in
theorem spell_c (B : Nat) (v : Value) (l : List UInt8) (n : Nat) (h : Heap) (r : OS B h 5 v (bv l)) (hB : B ≤ h.next) (hn : n < 18446744073709551616) (hl : l.length ≤ 10000000) :
    ACalls Try.prog 78 [v, .int .u64 (n : Nat)] h fun u h' => OS B h' 5 u (bv (l ++ vnt n)) ∧ Low B h h' := by
  refine ACalls.wf fun wf => ?_
  refine ACalls.body Try.func78 rfl rfl ?_
  have h10 := vnt_len10 n hn
  repeat (first | refine AL.nil ?_ | refine AWp.seq ?_ | refine AWp.region ?_ | refine AWp.block ?_ | refine AL.set rfl rfl (op_assignS rfl ?_))
  refine AWp.loop (α := Value × List UInt8 × Nat × Heap) (fun s => [(0, s.1), (1, .int .u64 (s.2.2.1 : Nat))]) (fun s => s.2.2.2) (fun s => OS B s.2.2.2 5 s.1 (bv s.2.1) ∧ s.2.1 ++ vnt s.2.2.1 = l ++ vnt n ∧ s.2.2.1 < 18446744073709551616 ∧ Low B h s.2.2.2 ∧ WF s.2.2.2 ∧ B ≤ s.2.2.2.next) (fun s => s.2.2.1) (v, l, n, h) ⟨r, rfl, hn, Low.refl _ _, wf, hB⟩ (Weak.same (EW.cons rfl (EW.cons rfl EW.nil))) ?_
  rintro ⟨u, k, m, H⟩ ⟨q1, q2, q3, q4, q5, q6⟩
  replace q1 : OS B H 5 u (bv k) := q1
  replace q2 : k ++ vnt m = l ++ vnt n := q2
  replace q3 : m < 18446744073709551616 := q3
  replace q4 : Low B h H := q4
  replace q5 : WF H := q5
  replace q6 : B ≤ H.next := q6
  have hk : k.length + (vnt m).length = l.length + (vnt n).length := by rw [← List.length_append, q2, List.length_append]
  show AWp _ _ _ _ [(0, u), (1, .int .u64 (m : Nat))] H
  by_cases hs : m < 128
  · repeat (first | refine AL.nil ?_ | refine AWp.seq ?_ | refine AWp.region ?_ | refine AWp.condF rfl ?_ | refine AWp.exit ?_ | refine AL.set rfl rfl (op_moveI rfl ?_) | refine AL.set rfl rfl (op_move (v := u) rfl ?_) | refine AL.set rfl rfl (op_intF rfl rfl rfl (by omega) ?_) | refine AL.set rfl rfl (op_cb7 (by omega) rfl ?_))
    refine AL.set rfl rfl (op_row [.int .u8 (m : Nat)] rfl rfl rfl rfl (by intro w hw; rw [List.mem_singleton.1 hw]; rfl) ?_)
    have gr := Heap.alloc_new H ⟨[.int .u8 (m : Nat)], 5, true⟩
    have xr := q5.ext ⟨[.int .u8 (m : Nat)], 5, true⟩
    have wr := q5.alloc ⟨[.int .u8 (m : Nat)], 5, true⟩
    have nr : (H.alloc ⟨[.int .u8 (m : Nat)], 5, true⟩).next = H.next + 1 := rfl
    generalize H.alloc ⟨[.int .u8 (m : Nat)], 5, true⟩ = H2 at gr xr wr nr ⊢
    have rb : RS H2 (.slice (some ⟨H.next, 0, some 1⟩) 1 1) [.int .u8 (m : Nat)] := RS.own gr rfl
    refine AL.set rfl rfl (op_appendO (by_ := 1) (z := .int .u8 0) (B := B) (e := 5) rfl wr (by omega) (q1.ext xr) rfl rfl rb.src rfl rfl (by rw [bv_length]; simp only [maxLen, List.length_cons, List.length_nil]; omega) (by rw [bv_length]; simp only [List.length_cons, List.length_nil]; omega) ?_)
    intro u' H3 o3 k3 wf3 n3
    repeat (first | refine AL.nil ?_ | refine AWp.ret ?_ | refine AL.set rfl rfl (op_assign (v := u') rfl ?_))
    refine ⟨_, ResV.tmp rfl, ?_, (q4.trans (Low.of_ext xr)).trans (Low.keeps k3 (q1.ext xr))⟩
    rw [← q2, vnt_small hs, bv_append]
    have e : bv [UInt8.ofNat m] = [.int .u8 (m : Nat)] := by simp only [bv, List.map_cons, List.map_nil]; rw [ofNat_lt (by omega)]
    rw [e]
    exact o3
  · repeat (first | refine AL.nil ?_ | refine AWp.seq ?_ | refine AWp.region ?_ | refine AWp.condT rfl ?_ | refine AWp.block ?_ | refine AWp.skip ?_ | refine AL.set rfl rfl (op_moveI rfl ?_) | refine AL.set rfl rfl (op_move (v := u) rfl ?_) | refine AL.set rfl rfl (op_intT rfl rfl rfl (by omega) ?_) | refine AL.set rfl rfl (op_rem128 rfl rfl ?_) | refine AL.set rfl rfl (op_cb7 (by omega) rfl ?_) | refine AL.set rfl rfl (op_or128 (by omega) rfl rfl ?_))
    refine AL.set rfl rfl (op_row [.int .u8 ((128 + m % 128 : Nat) : Int)] rfl rfl rfl rfl (by intro w hw; rw [List.mem_singleton.1 hw]; rfl) ?_)
    have gr := Heap.alloc_new H ⟨[.int .u8 ((128 + m % 128 : Nat) : Int)], 5, true⟩
    have xr := q5.ext ⟨[.int .u8 ((128 + m % 128 : Nat) : Int)], 5, true⟩
    have wr := q5.alloc ⟨[.int .u8 ((128 + m % 128 : Nat) : Int)], 5, true⟩
    have nr : (H.alloc ⟨[.int .u8 ((128 + m % 128 : Nat) : Int)], 5, true⟩).next = H.next + 1 := rfl
    generalize H.alloc ⟨[.int .u8 ((128 + m % 128 : Nat) : Int)], 5, true⟩ = H2 at gr xr wr nr ⊢
    have rb : RS H2 (.slice (some ⟨H.next, 0, some 1⟩) 1 1) [.int .u8 ((128 + m % 128 : Nat) : Int)] := RS.own gr rfl
    refine AL.set rfl rfl (op_appendO (by_ := 1) (z := .int .u8 0) (B := B) (e := 5) rfl wr (by omega) (q1.ext xr) rfl rfl rb.src rfl rfl (by rw [bv_length]; simp only [maxLen, List.length_cons, List.length_nil]; omega) (by rw [bv_length]; simp only [List.length_cons, List.length_nil]; omega) ?_)
    intro u' H3 o3 k3 wf3 n3
    have hv := vnt_big hs
    repeat (first | refine AL.nil ?_ | refine AL.set rfl rfl (op_moveI rfl ?_) | refine AL.set rfl rfl (op_assignI rfl ?_) | refine AL.set rfl rfl (op_quo128 q3 rfl rfl ?_) | refine AL.set rfl rfl (op_assign (v := u') rfl ?_))
    refine ⟨(u', k ++ [UInt8.ofNat (128 + m % 128)], m / 128, H3), ⟨?_, ?_, by show m / 128 < 18446744073709551616; omega, (q4.trans (Low.of_ext xr)).trans (Low.keeps k3 (q1.ext xr)), wf3, by show B ≤ H3.next; omega⟩, by show m / 128 < m; omega, Weak.same (EW.cons rfl (EW.cons rfl EW.nil))⟩
    · have e : bv [UInt8.ofNat (128 + m % 128)] = [.int .u8 ((128 + m % 128 : Nat) : Int)] := by simp only [bv, List.map_cons, List.map_nil]; rw [ofNat_lt (by omega)]
      show OS B H3 _ u' (bv (k ++ [UInt8.ofNat (128 + m % 128)]))
      rw [bv_append, e]
      exact o3
    · show (k ++ [UInt8.ofNat (128 + m % 128)]) ++ vnt (m / 128) = l ++ vnt n
      rw [← q2, hv, List.append_assoc]
      rfl
theorem number_c (n : Nat) (h : Heap) (hn : n < 18446744073709551616) :
    ACalls Try.prog 75 [.int .u64 (n : Nat)] h fun u h' => OS h.next h' 5 u (bv (vnt n)) ∧ Ext h h' := by
  refine ACalls.wf fun wf => ?_
  refine ACalls.body Try.func75 rfl rfl ?_
  repeat (first | refine AL.nil ?_ | refine AWp.seq ?_ | refine AWp.region ?_ | refine AL.set rfl rfl (op_moveI rfl ?_) | refine AL.set rfl rfl (op_assignS rfl ?_))
  refine AL.set rfl rfl (op_call rfl rfl ((spell_c h.next (.slice none 0 0) [] n h (OS.nil _ _ _) (Nat.le_refl _) hn (by simp)).mono ?_))
  rintro u H ⟨o, k⟩
  repeat (first | refine AL.nil ?_ | refine AWp.ret ?_ | refine AL.set rfl rfl (op_assign (v := u) rfl ?_))
  rw [List.nil_append] at o
  exact ⟨_, ResV.tmp rfl, o, k.ext wf (Nat.le_refl _) (Ext.refl _)⟩
theorem num_c (n : Nat) (h : Heap) (hn : n ≤ 9223372036854775807) :
    ACalls Try.prog 48 [.int .i64 (n : Nat)] h fun u h' => OS h.next h' 5 u (bv (vnt n)) ∧ Ext h h' := by
  refine ACalls.body Try.func48 rfl rfl ?_
  repeat (first | refine AL.nil ?_ | refine AWp.seq ?_ | refine AWp.region ?_ | refine AL.set rfl rfl (op_moveI rfl ?_) | refine AL.set rfl rfl (op_assignS rfl ?_) | refine AL.set rfl rfl (op_convU64 rfl (by omega) ?_))
  refine AL.set rfl rfl (op_call rfl rfl ((number_c n h (by omega)).mono ?_))
  rintro u H ⟨o, k⟩
  repeat (first | refine AL.nil ?_ | refine AWp.ret ?_ | refine AL.set rfl rfl (op_assign (v := u) rfl ?_))
  exact ⟨_, ResV.tmp rfl, o, k⟩
end Go.Proofs.Ytnioldkmckmajaa
