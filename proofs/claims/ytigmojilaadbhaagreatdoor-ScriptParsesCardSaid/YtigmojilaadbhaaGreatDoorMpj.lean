/-
  Texts of one claim, merged: 5 parts.
-/
import Derived.Test.YtigmojilaadbhaaGreatDoorMpd
import Derived.Test.YtigmojilaadbhaaGreatDoorMph
import Derived.Test.YtigmojilaadbhaaGreatDoorMpi
import Derived.Lib.ItoaLen
set_option maxHeartbeats 16000000
/- . -/
namespace Go.Eng
open Go
inductive KT where
 | P | S | R | X | W
def ktP : KT → Bool
 | .P => true
 | .S => true
 | _ => false
def ktR : KT → Bool
 | .R => true
 | _ => false
def ktW : KT → Bool
 | .W => true
 | _ => false
def pairT (ops : Array Oper) (A : Array Nat) (p q : Nat × KT) : Bool :=
 !edgeB ops p.1 q.1 && (ancB A q.1 p.1 || ((ktP p.2 || (ktR p.2 && !ktW q.2)) && apartB ops p.1 q.1))
def POp (P : Program) (o : Oper) (ρ : Operand → Value) (h : Heap) (v : Value) : Prop :=
 ∀ h', h.next ≤ h'.next → AOp P o ρ h' fun v' h'' => v' = v ∧ h'' = h'
def SOp (P : Program) (J : Heap → Prop) (o : Oper) (ρ : Operand → Value) (h : Heap) (v : Value) : Prop :=
 ∀ h', h.next ≤ h'.next → J h' → AOp P o ρ h' fun v' h'' => v' = v ∧ h'' = h'
theorem SOp.congr {P : Program} {J : Heap → Prop} {o : Oper} {ρ ρ' : Operand → Value} {h : Heap} {v : Value} (hq : ∀ x, x ∈ o.op.operands → ρ x = ρ' x) (p : SOp P J o ρ h v) : SOp P J o ρ' h v :=
 fun h' hn hj => (p h' hn hj).congr hq
theorem POp.congr {P : Program} {o : Oper} {ρ ρ' : Operand → Value} {h : Heap} {v : Value} (hq : ∀ x, x ∈ o.op.operands → ρ x = ρ' x) (p : POp P o ρ h v) : POp P o ρ' h v :=
 fun h' hn => (p h' hn).congr hq
inductive OT where
 | nil
 | op (i : Nat) (k : KT) (t : OT)
 | alt (a b : OT)
def OT.nodes : OT → List (Nat × KT)
 | .nil => []
 | .op i k t => (i, k) :: t.nodes
 | .alt a b => a.nodes ++ b.nodes
def OT.ids : OT → List Nat
 | .nil => []
 | .op i _ t => i :: t.ids
 | .alt a _ => a.ids
def OT.heads : OT → List Nat
 | .nil => []
 | .op i _ _ => [i]
 | .alt a b => a.heads ++ b.heads
def OT.seq : List (Nat × KT) → OT → OT
 | [], t => t
 | (i, k) :: l, t => .op i k (OT.seq l t)
def TAL (P : Program) (N : Nat) (ops : Array Oper) (J : Heap → Prop) (Q : Exit → Env → Heap → Prop) : OT → Env → Heap → Prop
 | .nil, env, h => ∀ φ a w, a.defers = [] → Rel P N φ env h a.tmps w → Post P N φ h w (Q .normal) a w
 | .op i .P t, env, h => ∃ o, ops[i]? = some o ∧ dstB N o.dst = true ∧ ∃ v, ((gv ops env o = some true ∧ POp P o (ev P env) h v) ∨ (gv ops env o = some false ∧ v = skipV)) ∧ TAL P N ops J Q t (env.put o.dst v) h
 | .op i .S t, env, h => ∃ o, ops[i]? = some o ∧ dstB N o.dst = true ∧ ∃ v, ((gv ops env o = some true ∧ SOp P J o (ev P env) h v) ∨ (gv ops env o = some false ∧ v = skipV)) ∧ TAL P N ops J Q t (env.put o.dst v) h
 | .op i .R t, env, h => ∃ o, ops[i]? = some o ∧ dstB N o.dst = true ∧ ∃ v, ((gv ops env o = some true ∧ ROp P o (ev P env) h v) ∨ (gv ops env o = some false ∧ v = skipV)) ∧ TAL P N ops J Q t (env.put o.dst v) h
 | .op i .X t, env, h => ∃ o, ops[i]? = some o ∧ dstB N o.dst = true ∧
   ((gv ops env o = some true ∧ AOp P o (ev P env) h fun v h' => Ext h h' ∧ TAL P N ops J Q t (env.put o.dst v) h') ∨ (gv ops env o = some false ∧ TAL P N ops J Q t (env.put o.dst skipV) h))
 | .op i .W t, env, h => ∃ o, ops[i]? = some o ∧ dstB N o.dst = true ∧
   ((gv ops env o = some true ∧ AOp P o (ev P env) h fun v h' => J h' ∧ TAL P N ops J Q t (env.put o.dst v) h') ∨ (gv ops env o = some false ∧ TAL P N ops J Q t (env.put o.dst skipV) h))
 | .alt a b, env, h => TAL P N ops J Q a env h ∧ TAL P N ops J Q b env h
section
variable {P : Program} {N : Nat} {ops : Array Oper} {Q : Exit → Env → Heap → Prop} {J : Heap → Prop}
theorem TAL.eqE : ∀ {t : OT} {e e' : Env} {h : Heap}, TAL P N ops J Q t e h → EqE e e' → TAL P N ops J Q t e' h
 | .nil, _, _, _, p, q => fun φ a w hd r => p φ a w hd (r.eqE fun t => (q t).symm)
 | .op i .P t, _, _, _, ⟨o, ho, hd, v, hv, p⟩, q => by
  refine ⟨o, ho, hd, v, ?_, TAL.eqE p (q.put o.dst v)⟩
  rw [← q.gv o]
  exact hv.imp (fun ⟨a, b⟩ => ⟨a, b.congr fun x _ => q.ev x⟩) id
 | .op i .S t, _, _, _, ⟨o, ho, hd, v, hv, p⟩, q => by
  refine ⟨o, ho, hd, v, ?_, TAL.eqE p (q.put o.dst v)⟩
  rw [← q.gv o]
  exact hv.imp (fun ⟨a, b⟩ => ⟨a, b.congr fun x _ => q.ev x⟩) id
 | .op i .R t, _, _, _, ⟨o, ho, hd, v, hv, p⟩, q => by
  refine ⟨o, ho, hd, v, ?_, TAL.eqE p (q.put o.dst v)⟩
  rw [← q.gv o]
  exact hv.imp (fun ⟨a, b⟩ => ⟨a, b.congr fun x _ => q.ev x⟩) id
 | .op i .X t, _, _, _, ⟨o, ho, hd, hv⟩, q => by
  refine ⟨o, ho, hd, ?_⟩
  rw [← q.gv o]
  exact hv.imp (fun ⟨a, b⟩ => ⟨a, (b.congr fun x _ => q.ev x).mono fun v h' _ ⟨k1, k2⟩ => ⟨k1, TAL.eqE k2 (q.put o.dst v)⟩⟩) (fun ⟨a, b⟩ => ⟨a, TAL.eqE b (q.put o.dst skipV)⟩)
 | .op i .W t, _, _, _, ⟨o, ho, hd, hv⟩, q => by
  refine ⟨o, ho, hd, ?_⟩
  rw [← q.gv o]
  exact hv.imp (fun ⟨a, b⟩ => ⟨a, (b.congr fun x _ => q.ev x).mono fun v h' _ ⟨k1, k2⟩ => ⟨k1, TAL.eqE k2 (q.put o.dst v)⟩⟩) (fun ⟨a, b⟩ => ⟨a, TAL.eqE b (q.put o.dst skipV)⟩)
 | .alt _ _, _, _, _, ⟨p1, p2⟩, q => ⟨p1.eqE q, p2.eqE q⟩
theorem TAL.swap {i j : Nat} {k : KT} {oi oj : Oper} {t : OT} {e : Env} {h : Heap} (hi : ops[i]? = some oi) (hj : ops[j]? = some oj) (hap : oj.apart ops oi = true) (hk : ktW k = false)
  (p : TAL P N ops J Q (.op j .R (.op i k t)) e h) : TAL P N ops J Q (.op i k (.op j .R t)) e h := by
 obtain ⟨a1, a2, a3⟩ := Oper.apart_spec hap
 obtain ⟨o, ho, hd, vj, hvj, p⟩ := p
 rw [hj] at ho; cases ho
 have later : ∀ (vi : Value) (h' : Heap), Ext h h' → h.next ≤ h'.next → TAL P N ops J Q t ((e.put oj.dst vj).put oi.dst vi) h' → TAL P N ops J Q (.op j .R t) (e.put oi.dst vi) h' := by
  intro vi h' hx hn pk
  refine ⟨oj, hj, hd, vj, ?_, pk.eqE (EqE.swap e a2 vj vi)⟩
  rw [qbd a3]
  exact hvj.imp (fun ⟨q1, q2⟩ => ⟨q1, (q2.ext hx hn).congr fun x hx => (qa9 a3 x hx).symm⟩) id
 cases k with
 | P =>
  obtain ⟨o, ho, hdi, vi, hvi, p⟩ := p
  rw [hi] at ho; cases ho
  rw [qbd a1] at hvi
  exact ⟨oi, hi, hdi, vi, hvi.imp (fun ⟨q1, q2⟩ => ⟨q1, q2.congr (qa9 a1)⟩) id, later vi h (aU h) (Aa _) p⟩
 | S =>
  obtain ⟨o, ho, hdi, vi, hvi, p⟩ := p
  rw [hi] at ho; cases ho
  rw [qbd a1] at hvi
  exact ⟨oi, hi, hdi, vi, hvi.imp (fun ⟨q1, q2⟩ => ⟨q1, q2.congr (qa9 a1)⟩) id, later vi h (aU h) (Aa _) p⟩
 | R =>
  obtain ⟨o, ho, hdi, vi, hvi, p⟩ := p
  rw [hi] at ho; cases ho
  rw [qbd a1] at hvi
  exact ⟨oi, hi, hdi, vi, hvi.imp (fun ⟨q1, q2⟩ => ⟨q1, q2.congr (qa9 a1)⟩) id, later vi h (aU h) (Aa _) p⟩
 | X =>
  obtain ⟨o, ho, hdi, hvi⟩ := p
  rw [hi] at ho; cases ho
  rw [qbd a1] at hvi
  refine ⟨oi, hi, hdi, ?_⟩
  exact hvi.imp (fun ⟨q1, q2⟩ => ⟨q1, (q2.congr (qa9 a1)).mono fun v h' hn ⟨k1, k2⟩ => ⟨k1, later v h' k1 hn k2⟩⟩) (fun ⟨q1, q2⟩ => ⟨q1, later skipV h (aU h) (Aa _) q2⟩)
 | W => cases hk
theorem TAL.swapP {i j : Nat} {k : KT} {oi oj : Oper} {t : OT} {e : Env} {h : Heap} (hi : ops[i]? = some oi) (hj : ops[j]? = some oj) (hap : oj.apart ops oi = true)
  (p : TAL P N ops J Q (.op j .P (.op i k t)) e h) : TAL P N ops J Q (.op i k (.op j .P t)) e h := by
 obtain ⟨a1, a2, a3⟩ := Oper.apart_spec hap
 obtain ⟨o, ho, hd, vj, hvj, p⟩ := p
 rw [hj] at ho; cases ho
 have later : ∀ (vi : Value) (h' : Heap), h.next ≤ h'.next → TAL P N ops J Q t ((e.put oj.dst vj).put oi.dst vi) h' → TAL P N ops J Q (.op j .P t) (e.put oi.dst vi) h' := by
  intro vi h' hn pk
  refine ⟨oj, hj, hd, vj, ?_, pk.eqE (EqE.swap e a2 vj vi)⟩
  rw [qbd a3]
  exact hvj.imp (fun ⟨q1, q2⟩ => ⟨q1, fun h2 hn2 => (q2 h2 (Bi hn hn2)).congr fun x hx => (qa9 a3 x hx).symm⟩) id
 cases k with
 | P =>
  obtain ⟨o, ho, hdi, vi, hvi, p⟩ := p
  rw [hi] at ho; cases ho
  rw [qbd a1] at hvi
  exact ⟨oi, hi, hdi, vi, hvi.imp (fun ⟨q1, q2⟩ => ⟨q1, q2.congr (qa9 a1)⟩) id, later vi h (Aa _) p⟩
 | S =>
  obtain ⟨o, ho, hdi, vi, hvi, p⟩ := p
  rw [hi] at ho; cases ho
  rw [qbd a1] at hvi
  exact ⟨oi, hi, hdi, vi, hvi.imp (fun ⟨q1, q2⟩ => ⟨q1, q2.congr (qa9 a1)⟩) id, later vi h (Aa _) p⟩
 | R =>
  obtain ⟨o, ho, hdi, vi, hvi, p⟩ := p
  rw [hi] at ho; cases ho
  rw [qbd a1] at hvi
  exact ⟨oi, hi, hdi, vi, hvi.imp (fun ⟨q1, q2⟩ => ⟨q1, q2.congr (qa9 a1)⟩) id, later vi h (Aa _) p⟩
 | X =>
  obtain ⟨o, ho, hdi, hvi⟩ := p
  rw [hi] at ho; cases ho
  rw [qbd a1] at hvi
  refine ⟨oi, hi, hdi, ?_⟩
  exact hvi.imp (fun ⟨q1, q2⟩ => ⟨q1, (q2.congr (qa9 a1)).mono fun v h' hn ⟨k1, k2⟩ => ⟨k1, later v h' hn k2⟩⟩) (fun ⟨q1, q2⟩ => ⟨q1, later skipV h (Aa _) q2⟩)
 | W =>
  obtain ⟨o, ho, hdi, hvi⟩ := p
  rw [hi] at ho; cases ho
  rw [qbd a1] at hvi
  refine ⟨oi, hi, hdi, ?_⟩
  exact hvi.imp (fun ⟨q1, q2⟩ => ⟨q1, (q2.congr (qa9 a1)).mono fun v h' hn ⟨k1, k2⟩ => ⟨k1, later v h' hn k2⟩⟩) (fun ⟨q1, q2⟩ => ⟨q1, later skipV h (Aa _) q2⟩)
theorem TAL.swapS {i j : Nat} {k : KT} {oi oj : Oper} {t : OT} {e : Env} {h : Heap} (hi : ops[i]? = some oi) (hj : ops[j]? = some oj) (hap : oj.apart ops oi = true)
  (p : TAL P N ops J Q (.op j .S (.op i k t)) e h) : TAL P N ops J Q (.op i k (.op j .S t)) e h := by
 obtain ⟨a1, a2, a3⟩ := Oper.apart_spec hap
 obtain ⟨o, ho, hd, vj, hvj, p⟩ := p
 rw [hj] at ho; cases ho
 have later : ∀ (vi : Value) (h' : Heap), h.next ≤ h'.next → TAL P N ops J Q t ((e.put oj.dst vj).put oi.dst vi) h' → TAL P N ops J Q (.op j .S t) (e.put oi.dst vi) h' := by
  intro vi h' hn pk
  refine ⟨oj, hj, hd, vj, ?_, pk.eqE (EqE.swap e a2 vj vi)⟩
  rw [qbd a3]
  exact hvj.imp (fun ⟨q1, q2⟩ => ⟨q1, fun h2 hn2 hj2 => (q2 h2 (Bi hn hn2) hj2).congr fun x hx => (qa9 a3 x hx).symm⟩) id
 cases k with
 | P =>
  obtain ⟨o, ho, hdi, vi, hvi, p⟩ := p
  rw [hi] at ho; cases ho
  rw [qbd a1] at hvi
  exact ⟨oi, hi, hdi, vi, hvi.imp (fun ⟨q1, q2⟩ => ⟨q1, q2.congr (qa9 a1)⟩) id, later vi h (Aa _) p⟩
 | S =>
  obtain ⟨o, ho, hdi, vi, hvi, p⟩ := p
  rw [hi] at ho; cases ho
  rw [qbd a1] at hvi
  exact ⟨oi, hi, hdi, vi, hvi.imp (fun ⟨q1, q2⟩ => ⟨q1, q2.congr (qa9 a1)⟩) id, later vi h (Aa _) p⟩
 | R =>
  obtain ⟨o, ho, hdi, vi, hvi, p⟩ := p
  rw [hi] at ho; cases ho
  rw [qbd a1] at hvi
  exact ⟨oi, hi, hdi, vi, hvi.imp (fun ⟨q1, q2⟩ => ⟨q1, q2.congr (qa9 a1)⟩) id, later vi h (Aa _) p⟩
 | X =>
  obtain ⟨o, ho, hdi, hvi⟩ := p
  rw [hi] at ho; cases ho
  rw [qbd a1] at hvi
  refine ⟨oi, hi, hdi, ?_⟩
  exact hvi.imp (fun ⟨q1, q2⟩ => ⟨q1, (q2.congr (qa9 a1)).mono fun v h' hn ⟨k1, k2⟩ => ⟨k1, later v h' hn k2⟩⟩) (fun ⟨q1, q2⟩ => ⟨q1, later skipV h (Aa _) q2⟩)
 | W =>
  obtain ⟨o, ho, hdi, hvi⟩ := p
  rw [hi] at ho; cases ho
  rw [qbd a1] at hvi
  refine ⟨oi, hi, hdi, ?_⟩
  exact hvi.imp (fun ⟨q1, q2⟩ => ⟨q1, (q2.congr (qa9 a1)).mono fun v h' hn ⟨k1, k2⟩ => ⟨k1, later v h' hn k2⟩⟩) (fun ⟨q1, q2⟩ => ⟨q1, later skipV h (Aa _) q2⟩)
mutual
def okB (ops : Array Oper) (A : Array Nat) : OT → Bool
 | .nil => true
 | .op i k t => !edgeB ops i i && t.nodes.all (fun q => !Nat.beq i q.1 && pairT ops A (i, k) q) && okB ops A t
 | .alt a b => okA ops A a && okA ops A b && a.ids.all (b.ids.contains ·) && b.ids.all (a.ids.contains ·) && Nat.beq a.ids.length b.ids.length &&
   (a.ids.all fun q => (a.heads ++ b.heads).any fun x => Nat.beq q x || ancB A q x)
def okA (ops : Array Oper) (A : Array Nat) : OT → Bool
 | .nil => false
 | .op i _ t => !edgeB ops i i && t.nodes.all (fun q => !Nat.beq i q.1 && !edgeB ops i q.1) && okB ops A t
 | .alt a b => okA ops A a && okA ops A b && a.ids.all (b.ids.contains ·) && b.ids.all (a.ids.contains ·) && Nat.beq a.ids.length b.ids.length
end
theorem OT.heads_ids {A : Array Nat} : ∀ {t : OT}, okA ops A t = true ∨ okB ops A t = true → ∀ x, x ∈ t.heads → x ∈ t.ids
 | .nil, _, x, hx => by cases hx
 | .op i k t, _, x, hx => by
  simp only [OT.heads, Ax] at hx
  simp [OT.ids, hx]
 | .alt a b, ok, x, hx => by
  have ok' : okA ops A a = true ∧ okA ops A b = true ∧ b.ids.all (a.ids.contains ·) = true := by
   rcases ok with ok | ok
   ·
    simp only [okA, Ae] at ok; exact ⟨ok.1.1.1.1, ok.1.1.1.2, ok.1.2⟩
   ·
    simp only [okB, Ae] at ok; exact ⟨ok.1.1.1.1.1, ok.1.1.1.1.2, ok.1.1.2⟩
  rcases Bh.1 hx with h | h
  ·
   exact OT.heads_ids (.inl ok'.1) x h
  ·
   have := OT.heads_ids (.inl ok'.2.1) x h
   have q := Ai.1 ok'.2.2 x this
   show x ∈ a.ids
   simpa using q
theorem OT.ids_nodes {A : Array Nat} : ∀ {t : OT}, okA ops A t = true ∨ okB ops A t = true → ∀ x, x ∈ t.ids ↔ ∃ k, (x, k) ∈ t.nodes
 | .nil, _, x => by simp [OT.ids, OT.nodes]
 | .op i k t, ok, x => by
  have ok' : okB ops A t = true := by
   rcases ok with ok | ok
   ·
    simp only [okA, Ae] at ok; exact ok.2
   ·
    simp only [okB, Ae] at ok; exact ok.2
  have ih := OT.ids_nodes (.inr ok') x
  simp only [OT.ids, OT.nodes, Ak, ih]
  constructor
  ·
   rintro (rfl | ⟨k', h⟩)
   ·
    exact ⟨k, .inl rfl⟩
   ·
    exact ⟨k', .inr h⟩
  ·
   rintro ⟨k', h | h⟩
   ·
    cases h; exact .inl rfl
   ·
    exact .inr ⟨k', h⟩
 | .alt a b, ok, x => by
  have ok' : okA ops A a = true ∧ okA ops A b = true ∧ b.ids.all (a.ids.contains ·) = true := by
   rcases ok with ok | ok
   ·
    simp only [okA, Ae] at ok; exact ⟨ok.1.1.1.1, ok.1.1.1.2, ok.1.2⟩
   ·
    simp only [okB, Ae] at ok; exact ⟨ok.1.1.1.1.1, ok.1.1.1.1.2, ok.1.1.2⟩
  have ia := OT.ids_nodes (.inl ok'.1) x
  have ib := OT.ids_nodes (.inl ok'.2.1) x
  have hba : x ∈ b.ids → x ∈ a.ids := fun h => by simpa using Ai.1 ok'.2.2 x h
  simp only [OT.ids, OT.nodes, Bh]
  constructor
  ·
   intro h
   obtain ⟨k, hk⟩ := ia.1 h
   exact ⟨k, .inl hk⟩
  ·
   rintro ⟨k, h | h⟩
   ·
    exact ia.2 ⟨k, h⟩
   ·
    exact hba (ib.2 ⟨k, h⟩)
abbrev cO := @OT.ids_nodes
def Left (P : Program) (N : Nat) (ops : Array Oper) (J : Heap → Prop) (A : Array Nat) (Q : Exit → Env → Heap → Prop) (i : Nat) (ids : List Nat) (nodes : List (Nat × KT)) (e : Env) (h : Heap) : Prop :=
 ∃ k t, okB ops A t = true ∧ (∀ j, j ∈ t.ids ↔ j ∈ ids ∧ j ≠ i) ∧ t.ids.length + 1 = ids.length ∧ (i, k) ∈ nodes ∧ (∀ q ∈ t.nodes, q ∈ nodes) ∧ TAL P N ops J Q (.op i k t) e h
theorem OT.head_front {A : Array Nat} {i : Nat} : ∀ {t : OT} {e : Env} {h : Heap}, okA ops A t = true → i ∈ t.heads → TAL P N ops J Q t e h → Left P N ops J A Q i t.ids t.nodes e h
 | .nil, _, _, ok, _, _ => by simp [okA] at ok
 | .op j k t, e, h, ok, hi, p => by
  simp only [okA, Ae] at ok
  simp only [OT.heads, Ax] at hi
  subst hi
  refine ⟨k, t, ok.2, fun j => ?_, by simp [OT.ids], by simp [OT.nodes], fun q hq => by simp [OT.nodes, hq], p⟩
  simp only [OT.ids, Ak]
  constructor
  ·
   intro hj
   refine ⟨.inr hj, fun he => ?_⟩
   subst he
   obtain ⟨kk, hk⟩ := (cO (.inr ok.2) j).1 hj
   have := Ai.1 ok.1.2 _ hk
   simp at this
  ·
   rintro ⟨h1 | h1, h2⟩
   ·
    exact absurd h1 h2
   ·
    exact h1
 | .alt a b, e, h, ok, hi, ⟨p1, p2⟩ => by
  simp only [okA, Ae, Nat.beq_eq] at ok
  obtain ⟨⟨⟨⟨o1, o2⟩, o3⟩, o4⟩, o5⟩ := ok
  rcases Bh.1 hi with hi | hi
  ·
   obtain ⟨k, t, h1, h2, h3, h4, h5, h6⟩ := OT.head_front o1 hi p1
   exact ⟨k, t, h1, h2, h3, by simp [OT.nodes, h4], fun q hq => by simp [OT.nodes, h5 q hq], h6⟩
  ·
   obtain ⟨k, t, h1, h2, h3, h4, h5, h6⟩ := OT.head_front o2 hi p2
   refine ⟨k, t, h1, fun j => ?_, by simp only [OT.ids]; omega, by simp [OT.nodes, h4], fun q hq => by simp [OT.nodes, h5 q hq], h6⟩
   rw [h2]
   have q1 : j ∈ b.ids → j ∈ a.ids := fun h => by simpa using Ai.1 o4 j h
   have q2 : j ∈ a.ids → j ∈ b.ids := fun h => by simpa using Ai.1 o3 j h
   exact ⟨fun ⟨x, y⟩ => ⟨q1 x, y⟩, fun ⟨x, y⟩ => ⟨q2 x, y⟩⟩
theorem okB_op {A : Array Nat} {j : Nat} {kj : KT} {t t' : OT} (ok : okB ops A (.op j kj t) = true) (hs : ∀ q ∈ t'.nodes, q ∈ t.nodes) (ok' : okB ops A t' = true) : okB ops A (.op j kj t') = true := by
 simp only [okB, Ae] at ok ⊢
 exact ⟨⟨ok.1.1, Ai.2 fun q hq => Ai.1 ok.1.2 q (hs q hq)⟩, ok'⟩
theorem OT.front {A : Array Nat} {i : Nat} {oi : Oper} (hi : ops[i]? = some oi) : ∀ {t : OT} {e : Env} {h : Heap}, okB ops A t = true → i ∈ t.ids → (∀ j, j ∈ t.ids → ancB A i j = false) → TAL P N ops J Q t e h → Left P N ops J A Q i t.ids t.nodes e h
 | .nil, _, _, _, hm, _, _ => by cases hm
 | .op j kj t, e, h, ok, hm, ha, p => by
  have ok0 := ok
  simp only [okB, Ae] at ok
  obtain ⟨⟨o1, o2⟩, o3⟩ := ok
  have hne : ∀ x, x ∈ t.ids → x ≠ j := by
   intro x hx he
   subst he
   obtain ⟨kk, hk⟩ := (cO (.inr o3) x).1 hx
   have := Ai.1 o2 _ hk
   simp at this
  by_cases hji : j = i
  ·
   subst hji
   refine ⟨kj, t, o3, fun x => ?_, by simp [OT.ids], by simp [OT.nodes], fun q hq => by simp [OT.nodes, hq], p⟩
   simp only [OT.ids, Ak]
   constructor
   ·
    intro hx; exact ⟨.inr hx, hne x hx⟩
   ·
    rintro ⟨h1 | h1, h2⟩
    ·
     exact absurd h1 h2
    ·
     exact h1
  ·
   have hit : i ∈ t.ids := by
    simp only [OT.ids, Ak] at hm
    rcases hm with h1 | h1
    ·
     exact absurd h1.symm hji
    ·
     exact h1
   have hj0 := ha j (by simp [OT.ids])
   have hpair : ∀ k, (i, k) ∈ t.nodes → (kj = .P ∨ kj = .S ∨ (kj = .R ∧ ktW k = false)) ∧ ∃ oj, ops[j]? = some oj ∧ oj.apart ops oi = true := by
    intro k hk
    have h1 := Ai.1 o2 _ hk
    simp only [pairT, Ae, Cw, Cm, Cf, hj0, Bk, false_or] at h1
    obtain ⟨_, _, u3, u5⟩ := h1
    refine ⟨?_, ?_⟩
    ·
     rcases u3 with u3 | ⟨u3, u4⟩
     ·
      cases kj with
      | P => exact .inl rfl
      | S => exact .inr (.inl rfl)
      | _ => cases u3
     ·
      cases kj with
      | R => exact .inr (.inr ⟨rfl, u4⟩)
      | _ => cases u3
    ·
     unfold apartB at u5
     rw [hi] at u5
     cases hoj : ops[j]? with
     | none => rw [hoj] at u5; cases u5
     | some oj => rw [hoj] at u5; exact ⟨oj, rfl, u5⟩
   obtain ⟨k0, hk0⟩ := (cO (.inr o3) i).1 hit
   have fin : ∃ k t', okB ops A t' = true ∧ (∀ j, j ∈ t'.ids ↔ j ∈ t.ids ∧ j ≠ i) ∧ t'.ids.length + 1 = t.ids.length ∧ (i, k) ∈ t.nodes ∧ (∀ q ∈ t'.nodes, q ∈ t.nodes) ∧ TAL P N ops J Q (.op i k (.op j kj t')) e h := by
    rcases (hpair k0 hk0).1 with rfl | rfl | ⟨rfl, _⟩
    ·
     obtain ⟨o, ho, hd, v, hv, p⟩ := p
     obtain ⟨k, t', h1, h2, h3, h4, h5, h6⟩ := OT.front hi o3 hit (fun x hx => ha x (by simp [OT.ids, hx])) p
     obtain ⟨_, oj, hoj, hap⟩ := hpair k h4
     exact ⟨k, t', h1, h2, h3, h4, h5, TAL.swapP hi hoj hap ⟨o, ho, hd, v, hv, h6⟩⟩
    ·
     obtain ⟨o, ho, hd, v, hv, p⟩ := p
     obtain ⟨k, t', h1, h2, h3, h4, h5, h6⟩ := OT.front hi o3 hit (fun x hx => ha x (by simp [OT.ids, hx])) p
     obtain ⟨_, oj, hoj, hap⟩ := hpair k h4
     exact ⟨k, t', h1, h2, h3, h4, h5, TAL.swapS hi hoj hap ⟨o, ho, hd, v, hv, h6⟩⟩
    ·
     obtain ⟨o, ho, hd, v, hv, p⟩ := p
     obtain ⟨k, t', h1, h2, h3, h4, h5, h6⟩ := OT.front hi o3 hit (fun x hx => ha x (by simp [OT.ids, hx])) p
     obtain ⟨hkw, oj, hoj, hap⟩ := hpair k h4
     have hkw : ktW k = false := by
      rcases hkw with h | h | h
      ·
       cases h
      ·
       cases h
      ·
       exact h.2
     exact ⟨k, t', h1, h2, h3, h4, h5, TAL.swap hi hoj hap hkw ⟨o, ho, hd, v, hv, h6⟩⟩
   obtain ⟨k, t', h1, h2, h3, h4, h5, h6⟩ := fin
   refine ⟨k, .op j kj t', okB_op ok0 h5 h1, fun x => ?_, by simp only [OT.ids, Ad]; omega, by simp [OT.nodes, h4], fun q hq => ?_, h6⟩
   ·
    simp only [OT.ids, Ak, h2]
    constructor
    ·
     rintro (rfl | ⟨q1, q2⟩)
     ·
      exact ⟨.inl rfl, hji⟩
     ·
      exact ⟨.inr q1, q2⟩
    ·
     rintro ⟨rfl | q1, q2⟩
     ·
      exact .inl rfl
     ·
      exact .inr ⟨q1, q2⟩
   ·
    simp only [OT.nodes, Ak] at hq ⊢
    rcases hq with hq | hq
    ·
     exact .inl hq
    ·
     exact .inr (h5 q hq)
 | .alt a b, e, h, ok, hm, ha, ⟨p1, p2⟩ => by
  have ok0 := ok
  simp only [okB, Ae, Nat.beq_eq] at ok
  obtain ⟨⟨⟨⟨⟨o1, o2⟩, o3⟩, o4⟩, o5⟩, o6⟩ := ok
  have hh : i ∈ a.heads ++ b.heads := by
   obtain ⟨x, hx, hx2⟩ := Cz.1 (Ai.1 o6 i hm)
   rw [Cw] at hx2
   rcases hx2 with e1 | e1
   ·
    rw [Bz e1]; exact hx
   ·
    have := ha x (OT.heads_ids (ops := ops) (A := A) (t := .alt a b) (.inr ok0) x hx)
    rw [this] at e1; cases e1
  rcases Bh.1 hh with hi' | hi'
  ·
   obtain ⟨k, t, h1, h2, h3, h4, h5, h6⟩ := OT.head_front o1 hi' p1
   exact ⟨k, t, h1, h2, h3, by simp [OT.nodes, h4], fun q hq => by simp [OT.nodes, h5 q hq], h6⟩
  ·
   obtain ⟨k, t, h1, h2, h3, h4, h5, h6⟩ := OT.head_front o2 hi' p2
   refine ⟨k, t, h1, fun j => ?_, by simp only [OT.ids]; omega, by simp [OT.nodes, h4], fun q hq => by simp [OT.nodes, h5 q hq], h6⟩
   rw [h2]
   have q1 : j ∈ b.ids → j ∈ a.ids := fun h => by simpa using Ai.1 o4 j h
   have q2 : j ∈ a.ids → j ∈ b.ids := fun h => by simpa using Ai.1 o3 j h
   exact ⟨fun ⟨x, y⟩ => ⟨q1 x, y⟩, fun ⟨x, y⟩ => ⟨q2 x, y⟩⟩
theorem OT.first {A : Array Nat} : ∀ {t : OT}, okA ops A t = true ∨ okB ops A t = true → t.ids ≠ [] → ∃ i, i ∈ t.ids ∧ ∀ j, j ∈ t.ids → edgeB ops i j = false
 | .nil, _, hn => absurd rfl hn
 | .op i k t, ok, _ => by
  refine ⟨i, by simp [OT.ids], fun j hj => ?_⟩
  have ok' : okB ops A t = true := by
   rcases ok with ok | ok
   ·
    simp only [okA, Ae] at ok; exact ok.2
   ·
    simp only [okB, Ae] at ok; exact ok.2
  simp only [OT.ids, Ak] at hj
  rcases hj with rfl | hj
  ·
   rcases ok with ok | ok
   ·
    simp only [okA, Ae] at ok; simpa using ok.1.1
   ·
    simp only [okB, Ae] at ok; simpa using ok.1.1
  ·
   obtain ⟨kk, hk⟩ := (cO (.inr ok') j).1 hj
   rcases ok with ok | ok
   ·
    simp only [okA, Ae] at ok
    have := Ai.1 ok.1.2 _ hk
    simp only [Ae] at this
    simpa using this.2
   ·
    simp only [okB, Ae] at ok
    have := Ai.1 ok.1.2 _ hk
    simp only [Ae, pairT] at this
    simpa using this.2.1
 | .alt a b, ok, hn => by
  have ok' : okA ops A a = true := by
   rcases ok with ok | ok
   ·
    simp only [okA, Ae] at ok; exact ok.1.1.1.1
   ·
    simp only [okB, Ae] at ok; exact ok.1.1.1.1.1
  exact OT.first (t := a) (.inl ok') hn
def treeB (ops : Array Oper) (t : OT) : Bool :=
 let A := Region.before ops
 Nat.beq t.ids.length ops.size && (List.range ops.size).all (fun i => t.ids.any fun p => Nat.beq p i) && t.ids.all (fun p => Nat.blt p ops.size) && A.all (fun x => Nat.blt x (2 ^ ops.size)) && rangeB ops && okB ops A t && closeB ops A
theorem any_tree (hJ : ∀ h h', J h → Ext h h' → J h') (A : Array Nat) (hr : rangeB ops = true) (hc : closeB ops A = true) (hA : ∀ i j, ancB A i j = true → j < ops.size) : ∀ (n : Nat) (t : OT) (L : Array Bool) (env : Env) (h : Heap) (φ : Ren) (a : Act) (w : World), t.ids.length = n → L.size = ops.size →
  (∀ i, i < ops.size → (L.getD i true = false ↔ i ∈ t.ids)) → (∀ s ∈ t.ids, s < ops.size) → (∀ i j, L.getD i false = true → ancB A i j = true → L.getD j false = true) → okB ops A t = true →
  a.defers = [] → Rel P N φ env h a.tmps w → J h → TAL P N ops J Q t env h → wpAny P .any ops (fun ex a' w' => Post P N φ h w (Q ex) a' w') n L a w := by
 intro n
 induction n with
 | zero =>
  intro t L env h φ a w hn hL hmem _ _ ok hd r _ p
  have hnil : t.ids = [] := Bu hn
  have ht : Post P N φ h w (Q .normal) a w := by
   have key : ∀ (t : OT), okA ops A t = true ∨ okB ops A t = true → t.ids = [] → TAL P N ops J Q t env h → Post P N φ h w (Q .normal) a w := by
    intro t
    induction t with
    | nil => intro _ _ p; exact p φ a w hd r
    | op i k t _ => intro _ e _; simp [OT.ids] at e
    | alt x y ihx _ =>
     intro ok e p
     refine ihx (.inl ?_) e p.1
     rcases ok with ok | ok
     ·
      simp only [okA, Ae] at ok; exact ok.1.1.1.1
     ·
      simp only [okB, Ae] at ok; exact ok.1.1.1.1.1
   exact key t (.inr ok) hnil p
  refine ⟨?_, ht⟩
  apply Dh.2
  intro i hi
  obtain ⟨h1, o, h2, _⟩ := mem_ready.1 hi
  have hlt : i < ops.size := (Az.1 h2).1
  have := (hmem i hlt).1 h1
  rw [hnil] at this
  cases this
 | succ n ih =>
  intro t L env h φ a w hn hL hmem hlt hclo ok hd r hj p
  have hin : ∀ j, j < ops.size → ¬ j ∈ t.ids → L.getD j false = true := by
   intro j hj hno
   cases hq : L.getD j true with
   | false => exact absurd ((hmem j hj).1 hq) hno
   | true =>
    have hjl : j < L.size := by omega
    simp only [Am, Ar hjl, Bj] at hq ⊢
    exact hq
  have hrange : ∀ (i : Nat) (o : Oper), ops[i]? = some o → ∀ e ∈ o.after, Region.binds .any e = true → e.on < ops.size := by
   intro i o ho e he hb
   have h1 := Be.1 hr o (By ho)
   have h2 := Be.1 h1 e he
   simp only [hb, Cf, Do] at h2
   simpa [Nat.blt_eq] using h2
  refine ⟨fun hnil => ?_, fun i hi => ?_⟩
  ·
   exfalso
   obtain ⟨i0, hi0, hfree⟩ := OT.first (.inr ok) (by intro e; rw [e] at hn; simp at hn)
   have hi0' := hlt i0 hi0
   have ho0 : ops[i0]? = some ops[i0] := Ar hi0'
   have : i0 ∈ Region.ready .any ops L := by
    refine mem_ready.2 ⟨(hmem i0 hi0').2 hi0, ops[i0], ho0, fun e he hb => ?_⟩
    have hedge : edgeB ops i0 e.on = true := (qbG ho0).2 ⟨e, he, hb, rfl⟩
    refine hin e.on (hrange i0 _ ho0 e he hb) fun hmm => ?_
    rw [hfree e.on hmm] at hedge; cases hedge
   rw [hnil] at this
   cases this
  ·
   obtain ⟨hi1, o, ho, hedges⟩ := mem_ready.1 hi
   have hilt : i < ops.size := (Az.1 ho).1
   have him := (hmem i hilt).1 hi1
   have hanc : ∀ j, ancB A i j = true → L.getD j false = true := by
    intro j hj
    have hjl := hA i j hj
    have h1 := Ai.1 (Ai.1 hc i (Cl.2 hilt)) j (Cl.2 hjl)
    simp only [hj, Cf, Do, Cw, Cz, Ae] at h1
    rcases h1 with h1 | ⟨m, _, h2, h3⟩
    ·
     obtain ⟨e, he, hb, rfl⟩ := (qbG ho).1 h1
     exact hedges e he hb
    ·
     obtain ⟨e, he, hb, rfl⟩ := (qbG ho).1 h2
     exact hclo _ j (hedges e he hb) h3
   have hfree : ∀ j, j ∈ t.ids → ancB A i j = false := by
    intro j hj
    cases hq : ancB A i j with
    | false => rfl
    | true =>
     exfalso
     have h1 := hanc j hq
     have hjl := hlt j hj
     have h2 := (hmem j hjl).2 hj
     have hjl' : j < L.size := by omega
     simp only [Am, Ar hjl', Bj] at h1 h2
     rw [h1] at h2; cases h2
   obtain ⟨k, t', q1, q2, q3, _, _, pf⟩ := OT.front ho ok him hfree p
   have hL' : (L.setIfInBounds i true).size = ops.size := by simp [hL]
   have hlen' : t'.ids.length = n := by omega
   have hmem' : ∀ j, j < ops.size → ((L.setIfInBounds i true).getD j true = false ↔ j ∈ t'.ids) := by
    intro j hj
    rw [q2]
    by_cases hji : i = j
    ·
     subst hji
     have : (L.setIfInBounds i true).getD i true = true := by
      simp [Array.getD_eq_getD_getElem?]
     rw [this]
     simp
    ·
     rw [getD_set_ne _ hji, hmem j hj]
     exact ⟨fun x => ⟨x, fun e => hji e.symm⟩, fun x => x.1⟩
   have hlt' : ∀ s ∈ t'.ids, s < ops.size := fun s hs => hlt s ((q2 s).1 hs).1
   have hclo' : ∀ x y, (L.setIfInBounds i true).getD x false = true → ancB A x y = true → (L.setIfInBounds i true).getD y false = true := by
    intro x y hx hxy
    refine getD_set_true ?_
    by_cases hxi : i = x
    ·
     subst hxi; exact hanc y hxy
    ·
     rw [getD_set_ne _ hxi] at hx
     exact hclo x y hx hxy
   have go : ∀ (φ' : Ren) (env' : Env) (h' : Heap) (a' : Act) (w' : World), a'.defers = [] → Rel P N φ' env' h' a'.tmps w' → Step φ h w φ' h' w' → J h' → TAL P N ops J Q t' env' h' →
     wpAny P .any ops (fun ex a2 w2 => Post P N φ h w (Q ex) a2 w2) n (L.setIfInBounds i true) a' w' := by
    intro φ' env' h' a' w' hd' r' st hj' p'
    exact qbJ (fun _ _ _ hp => hp.trans st) _ _ _ _ (ih t' _ env' h' φ' a' w' hlen' hL' hmem' hlt' hclo' q1 hd' r' hj' p')
   have run : ∀ (K : Value → Heap → Prop), dstB N o.dst = true → gv ops env o = some true → AOp P o (ev P env) h K → (∀ v h', K v h' → J h' ∧ TAL P N ops J Q t' (env.put o.dst v) h') →
     wpOp P ops (fun ex a2 w2 => Post P N φ h w (Q ex) a2 w2) i (wpAny P .any ops (fun ex a2 w2 => Post P N φ h w (Q ex) a2 w2) n (L.setIfInBounds i true)) a w := by
    intro K hdst hg hop hk
    simp only [wpOp, ho, qbk r hg, if_true]
    refine .inl (hop φ a w ⟨r.sim, fun x _ => r.ev x⟩ _ _ fun c w' φ' h' v kv vr s st => ?_)
    exact go φ' _ h' _ w' (by rw [qa6]; exact hd) ((r.step s st).put o.dst (qbX hdst) vr) st (hk v h' kv).1 (hk v h' kv).2
   have skip : dstB N o.dst = true → gv ops env o = some false → TAL P N ops J Q t' (env.put o.dst skipV) h →
     wpOp P ops (fun ex a2 w2 => Post P N φ h w (Q ex) a2 w2) i (wpAny P .any ops (fun ex a2 w2 => Post P N φ h w (Q ex) a2 w2) n (L.setIfInBounds i true)) a w := by
    intro hdst hg hk
    simp only [wpOp, ho, qbk r hg, Bk, if_false]
    exact go φ _ h _ w (by rw [qa6]; exact hd) (r.put o.dst (qbX hdst) .skip) (Step.refl _ _ _) hj hk
   cases k with
   | P =>
    obtain ⟨o', ho', hdst, v, hv, pk⟩ := pf
    rw [ho] at ho'; cases ho'
    rcases hv with ⟨g1, g2⟩ | ⟨g1, rfl⟩
    ·
     exact run _ hdst g1 (g2 h (Aa _)) fun v' h' ⟨e1, e2⟩ => by subst e1 e2; exact ⟨hj, pk⟩
    ·
     exact skip hdst g1 pk
   | S =>
    obtain ⟨o', ho', hdst, v, hv, pk⟩ := pf
    rw [ho] at ho'; cases ho'
    rcases hv with ⟨g1, g2⟩ | ⟨g1, rfl⟩
    ·
     exact run _ hdst g1 (g2 h (Aa _) hj) fun v' h' ⟨e1, e2⟩ => by subst e1 e2; exact ⟨hj, pk⟩
    ·
     exact skip hdst g1 pk
   | R =>
    obtain ⟨o', ho', hdst, v, hv, pk⟩ := pf
    rw [ho] at ho'; cases ho'
    rcases hv with ⟨g1, g2⟩ | ⟨g1, rfl⟩
    ·
     exact run _ hdst g1 (g2 h (aU h) (Aa _)) fun v' h' ⟨e1, e2⟩ => by subst e1 e2; exact ⟨hj, pk⟩
    ·
     exact skip hdst g1 pk
   | X =>
    obtain ⟨o', ho', hdst, hv⟩ := pf
    rw [ho] at ho'; cases ho'
    rcases hv with ⟨g1, g2⟩ | ⟨g1, g2⟩
    ·
     exact run _ hdst g1 g2 fun v' h' ⟨e1, e2⟩ => ⟨hJ _ _ hj e1, e2⟩
    ·
     exact skip hdst g1 g2
   | W =>
    obtain ⟨o', ho', hdst, hv⟩ := pf
    rw [ho] at ho'; cases ho'
    rcases hv with ⟨g1, g2⟩ | ⟨g1, g2⟩
    ·
     exact run _ hdst g1 g2 fun v' h' e2 => e2
    ·
     exact skip hdst g1 g2
theorem AWp.treeJ (J : Heap → Prop) (hJ : ∀ h h', J h → Ext h h' → J h') {id : Nat} {t : OT} {env : Env} {h : Heap} (hm : P.follows .mixedOrders = true) (hb : treeB ops t = true) (hj : J h) (p : TAL P N ops J Q t env h) : AWp P N (.region id ops true) Q env h := by
 intro φ a w hd r
 simp only [treeB, Ae] at hb
 obtain ⟨⟨⟨⟨⟨⟨b1, b2⟩, b3⟩, b4⟩, b5⟩, b6⟩, b7⟩ := hb
 have b1' : t.ids.length = ops.size := Bz b1
 refine wp_region_any hm ?_
 have r' : Rel P N φ env h a.tmps w.drew := ⟨r.sim.drew, r.size, r.env⟩
 refine qbJ (fun _ _ _ hp => hp.trans Step.drew) _ _ _ _ (any_tree hJ (Region.before ops) b5 b7 ?_ ops.size t (Array.replicate ops.size false) env h φ a w.drew b1' (by simp) ?_ ?_ ?_ b6 hd r' hj p)
 ·
  intro i j hij
  unfold ancB at hij
  rcases Bx j ops.size with hl | hl
  ·
   exact hl
  ·
   exfalso
   have hx : (Region.before ops).getD i 0 < 2 ^ ops.size := by
    rcases Bx i (Region.before ops).size with h1 | h1
    ·
     have := Be.1 b4 ((Region.before ops)[i]) (by simp)
     rw [Am, Ar h1]
     simpa [Nat.blt_eq] using this
    ·
     rw [Am, Cq h1]
     exact Nat.two_pow_pos _
   have := Nat.testBit_lt_two_pow (Co hx (Dv (by omega) hl))
   rw [this] at hij
   cases hij
 ·
  intro i hi
  have h1 : (Array.replicate ops.size false).getD i true = false := by
   simp [Array.getD_eq_getD_getElem?, hi]
  rw [h1]
  simp only [true_iff]
  have := Ai.1 b2 i (Cl.2 hi)
  obtain ⟨j, h2, h3⟩ := Cz.1 this
  have : j = i := Bz h3
  subst this
  exact h2
 ·
  intro s hs
  simpa [Nat.blt_eq] using Ai.1 b3 s hs
 ·
  intro i j hi
  exfalso
  by_cases hl : i < ops.size
  ·
   simp [Array.getD_eq_getD_getElem?, hl] at hi
  ·
   simp [Array.getD_eq_getD_getElem?, hl] at hi
abbrev bO := @AWp.treeJ
theorem AWp.tree {id : Nat} {t : OT} {env : Env} {h : Heap} (hm : P.follows .mixedOrders = true) (hb : treeB ops t = true) (p : TAL P N ops (fun _ => True) Q t env h) : AWp P N (.region id ops true) Q env h :=
 bO (fun _ => True) (fun _ _ _ _ => trivial) hm hb trivial p
abbrev cD := @AWp.tree
variable {i : Nat} {t : OT} {env : Env} {h : Heap} {d : Tmp} {op : Op} {ty : TypeId} {pos : String} {aft : Array Edge} {g : Option (Nat × Bool)}
theorem TAL.r {v : Value} (ho : ops[i]? = some ⟨some d, op, ty, pos, aft, g⟩) (hd : Nat.blt d N = true) (hg : gv ops env ⟨some d, op, ty, pos, aft, g⟩ = some true) (hv : ∀ h', Ext h h' → h.next ≤ h'.next → AOp P ⟨some d, op, ty, pos, aft, g⟩ (ev P env) h' fun v' h'' => v' = v ∧ h'' = h')
  (k : TAL P N ops J Q t ((d, v) :: env) h) : TAL P N ops J Q (.op i .R t) env h := ⟨_, ho, hd, v, .inl ⟨hg, hv⟩, k⟩
theorem tr {v : Value} (ho : ops[i]? = some ⟨some d, op, ty, pos, aft, g⟩) (hb : sB N ops env d ⟨some d, op, ty, pos, aft, g⟩ = true) (hv : ∀ h', Ext h h' → h.next ≤ h'.next → AOp P ⟨some d, op, ty, pos, aft, g⟩ (ev P env) h' fun v' h'' => v' = v ∧ h'' = h')
  (k : TAL P N ops J Q t ((d, v) :: env) h) : TAL P N ops J Q (.op i .R t) env h := TAL.r ho (sB_1 hb) (sB_2 hb) hv k
theorem TAL.p {v : Value} (ho : ops[i]? = some ⟨some d, op, ty, pos, aft, g⟩) (hd : Nat.blt d N = true) (hg : gv ops env ⟨some d, op, ty, pos, aft, g⟩ = some true) (hv : ∀ h', h.next ≤ h'.next → AOp P ⟨some d, op, ty, pos, aft, g⟩ (ev P env) h' fun v' h'' => v' = v ∧ h'' = h')
  (k : TAL P N ops J Q t ((d, v) :: env) h) : TAL P N ops J Q (.op i .P t) env h := ⟨_, ho, hd, v, .inl ⟨hg, hv⟩, k⟩
theorem tp {v : Value} (ho : ops[i]? = some ⟨some d, op, ty, pos, aft, g⟩) (hb : sB N ops env d ⟨some d, op, ty, pos, aft, g⟩ = true) (hv : ∀ h', h.next ≤ h'.next → AOp P ⟨some d, op, ty, pos, aft, g⟩ (ev P env) h' fun v' h'' => v' = v ∧ h'' = h')
  (k : TAL P N ops J Q t ((d, v) :: env) h) : TAL P N ops J Q (.op i .P t) env h := TAL.p ho (sB_1 hb) (sB_2 hb) hv k
theorem TAL.skip {kd : KT} (ho : ops[i]? = some ⟨some d, op, ty, pos, aft, g⟩) (hd : Nat.blt d N = true) (hg : gv ops env ⟨some d, op, ty, pos, aft, g⟩ = some false)
  (k : TAL P N ops J Q t ((d, skipV) :: env) h) : TAL P N ops J Q (.op i kd t) env h := by
 cases kd
 ·
  exact ⟨_, ho, hd, skipV, .inr ⟨hg, rfl⟩, k⟩
 ·
  exact ⟨_, ho, hd, skipV, .inr ⟨hg, rfl⟩, k⟩
 ·
  exact ⟨_, ho, hd, skipV, .inr ⟨hg, rfl⟩, k⟩
 ·
  exact ⟨_, ho, hd, .inr ⟨hg, k⟩⟩
 ·
  exact ⟨_, ho, hd, .inr ⟨hg, k⟩⟩
abbrev cY := @TAL.skip
theorem TAL.x (ho : ops[i]? = some ⟨some d, op, ty, pos, aft, g⟩) (hd : Nat.blt d N = true) (hg : gv ops env ⟨some d, op, ty, pos, aft, g⟩ = some true) (hv : AOp P ⟨some d, op, ty, pos, aft, g⟩ (ev P env) h fun v h' => Ext h h' ∧ TAL P N ops J Q t ((d, v) :: env) h') :
  TAL P N ops J Q (.op i .X t) env h := ⟨_, ho, hd, .inl ⟨hg, hv⟩⟩
abbrev cW := @TAL.x
theorem TAL.s {v : Value} (ho : ops[i]? = some ⟨some d, op, ty, pos, aft, g⟩) (hd : Nat.blt d N = true) (hg : gv ops env ⟨some d, op, ty, pos, aft, g⟩ = some true) (hv : ∀ h', h.next ≤ h'.next → J h' → AOp P ⟨some d, op, ty, pos, aft, g⟩ (ev P env) h' fun v' h'' => v' = v ∧ h'' = h')
  (k : TAL P N ops J Q t ((d, v) :: env) h) : TAL P N ops J Q (.op i .S t) env h := ⟨_, ho, hd, v, .inl ⟨hg, hv⟩, k⟩
abbrev cJ := @TAL.s
theorem TAL.wj (ho : ops[i]? = some ⟨some d, op, ty, pos, aft, g⟩) (hd : Nat.blt d N = true) (hg : gv ops env ⟨some d, op, ty, pos, aft, g⟩ = some true) (hv : AOp P ⟨some d, op, ty, pos, aft, g⟩ (ev P env) h fun v h' => J h' ∧ TAL P N ops J Q t ((d, v) :: env) h') :
  TAL P N ops J Q (.op i .W t) env h := ⟨_, ho, hd, .inl ⟨hg, hv⟩⟩
theorem TAL.wj0 (ho : ops[i]? = some ⟨none, op, ty, pos, aft, g⟩) (hg : gv ops env ⟨none, op, ty, pos, aft, g⟩ = some true) (hv : AOp P ⟨none, op, ty, pos, aft, g⟩ (ev P env) h fun _ h' => J h' ∧ TAL P N ops J Q t env h') :
  TAL P N ops J Q (.op i .W t) env h := ⟨_, ho, rfl, .inl ⟨hg, hv⟩⟩
abbrev bH := @TAL.wj0
theorem TAL.w (ho : ops[i]? = some ⟨some d, op, ty, pos, aft, g⟩) (hd : Nat.blt d N = true) (hg : gv ops env ⟨some d, op, ty, pos, aft, g⟩ = some true) (hv : AOp P ⟨some d, op, ty, pos, aft, g⟩ (ev P env) h fun v h' => TAL P N ops (fun _ => True) Q t ((d, v) :: env) h') :
  TAL P N ops (fun _ => True) Q (.op i .W t) env h := ⟨_, ho, hd, .inl ⟨hg, hv.mono fun _ _ _ k => ⟨trivial, k⟩⟩⟩
theorem TAL.w0 (ho : ops[i]? = some ⟨none, op, ty, pos, aft, g⟩) (hg : gv ops env ⟨none, op, ty, pos, aft, g⟩ = some true) (hv : AOp P ⟨none, op, ty, pos, aft, g⟩ (ev P env) h fun _ h' => TAL P N ops (fun _ => True) Q t env h') :
  TAL P N ops (fun _ => True) Q (.op i .W t) env h := ⟨_, ho, rfl, .inl ⟨hg, hv.mono fun _ _ _ k => ⟨trivial, k⟩⟩⟩
abbrev dG := @TAL.w0
theorem TAL.two {a b : OT} (k1 : TAL P N ops J Q a env h) (k2 : TAL P N ops J Q b env h) : TAL P N ops J Q (.alt a b) env h := ⟨k1, k2⟩
theorem TAL.nil (k : Q .normal env h) : TAL P N ops J Q .nil env h := fun _ _ _ hd r => Post.now k hd r
abbrev bD := @TAL.nil
end
section
variable {P : Program} {N : Nat} {ops : Array Oper} {J : Heap → Prop} {Q : Exit → Env → Heap → Prop} {i : Nat} {t : OT} {env : Env} {h : Heap} {d : Tmp} {op : Op} {ty : TypeId} {pos : String} {aft : Array Edge} {g : Option (Nat × Bool)}
theorem TAL.rB {b : Bool} (ho : ops[i]? = some ⟨some d, op, ty, pos, aft, g⟩) (hd : Nat.blt d N = true) (hg : gv ops env ⟨some d, op, ty, pos, aft, g⟩ = some true) (hv : ∀ h', Ext h h' → h.next ≤ h'.next → AOp P ⟨some d, op, ty, pos, aft, g⟩ (ev P env) h' fun v' h'' => v' = .bool b ∧ h'' = h')
  (kt : b = true → TAL P N ops J Q t ((d, .bool true) :: env) h) (kf : b = false → TAL P N ops J Q t ((d, .bool false) :: env) h) : TAL P N ops J Q (.op i .R t) env h := by
 cases b with
 | true => exact .r ho hd hg hv (kt rfl)
 | false => exact .r ho hd hg hv (kf rfl)
theorem TAL.rP {p : Prop} {ip : Decidable p} (ho : ops[i]? = some ⟨some d, op, ty, pos, aft, g⟩) (hd : Nat.blt d N = true) (hg : gv ops env ⟨some d, op, ty, pos, aft, g⟩ = some true) (hv : ∀ h', Ext h h' → h.next ≤ h'.next → AOp P ⟨some d, op, ty, pos, aft, g⟩ (ev P env) h' fun v' h'' => v' = .bool (@decide p ip) ∧ h'' = h')
  (kt : p → TAL P N ops J Q t ((d, .bool true) :: env) h) (kf : ¬ p → TAL P N ops J Q t ((d, .bool false) :: env) h) : TAL P N ops J Q (.op i .R t) env h := by
 by_cases hp : p
 ·
  exact .r ho hd hg (by rw [Al hp] at hv; exact hv) (kt hp)
 ·
  exact .r ho hd hg (by rw [Af hp] at hv; exact hv) (kf hp)
theorem TAL.pP {p : Prop} {ip : Decidable p} (ho : ops[i]? = some ⟨some d, op, ty, pos, aft, g⟩) (hd : Nat.blt d N = true) (hg : gv ops env ⟨some d, op, ty, pos, aft, g⟩ = some true) (hv : ∀ h', h.next ≤ h'.next → AOp P ⟨some d, op, ty, pos, aft, g⟩ (ev P env) h' fun v' h'' => v' = .bool (@decide p ip) ∧ h'' = h')
  (kt : p → TAL P N ops J Q t ((d, .bool true) :: env) h) (kf : ¬ p → TAL P N ops J Q t ((d, .bool false) :: env) h) : TAL P N ops J Q (.op i .P t) env h := by
 by_cases hp : p
 ·
  exact .p ho hd hg (by rw [Al hp] at hv; exact hv) (kt hp)
 ·
  exact .p ho hd hg (by rw [Af hp] at hv; exact hv) (kf hp)
end
end Go.Eng
/- . -/
namespace Go.Proofs.YtigmojilaadbhaaGreatDoor
open Go Go.Eng Go.Pln Go.Lib Go.Proofs.Tryz
attribute [local irreducible] AWp AL DAL AOp TAL
instance i_unword : FnC prog 163 := ⟨Tryz.f163, func163, by kernel_rfl, by kernel_rfl⟩
instance i_raw : FnC prog 131 := ⟨Tryz.f131, func131, by kernel_rfl, by kernel_rfl⟩
theorem hex2_lt (l : Bytes) : hex2 l < 256 := by
 unfold hex2
 split
 ·
  split <;> omega
 ·
  split <;> omega
 ·
  omega
theorem unP_plain {c : UInt8} (hc : c ≠ 37) : ∀ r : Bytes, unwordP (c :: r) = c :: unwordP r
 | [] => by simp [unwordP, hc]
 | d :: r => by rw [unwordP, Ac hc]
theorem unP_pct (d : UInt8) (r : Bytes) : unwordP (37 :: d :: r) = UInt8.ofNat (hex2 ((d :: r).take 2)) :: unwordP ((d :: r).drop 2) := by rw [unwordP, Ah rfl]
structure UwI (h : Heap) (s rest acc : Bytes) (H : Heap) (u : Value) : Prop where
 eq : unwordP s = acc ++ unwordP rest
 len : acc.length + rest.length ≤ s.length
 ext : Ext h H
 wf : WF H
 os : OS h.next H 5 u (bv acc)
 nx : h.next ≤ H.next
theorem op_minK {ρ : Operand → Value} {h : Heap} {K : Value → Heap → Prop} {dst : Option Tmp} {ty : TypeId} {pos : String} {aft : Array Edge} {g : Option (Nat × Bool)} {x y : Operand} {k k' : IntKind} {a b c : Int} {aT : Array TypeId} (hx : ρ x = .int k a) (hy : ρ y = .int k' b) (hc : (if b < a then b else a) = c) (kk : K (.int k c) h) :
  AOp prog ⟨dst, .call ⟨.builtin .min, #[x, y], aT⟩, ty, pos, aft, g⟩ ρ h K := op_min2 hx hy (hc ▸ kk)
theorem cut1 (s : Bytes) (n : Nat) : (s.take ((s.length : Nat) : Int).toNat).drop ((n : Nat) : Int).toNat = s.drop n := by
 rw [Dq, Dq, Au]
theorem unword_c (s : Bytes) (h : Heap) (t : Tabs h) (hl : s.length ≤ 1000000000) : ACalls prog 163 [str s] h fun u h' => OS h.next h' 5 u (bv (unwordP s)) ∧ Ext h h' := by
 refine aL fun wf => ?_
 refine aD func163 rfl rfl ?_
 repeat (first | refine W.w ?_ | (refine zz rfl ?_; first | refine qaj rfl ?_ | refine qaR rfl ?_ | refine qah rfl ?_))
 refine bB (α := Bytes × Bytes × Heap × Value) (fun d => [(3, d.2.2.2), (4, str d.1)]) (fun d => d.2.2.1) (fun d => UwI h s d.1 d.2.1 d.2.2.1 d.2.2.2) (fun d => d.1.length) (s, [], h, .slice none 0 0) ⟨rfl, by simp, aU h, wf, bP _ _ _, Aa _⟩
  (aI (aA rfl (aA rfl aN))) ?_
 rintro ⟨rest, acc, H, u⟩ i
 replace i : UwI h s rest acc H u := i
 show AWp _ _ _ _ [(3, u), (4, str rest)] H
 obtain ⟨ie, il, ix, iw, io, inx⟩ := i
 by_cases h0 : rest = []
 ·
  repeat (first | refine aW ?_ | refine aK rfl rfl ?_ | refine aR ?_ | refine aY ?_ | refine aG rfl ?_ | refine aM ?_ | refine aP ?_ | (refine zz rfl ?_; first | refine qae rfl ?_ | refine qaj rfl ?_ | refine qbi (a := rest) (b := []) rfl rfl h0 ?_ | refine qag (v := .bool _) rfl rfl ?_ | refine qal (v := u) rfl ?_ | refine qao (v := u) rfl ?_))
  refine ⟨_, aC rfl, ?_, ix⟩
  rw [ie, h0, unwordP, Ck]
  exact io
 by_cases h1 : rest = [37]
 ·
  repeat (first | refine aW ?_ | refine aR ?_ | refine aY ?_ | refine aG rfl ?_ | refine aM ?_ | refine aP ?_ | (refine zz rfl ?_; first | refine qae rfl ?_ | refine qaj rfl ?_ | refine qbg (a := rest) (b := []) rfl rfl h0 ?_ | refine qbi (a := rest) (b := [37]) rfl rfl h1 ?_ | refine qag (v := .bool _) rfl rfl ?_ | refine qal (v := u) rfl ?_ | refine qao (v := u) rfl ?_))
  refine ⟨_, aC rfl, ?_, ix⟩
  rw [ie, h1, unwordP, Ah rfl, Ck]
  exact io
 obtain ⟨ch, r, hr⟩ : ∃ ch r, rest = ch :: r := by
  cases rest with
  | nil => exact absurd rfl h0
  | cons a b => exact ⟨a, b, rfl⟩
 have hat : (bstr rest)[((0 : Nat) : Int).toNat]? = some ch := by rw [qcv, hr]; rfl
 have hrl : rest.length = r.length + 1 := by rw [hr]; rfl
 by_cases hc : ch = 37
 ·
  obtain ⟨d, r2, hr2⟩ : ∃ d r2, r = d :: r2 := by
   cases r with
   | nil => exact absurd (by rw [hr, hc]) h1
   | cons a b => exact ⟨a, b, rfl⟩
  have h37 : ch.toNat = 37 := by rw [hc]; rfl
  obtain ⟨nn, hnn⟩ : ∃ nn, nn = min 3 rest.length := ⟨_, rfl⟩
  have hr2l : r.length = r2.length + 1 := by rw [hr2]; rfl
  have hA : (rest.take ((nn : Nat) : Int).toNat).drop (1 : Int).toNat = (d :: r2).take 2 := by
   rw [Dq, hr, hr2]
   have e : nn = min 2 (r2.length + 1) + 1 := by omega
   rw [e, Dg]
   show (d :: r2).take (min 2 (r2.length + 1)) = _
   rw [← List.take_take]
   congr 1
   exact Cr (by simp)
  have hB : (rest.take ((rest.length : Nat) : Int).toNat).drop ((nn : Nat) : Int).toNat = (d :: r2).drop 2 := by
   rw [cut1, hr, hr2]
   cases r2 with
   | nil =>
    have e : nn = 2 := by simp at hr2l; omega
    rw [e]; rfl
   | cons a b =>
    have e : nn = 3 := by simp at hr2l; omega
    rw [e]; rfl
  have hx2 := hex2_lt ((d :: r2).take 2)
  have hof : (UInt8.ofNat (hex2 ((d :: r2).take 2))).toNat = hex2 ((d :: r2).take 2) := by
   rw [UInt8.toNat_ofNat']
   exact Nat.mod_eq_of_lt hx2
  repeat (first | refine W.w ?_ | refine aE rfl ?_ | (refine zz rfl ?_; first | refine qac rfl ?_ | refine qae rfl ?_ | refine qaj rfl ?_ | refine qad rfl ?_ | refine qbg (a := rest) (b := []) rfl rfl h0 ?_ | refine qbg (a := rest) (b := [37]) rfl rfl h1 ?_ | refine qag (v := .bool _) rfl rfl ?_ | refine qaK rfl rfl (by omega) hat ?_ | refine qak rfl rfl rfl (by omega) ?_ | refine qaG rfl ?_ | refine op_minK (c := ((nn : Nat) : Int)) rfl rfl (by split <;> omega) ?_ | refine qa8 (s := rest) (l := 1) (m := ((nn : Nat) : Int)) rfl rfl rfl (by omega) (by omega) (by omega) ?_))
  refine zz rfl (qat (evs := [str ((d :: r2).take 2), .int .i64 16, .int .i64 8]) rfl (by rw [← hA]; rfl) ((pu_c _ H (t.ext ix) (by rw [Bb]; omega)).wf_post.mono ?_))
  rintro _ H1 ⟨⟨⟨e, rfl⟩, x1⟩, wf1, n1⟩
  have o1 := io.ext x1
  repeat (first | refine W.w ?_ | (refine zz rfl ?_; first | refine qac rfl ?_ | refine qaC rfl ?_ | refine qad rfl ?_ | refine qav rfl rfl ?_ | refine qao (v := e) rfl ?_ | refine qck (c := ((UInt8.ofNat (hex2 ((d :: r2).take 2))).toNat : Int)) rfl (by rw [hof]; show _ % (256 : Int) = _; omega) ?_))
  generalize hX : UInt8.ofNat (hex2 ((d :: r2).take 2)) = X
  refine cD (t := OT.seq [(0, .P), (1, .P), (4, .P), (5, .P), (6, .P), (2, .X), (3, .W), (7, .P), (8, .P)] .nil) mixed (by kernel_rfl) ?_
  repeat (first | refine tp rfl rfl (fun h' hn => qac rfl ⟨rfl, rfl⟩) ?_ | refine tp rfl rfl (fun h' hn => qaj rfl ⟨rfl, rfl⟩) ?_ | refine tp rfl rfl (fun h' hn => qal (v := u) rfl ⟨rfl, rfl⟩) ?_ | refine tp rfl rfl (fun h' hn => qa8 (s := rest) (l := ((nn : Nat) : Int)) (m := ((rest.length : Nat) : Int)) rfl rfl rfl (by omega) (by omega) (by omega) ⟨rfl, rfl⟩) ?_)
  refine cW rfl rfl rfl (qaN (bv [X]) rfl rfl rfl rfl (qcr _) ⟨wf1.ext _, ?_⟩)
  obtain ⟨H3, hQ, gr, xr, wr, _⟩ := aq wf1 ⟨bv [X], 5, true⟩
  rw [hQ]
  have rb : RB H3 (.slice (some ⟨H1.next, 0, some 1⟩) 1 1) [X] := bK gr rfl
  have o3 := o1.ext xr
  have n3 := wr.lt gr
  refine TAL.w rfl rfl rfl (qaX (z := .int .u8 0) (B := h.next) (e := 5) rfl wr (by omega) o3 rfl rfl rb.src (qaE _) (qcG _) (by rw [qaE]; simp only [maxLen, Ad, Ag]; omega) (by rw [qaE]; simp only [Ad, Ag]; omega) ?_)
  intro u' H4 o4 k4 wf4 n4
  rw [← qbQ] at o4
  have x4 := k4.ext o3 wf (Aa _) ((ix.trans x1).trans xr)
  repeat (first | refine tp rfl rfl (fun h' hn => qah rfl ⟨rfl, rfl⟩) ?_ | refine tp rfl rfl (fun h' hn => qao (v := u') rfl ⟨rfl, rfl⟩) ?_)
  refine bD ?_
  refine ⟨((d :: r2).drop 2, acc ++ [X], H4, u'), ⟨?_, ?_, x4, wf4, o4, by show h.next ≤ H4.next; omega⟩, ?_, aI (aA rfl (aA (congrArg str hB) aN))⟩
  ·
   rw [ie, hr, hc, hr2, unP_pct, hX]
   simp
  ·
   show (acc ++ [X]).length + ((d :: r2).drop 2).length ≤ s.length
   simp only [An, Dj, Ad, Ag]
   omega
  ·
   show ((d :: r2).drop 2).length < rest.length
   simp only [Dj, Ad]
   omega
 ·
  have hcn : ch.toNat ≠ 37 := fun e => hc (UInt8.toNat_inj.1 (by rw [e]; rfl))
  have hB : (rest.take ((rest.length : Nat) : Int).toNat).drop ((1 : Nat) : Int).toNat = r := by
   rw [cut1, hr]
   rfl
  repeat (first | refine W.w ?_ | refine aE rfl ?_ | refine aG rfl ?_ | (refine zz rfl ?_; first | refine qac rfl ?_ | refine qae rfl ?_ | refine qaj rfl ?_ | refine qad rfl ?_ | refine qbg (a := rest) (b := []) rfl rfl h0 ?_ | refine qbg (a := rest) (b := [37]) rfl rfl h1 ?_ | refine qag (v := .bool _) rfl rfl ?_ | refine qaK rfl rfl (by omega) hat ?_ | refine qai rfl rfl rfl (by omega) ?_))
  refine cD (t := OT.seq [(0, .P), (1, .P), (4, .P), (5, .P), (6, .P), (2, .X), (3, .W), (7, .P), (8, .P)] .nil) mixed (by kernel_rfl) ?_
  repeat (first | refine tp rfl rfl (fun h' hn => qac rfl ⟨rfl, rfl⟩) ?_ | refine tp rfl rfl (fun h' hn => qaj rfl ⟨rfl, rfl⟩) ?_ | refine tp rfl rfl (fun h' hn => qal (v := u) rfl ⟨rfl, rfl⟩) ?_ | refine tp rfl rfl (fun h' hn => qa8 (s := rest) (l := ((1 : Nat) : Int)) (m := ((rest.length : Nat) : Int)) rfl rfl rfl (by omega) (by omega) (by omega) ⟨rfl, rfl⟩) ?_)
  refine cW rfl rfl rfl (qaN (bv [ch]) rfl rfl rfl rfl (qcr _) ⟨iw.ext _, ?_⟩)
  obtain ⟨H3, hQ, gr, xr, wr, _⟩ := aq iw ⟨bv [ch], 5, true⟩
  rw [hQ]
  have rb : RB H3 (.slice (some ⟨H.next, 0, some 1⟩) 1 1) [ch] := bK gr rfl
  have o3 := io.ext xr
  have n3 := wr.lt gr
  refine TAL.w rfl rfl rfl (qaX (z := .int .u8 0) (B := h.next) (e := 5) rfl wr (by omega) o3 rfl rfl rb.src (qaE _) (qcG _) (by rw [qaE]; simp only [maxLen, Ad, Ag]; omega) (by rw [qaE]; simp only [Ad, Ag]; omega) ?_)
  intro u' H4 o4 k4 wf4 n4
  rw [← qbQ] at o4
  have x4 := k4.ext o3 wf (Aa _) (ix.trans xr)
  repeat (first | refine tp rfl rfl (fun h' hn => qah rfl ⟨rfl, rfl⟩) ?_ | refine tp rfl rfl (fun h' hn => qao (v := u') rfl ⟨rfl, rfl⟩) ?_)
  refine bD ?_
  refine ⟨(r, acc ++ [ch], H4, u'), ⟨?_, ?_, x4, wf4, o4, by show h.next ≤ H4.next; omega⟩, ?_, aI (aA rfl (aA (congrArg str hB) aN))⟩
  ·
   rw [ie, hr, unP_plain hc]
   simp
  ·
   show (acc ++ [ch]).length + r.length ≤ s.length
   simp only [An, Ad, Ag]
   omega
  ·
   show r.length < rest.length
   omega
theorem raw_c (i : Nat) (s : Bytes) (h : Heap) (hi : h.get i = some (rdB s)) (hl : s.length ≤ 1000000000) (t : Tabs h) (hn : 8 ≤ i) : ACalls prog 131 [ptr i] h fun u h' => OS h.next h' 5 u (bv (rawS s).1) ∧ Ext (h.set i (rdB (rawS s).2)) h' := by
 refine aD func131 rfl rfl ?_
 have hw := (qbu s).1
 unfold rawS
 generalize hH : h.set i (rdB (cutS s).2) = H
 have tH : Tabs H := hH ▸ t.set hn
 have hnx : H.next = h.next := hH ▸ rfl
 have cn := qii i s h hi hl
 rw [hH] at cn
 generalize (cutS s).1 = w at hw cn ⊢
 repeat (first | refine W.w ?_ | refine zz rfl (qaB rfl ?_) | refine zz rfl (qaR rfl ?_))
 refine zz rfl (qat rfl rfl (cn.mono ?_))
 rintro _ H1 ⟨rfl, hH1⟩
 cases hH1.symm
 refine zz rfl (qat rfl rfl ((unword_c w H tH (by omega)).mono ?_))
 rintro u H2 ⟨o, x⟩
 repeat (first | refine W.w ?_ | refine zz rfl (qao (v := u) rfl ?_))
 exact ⟨_, aC rfl, hnx ▸ o, x⟩
end Go.Proofs.YtigmojilaadbhaaGreatDoor
/- . -/
namespace Go.Proofs.YtigmojilaadbhaaGreatDoor
open Go Go.Eng Go.Pln Go.Lib Go.Proofs.Tryz
attribute [local irreducible] AWp AL DAL AOp
def tailW (ws : List Bytes) : Bytes := ws.flatMap fun w => 32 :: w
theorem qb6 (a b : List Bytes) : tailW (a ++ b) = tailW a ++ tailW b := by simp [tailW]
theorem qaQ : ∀ (w : Bytes) (ws : List Bytes), joinW (w :: ws) = w ++ tailW ws
 | w, [] => by simp [joinW, tailW]
 | w, v :: ws => by
  rw [joinW, qaQ v ws]
  simp [tailW]
theorem qbm {n : Int} (h0 : -9223372036854775808 ≤ n) (h1 : n ≤ 9223372036854775807) : (itoa n).length ≤ 21 := Lib.itoa_length_le n h0 h1
abbrev I64 (n : Int) : Prop := -9223372036854775808 ≤ n ∧ n ≤ 9223372036854775807
theorem tail_len {l : List Int} (hl : ∀ n ∈ l, I64 n) : (tailW (l.map itoa)).length ≤ 22 * l.length := by
 induction l with
 | nil => exact Ao _
 | cons n l ih =>
  have h1 := qbm (hl n Bl).1 (hl n Bl).2
  have h2 := ih fun m hm => hl m (Ay n hm)
  have e : tailW ((n :: l).map itoa) = 32 :: itoa n ++ tailW (l.map itoa) := by simp [tailW]
  rw [e, An, Ad, Ad]
  omega
instance qd0 : FnC prog 50 := ⟨Tryz.f50, func50, by kernel_rfl, by kernel_rfl⟩
theorem N_c (s : Bytes) (v : Value) (l : List Int) (h : Heap) (r : RS h v (l.map fun n => .int .i64 n)) (hi : ∀ n ∈ l, I64 n) (hl : s.length + 22 * l.length ≤ 140737488351232) (t : Tabs h) : ACalls prog 50 [str s, v] h fun u h' => u = str (s ++ tailW (l.map itoa)) ∧ h' = h := by
 refine aD func50 rfl rfl ?_
 repeat (first | refine W.w ?_ | refine zz rfl (qad rfl ?_) | refine zz rfl (qah rfl ?_))
 refine bB (α := Nat) (fun k => [(0, str (s ++ tailW ((l.take k).map itoa))), (1, v), (5, .int .i64 (k : Nat))]) (fun _ => h) (fun k => k ≤ l.length) (fun k => l.length - k) 0 (Ao _) (aI (aA (congrArg str (Ck s).symm) (aA rfl (aA rfl aN)))) ?_
 intro k hk
 have hlen : (l.map fun n => Value.int .i64 n).length = l.length := by simp
 by_cases hlt : k < l.length
 ·
  obtain ⟨n, hn⟩ := gX (l := l) (k := k) hlt
  have hI := hi n (Aw hn)
  have ci := qis n h t hI.1 hI.2
  have hx : (l.map fun n => Value.int .i64 n)[((k : Nat) : Int).toNat]? = some (.int .i64 n) := by
   show (l.map fun n => Value.int .i64 n)[k]? = _
   rw [Bm, hn]
   rfl
  have h1 := qbm hI.1 hI.2
  have h2 := tail_len (l := l.take k) fun m hm => hi m (Cg hm)
  rw [Bb] at h2
  have h3 : (s ++ tailW ((l.take k).map itoa)).length ≤ 140737488351232 := by rw [An]; omega
  have e : s ++ tailW ((l.take (k + 1)).map itoa) = s ++ tailW ((l.take k).map itoa) ++ [32] ++ itoa n := by
   rw [Bf, hn, Cx, qb6]
   simp [tailW]
  repeat (first | refine W.w ?_ | refine aE rfl ?_ | (refine zz rfl ?_; first | refine qac rfl ?_ | refine qaj rfl ?_ | refine qaz r rfl ?_ | refine qak rfl rfl rfl (by rw [hlen]; omega) ?_ | refine qba r rfl rfl (by omega) hx ?_ | refine qbZ rfl rfl (by simp only [maxLen, An, Ad, Ag] at h3 ⊢; omega) ?_ | refine qal (by conv => lhs; whnf) ?_))
  intro p hp
  repeat (first | refine W.w ?_ | (refine zz rfl ?_; first | refine qac rfl ?_ | refine qad rfl ?_ | refine qah rfl ?_ | refine qar hp rfl rfl ?_ | refine qab rfl rfl ci ?_ | refine qbZ rfl rfl (by simp only [maxLen, An, Ad, Ag] at h3 ⊢; omega) ?_ | refine qau rfl rfl (by omega) ?_))
  exact ⟨k + 1, hlt, by omega, aI (aA (congrArg str e.symm) (aA rfl (aA rfl aN)))⟩
 ·
  obtain rfl : k = l.length := by omega
  rw [Au]
  repeat (first | refine aW ?_ | refine aR ?_ | refine aY ?_ | refine aG rfl ?_ | refine aM ?_ | refine aP ?_ | (refine zz rfl ?_; first | refine qac rfl ?_ | refine qaj rfl ?_ | refine qah rfl ?_ | refine qaz r rfl ?_ | refine qai rfl rfl rfl (by rw [hlen]; omega) ?_ | refine qal (by conv => lhs; whnf) ?_))
  exact ⟨_, aC rfl, rfl, rfl⟩
instance qeA : FnC prog 75 := ⟨Tryz.f75, func75, by kernel_rfl, by kernel_rfl⟩
instance qeS : FnC prog 74 := ⟨Tryz.f74, func74, by kernel_rfl, by kernel_rfl⟩
instance qdj : FnC prog 78 := ⟨Tryz.f78, func78, by kernel_rfl, by kernel_rfl⟩
instance qdJ : FnC prog 73 := ⟨Tryz.f73, func73, by kernel_rfl, by kernel_rfl⟩
instance i_TyD_Sl_Sl_int : TyD prog 22 (.slice 77) := ⟨underlying22⟩
instance i_TyI_Sl_Sl_int : TyI prog 22 1 24 (.slice none 0 0) := ⟨qaV (by kernel_rfl), rfl, rfl⟩
instance i_TyD_api_Setup : TyD prog 24 (.struct #[fd "Nodes" 3 0 "" 0, fd "Groups" 22 1 "" 8, fd "Disk" 3 2 "" 32, fd "Memory" 3 3 "" 40, fd "Level" 3 4 "" 48]) := ⟨underlying24⟩
instance i_TyI_api_Setup : TyI prog 24 5 56 (.agg #[.int .i64 0, .slice none 0 0, .int .i64 0, .int .i64 0, .int .i64 0]) := ⟨qaV (by kernel_rfl), rfl, rfl⟩
instance qhF : FAd prog 24 0 0 := bA (ft := 3) underlying24 rfl rfl rfl rfl
instance qhd : FAd prog 24 1 1 := bA (ft := 22) underlying24 rfl rfl rfl rfl
instance qhN : FAd prog 24 2 2 := bA (ft := 3) underlying24 rfl rfl rfl rfl
instance qhX : FAd prog 24 3 3 := bA (ft := 3) underlying24 rfl rfl rfl rfl
instance qhG : FAd prog 24 4 4 := bA (ft := 3) underlying24 rfl rfl rfl rfl
def setC (vg : Value) (x : SetM) : List Value := [.int .i64 x.nodes, vg, .int .i64 x.disk, .int .i64 x.memory, .int .i64 x.level]
theorem qcD (n a b : Int) (h : Heap) : ACalls prog 75 [.int .i64 n, .int .i64 a, .int .i64 b] h fun u h' => u = .bool (decide (a ≤ n ∧ n ≤ b)) ∧ h' = h := by
 refine aD func75 rfl rfl ?_
 by_cases h1 : a ≤ n
 ·
  by_cases h2 : n ≤ b
  ·
   repeat (first | refine W.w ?_ | (refine zz rfl ?_; first | refine qac rfl ?_ | refine qae rfl ?_ | refine qaa rfl ?_ | refine qak rfl rfl rfl (by omega) ?_ | refine qag (v := .bool _) rfl rfl ?_))
   exact ⟨_, aC rfl, by rw [Al ⟨h1, h2⟩]; rfl, rfl⟩
  ·
   repeat (first | refine W.w ?_ | (refine zz rfl ?_; first | refine qac rfl ?_ | refine qae rfl ?_ | refine qaa rfl ?_ | refine qak rfl rfl rfl (by omega) ?_ | refine qai rfl rfl rfl (by omega) ?_ | refine qag (v := .bool _) rfl rfl ?_))
   exact ⟨_, aC rfl, by rw [Af fun e => h2 e.2]; rfl, rfl⟩
 ·
  repeat (first | refine W.w ?_ | refine aK rfl rfl ?_ | (refine zz rfl ?_; first | refine qac rfl ?_ | refine qae rfl ?_ | refine qaa rfl ?_ | refine qai rfl rfl rfl (by omega) ?_ | refine qag (v := .bool _) rfl rfl ?_))
  exact ⟨_, aC rfl, by rw [Af fun e => h1 e.1]; rfl, rfl⟩
theorem qbq {n a b : Int} (h : Heap) (c : a ≤ n ∧ n ≤ b) : ACalls prog 75 [.int .i64 n, .int .i64 a, .int .i64 b] h fun u h' => u = .bool true ∧ h' = h := by
 have := qcD n a b h
 rwa [Al c] at this
theorem qcc {n a b : Int} (h : Heap) (c : ¬ (a ≤ n ∧ n ≤ b)) : ACalls prog 75 [.int .i64 n, .int .i64 a, .int .i64 b] h fun u h' => u = .bool false ∧ h' = h := by
 have := qcD n a b h
 rwa [Af c] at this
theorem sizes_c (x : SetM) (vg : Value) (_hv : vg ≠ undef) (h : Heap) : ACalls prog 74 [.agg (setC vg x).toArray] h fun u h' => u = .bool (sizesM x) ∧ h' = h := by
 refine aL fun wf => aO ?_
 refine aD func74 rfl rfl ?_
 repeat (first | refine W.w ?_ | refine zz rfl (qaa rfl ?_) | refine zz rfl (qaS rfl (by intro e; cases e) ?_))
 generalize hH : h.alloc _ = H
 have hg : H.get h.next = some ⟨setC vg x, 24, true⟩ := hH ▸ aB _ _
 have hx : Ext h H := hH ▸ wf.ext _
 by_cases c1 : 1 ≤ x.nodes ∧ x.nodes ≤ 5
 ·
  by_cases c2 : 1024 ≤ x.disk ∧ x.disk ≤ 1048576
  ·
   by_cases c3 : 64 ≤ x.memory ∧ x.memory ≤ 4096
   ·
    by_cases c4 : 256 ≤ x.level ∧ x.level ≤ 65536
    ·
     repeat (first | refine W.w ?_ | (refine zz rfl ?_; first | refine qae rfl ?_ | refine qaa rfl ?_ | refine qan rfl ?_ | refine qaf rfl rfl hg rfl ?_ | refine qab rfl rfl (qbq H c1) ?_ | refine qab rfl rfl (qbq H c2) ?_ | refine qab rfl rfl (qbq H c3) ?_ | refine qab rfl rfl (qbq H c4) ?_ | refine qag (v := .bool _) rfl rfl ?_))
     exact ⟨_, aC rfl, rfl, hx, by rw [sizesM, Al (by omega)]; rfl, rfl⟩
    ·
     repeat (first | refine W.w ?_ | (refine zz rfl ?_; first | refine qae rfl ?_ | refine qaa rfl ?_ | refine qan rfl ?_ | refine qaf rfl rfl hg rfl ?_ | refine qab rfl rfl (qbq H c1) ?_ | refine qab rfl rfl (qbq H c2) ?_ | refine qab rfl rfl (qbq H c3) ?_ | refine qab rfl rfl (qcc H c4) ?_ | refine qag (v := .bool _) rfl rfl ?_))
     exact ⟨_, aC rfl, rfl, hx, by rw [sizesM, Af (by omega)]; rfl, rfl⟩
   ·
    repeat (first | refine W.w ?_ | refine aK rfl rfl ?_ | (refine zz rfl ?_; first | refine qae rfl ?_ | refine qaa rfl ?_ | refine qan rfl ?_ | refine qaf rfl rfl hg rfl ?_ | refine qab rfl rfl (qbq H c1) ?_ | refine qab rfl rfl (qbq H c2) ?_ | refine qab rfl rfl (qcc H c3) ?_ | refine qag (v := .bool _) rfl rfl ?_))
    exact ⟨_, aC rfl, rfl, hx, by rw [sizesM, Af (by omega)]; rfl, rfl⟩
  ·
   repeat (first | refine W.w ?_ | refine aK rfl rfl ?_ | (refine zz rfl ?_; first | refine qae rfl ?_ | refine qaa rfl ?_ | refine qan rfl ?_ | refine qaf rfl rfl hg rfl ?_ | refine qab rfl rfl (qbq H c1) ?_ | refine qab rfl rfl (qcc H c2) ?_ | refine qag (v := .bool _) rfl rfl ?_))
   exact ⟨_, aC rfl, rfl, hx, by rw [sizesM, Af (by omega)]; rfl, rfl⟩
 ·
  repeat (first | refine W.w ?_ | refine aK rfl rfl ?_ | (refine zz rfl ?_; first | refine qae rfl ?_ | refine qaa rfl ?_ | refine qan rfl ?_ | refine qaf rfl rfl hg rfl ?_ | refine qab rfl rfl (qcc H c1) ?_ | refine qag (v := .bool _) rfl rfl ?_))
  exact ⟨_, aC rfl, rfl, hx, by rw [sizesM, Af (by omega)]; rfl, rfl⟩
end Go.Proofs.YtigmojilaadbhaaGreatDoor
