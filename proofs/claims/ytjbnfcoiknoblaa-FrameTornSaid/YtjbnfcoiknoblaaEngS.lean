/-
  The engine, part S: code that ranges over functions, and the functions that are ranged over: objects besides the cells, marks, yields.
-/
import Derived.Test.YtjbnfcoiknoblaaEngR
import Derived.RangeFuncLeaves
import Derived.RangeFuncRecord
import Derived.RangeFuncOwn
import Derived.TacticsIn
namespace Go.Eng
open Go

/-- Objects that are no cells turn; none of the cells does. -/
structure Aside (w w' : World) : Prop where
  size : w.heap.size ≤ w'.heap.size
  cells : ∀ (k : Nat) (o : Obj), w.heap[k]? = some o → keptB o = true → w'.heap[k]? = some o
theorem kept_of_cells {o : Obj} (h : o.isCells = true) : keptB o = true := by
  cases o <;> first | rfl | cases h
theorem Sim.aside {P : Program} {φ : Ren} {h : Heap} {w w' : World} (s : Sim P φ h w) (q : Aside w w') : Sim P φ h w' where
  next := s.next
  low i b hi := Nat.lt_of_lt_of_le (s.low i b hi) q.size
  apart := s.apart
  glob := s.glob
  objs i o hi := by
    obtain ⟨x, h1, h2, _⟩ := (s.objs i o hi).obj
    exact (s.objs i o hi).world (fun _ _ => rfl) (s.ltO hi) (Nat.le_refl _) (by rw [q.cells _ _ h1 h2, h1])
  apartO := s.apartO
  blk i b hi := by
    have hb := s.blk i b hi
    unfold BRel at hb ⊢
    split
    · rename_i ho
      rw [if_pos ho] at hb
      obtain ⟨arr, fr, h1, h2⟩ := hb
      exact ⟨arr, fr, q.cells _ _ h1 rfl, h2⟩
    · rename_i ho
      rw [if_neg ho] at hb
      intro k v hk
      obtain ⟨c, hc, hr⟩ := hb k v hk
      obtain ⟨o, h1, h2⟩ := cells_of_cell hc
      have h3 := q.cells _ _ h1 (kept_of_cells h2)
      refine ⟨c, ?_, hr⟩
      unfold World.cell? at hc ⊢
      rw [h3]
      rw [h1] at hc
      exact hc
theorem Sim.not_owned {P : Program} {φ : Ren} {h : Heap} {w : World} (s : Sim P φ h w) {k : Nat} {o : Obj} (hk : w.heap[k]? = some o) (ho : keptB o = false) : ¬ Owned φ h k := by
  rintro (⟨i, b, h1, h2, rfl⟩ | ⟨i, x, h1, rfl⟩)
  · obtain ⟨arr, fr, h3, _⟩ := s.owned h1 h2
    rw [hk] at h3
    cases h3
    cases ho
  · obtain ⟨y, h3, h4, _⟩ := (s.objs i x h1).obj
    rw [hk] at h3
    cases h3
    rw [ho] at h4
    cases h4
theorem lt_of_get {w : World} {k : Nat} {o : Obj} (hk : w.heap[k]? = some o) : k < w.heap.size := (Array.getElem?_eq_some_iff.1 hk).1
theorem Step.other {P : Program} {φ φ' : Ren} {h h' : Heap} {w w' : World} (s : Sim P φ h w) (t : Step φ h w φ' h' w') {k : Nat} {o : Obj} (hk : w.heap[k]? = some o) (ho : keptB o = false) : w'.heap[k]? = some o := by
  rw [t.frame k (lt_of_get hk) (s.not_owned hk ho)]; exact hk
theorem Aside.put {w : World} {l : Nat} {o o' : Obj} (hl : w.heap[l]? = some o) (ho : keptB o = false) : Aside w (w.putObj l o') where
  size := by simp [World.putObj]
  cells k x hk hx := by
    rw [World.putObj_heap_other (by rintro rfl; rw [hl] at hk; cases hk; rw [ho] at hx; cases hx)]
    exact hk
theorem Aside.alloc (w : World) (o : Obj) : Aside w (w.alloc o) where
  size := by show w.heap.size ≤ (w.heap.push o).size; simp
  cells k x hk hx := by
    have := lt_of_get hk
    show (w.heap.push o)[k]? = _
    rw [Array.getElem?_push_lt this]
    rw [Array.getElem?_eq_getElem this] at hk
    exact hk
theorem alloc_get_old {w : World} {o x : Obj} {k : Nat} (hk : w.heap[k]? = some x) : (w.alloc o).heap[k]? = some x := by
  have := lt_of_get hk
  show (w.heap.push o)[k]? = _
  rw [Array.getElem?_push_lt this]
  rw [Array.getElem?_eq_getElem this] at hk
  exact hk

/-- A step but for some objects. -/
structure StepX (x : Nat → Prop) (φ : Ren) (h : Heap) (w : World) (φ' : Ren) (h' : Heap) (w' : World) : Prop where
  next : h.next ≤ h'.next
  agree : ∀ i, i < h.next → φ' i = φ i
  os : w'.os = w.os
  tape : w'.tape = w.tape
  output : w'.output = w.output
  size : w.heap.size ≤ w'.heap.size
  frame : ∀ k, k < w.heap.size → ¬ Owned φ h k → ¬ x k → w'.heap[k]? = w.heap[k]?
  own : ∀ k, Owned φ' h' k → Owned φ h k ∨ w.heap.size ≤ k
theorem Step.x {x : Nat → Prop} {φ φ' : Ren} {h h' : Heap} {w w' : World} (s : Step φ h w φ' h' w') : StepX x φ h w φ' h' w' :=
  ⟨s.next, s.agree, s.os, s.tape, s.output, s.size, fun k a b _ => s.frame k a b, s.own⟩
theorem StepX.full {x : Nat → Prop} {φ φ' : Ren} {h h' : Heap} {w w' : World} (s : StepX x φ h w φ' h' w') (hx : ∀ k, k < w.heap.size → ¬ x k) : Step φ h w φ' h' w' :=
  ⟨s.next, s.agree, s.os, s.tape, s.output, s.size, fun k a b => s.frame k a b (hx k a), s.own⟩
theorem StepX.wider {x y : Nat → Prop} {φ φ' : Ren} {h h' : Heap} {w w' : World} (s : StepX x φ h w φ' h' w') (hx : ∀ k, k < w.heap.size → x k → y k) : StepX y φ h w φ' h' w' :=
  ⟨s.next, s.agree, s.os, s.tape, s.output, s.size, fun k a b c => s.frame k a b (fun d => c (hx k a d)), s.own⟩
theorem StepX.refl (x : Nat → Prop) (φ : Ren) (h : Heap) (w : World) : StepX x φ h w φ h w := (Step.refl φ h w).x
theorem StepX.trans {x : Nat → Prop} {φ1 φ2 φ3 : Ren} {h1 h2 h3 : Heap} {w1 w2 w3 : World} (a : StepX x φ1 h1 w1 φ2 h2 w2) (b : StepX x φ2 h2 w2 φ3 h3 w3) : StepX x φ1 h1 w1 φ3 h3 w3 where
  next := Nat.le_trans a.next b.next
  agree i hi := (b.agree i (Nat.lt_of_lt_of_le hi a.next)).trans (a.agree i hi)
  os := b.os.trans a.os
  tape := b.tape.trans a.tape
  output := b.output.trans a.output
  size := Nat.le_trans a.size b.size
  frame k hk ho hx := by
    rw [b.frame k (Nat.lt_of_lt_of_le hk a.size) (fun h => (a.own k h).elim ho (fun h' => by omega)) hx, a.frame k hk ho hx]
  own k hk := (b.own k hk).elim (fun h => a.own k h) (fun h => .inr (Nat.le_trans a.size h))
theorem StepX.mono {x : Nat → Prop} {φ φ' : Ren} {h h' : Heap} {w w' : World} (s : StepX x φ h w φ' h' w') {v c : Value} (r : VRel φ h.next v c) : VRel φ' h'.next v c := r.mono s.agree s.next
/-- An object is put that is newer than the step's beginning, or excepted. -/
theorem StepX.put {x : Nat → Prop} {φ φ' : Ren} {h h' : Heap} {w w' : World} (s : StepX x φ h w φ' h' w') {l : Nat} (o : Obj) (hl : w.heap.size ≤ l ∨ x l) : StepX x φ h w φ' h' (w'.putObj l o) :=
  ⟨s.next, s.agree, s.os, s.tape, s.output, by simpa [World.putObj] using s.size, fun k a b c => by
    rw [World.putObj_heap_other (by rintro rfl; rcases hl with hl | hl; omega; exact c hl)]
    exact s.frame k a b c, s.own⟩
theorem StepX.alloc {x : Nat → Prop} {φ φ' : Ren} {h h' : Heap} {w w' : World} (s : StepX x φ h w φ' h' w') (o : Obj) : StepX x φ h w φ' h' (w'.alloc o) :=
  ⟨s.next, s.agree, s.os, s.tape, s.output, by have := s.size; show w.heap.size ≤ (w'.heap.push o).size; simp; omega, fun k a b c => by
    have := s.size
    have h1 : k < w'.heap.size := by omega
    show (w'.heap.push o)[k]? = _
    rw [Array.getElem?_push_lt h1, ← Array.getElem?_eq_getElem h1]
    exact s.frame k a b c, s.own⟩

/-- The marks of the ranges over functions that an activation has come by, where B says. -/
def Marks (B : Nat → Prop) (ds : List Deferred) (w : World) : Prop :=
  ∃ Ds : List Nat, ds = Ds.map (fun D => { target := .collected D, args := #[] }) ∧ Ds.Nodup ∧ ∀ D ∈ Ds, B D ∧ w.heap[D]? = some (.deferred (some []))
theorem Marks.nil (B : Nat → Prop) (w : World) : Marks B [] w := ⟨[], rfl, .nil, by simp⟩
theorem Marks.keep {B : Nat → Prop} {ds : List Deferred} {w w' : World} (m : Marks B ds w) (hk : ∀ (D : Nat), w.heap[D]? = some (Obj.deferred (some [])) → w'.heap[D]? = some (Obj.deferred (some []))) : Marks B ds w' := by
  obtain ⟨Ds, h1, h2, h3⟩ := m
  exact ⟨Ds, h1, h2, fun D hD => ⟨(h3 D hD).1, hk D (h3 D hD).2⟩⟩
theorem Marks.step {P : Program} {B : Nat → Prop} {ds : List Deferred} {φ φ' : Ren} {h h' : Heap} {w w' : World} (m : Marks B ds w) (s : Sim P φ h w) (t : Step φ h w φ' h' w') : Marks B ds w' :=
  m.keep fun _D hD => t.other s hD rfl

/-- Where code stands: what may turn besides; what is known of the world besides (its state told by a pending jump, if there is one); the marks' base. -/
structure Ctx (P : Program) where
  x : Nat → Prop
  L : Option Code → Ren → Heap → World → Prop
  B : Nat → Prop
  st : ∀ {s : Option Code} {φ φ' : Ren} {h h' : Heap} {w w' : World}, Sim P φ h w → L s φ h w → Step φ h w φ' h' w' → L s φ' h' w'
/-- A fence that lets all through, in a round or not. -/
abbrev Fc (ro : Option Nat) : Fence := { Fence.wide with round := ro }

abbrev XQ := Env → Heap → Option Code → Prop
def XPost {P : Program} (C : Ctx P) (N : Nat) (φ : Ren) (h : Heap) (w : World) (K : XQ) (a' : Act) (w' : World) : Prop :=
  ∃ env' h' s' φ', K env' h' s' ∧ Marks C.B a'.defers w' ∧ Rel P N φ' env' h' a'.tmps w' ∧ StepX C.x φ h w φ' h' w' ∧ C.L s' φ' h' w'
def XWp {P : Program} (C : Ctx P) (ro : Option Nat) (N : Nat) (c : Code) (Q : Exit → XQ) (env : Env) (h : Heap) (s : Option Code) : Prop :=
  ∀ φ a w, C.L s φ h w → Marks C.B a.defers w → Rel P N φ env h a.tmps w → c.wpIn (Fc ro) 0 P (fun ex a' w' => XPost C N φ h w (Q ex) a' w') a w

section rules
variable {P : Program} {C : Ctx P} {ro : Option Nat} {N : Nat} {Q : Exit → XQ} {env : Env} {h : Heap} {s : Option Code}

theorem XPost.trans {φ φ' : Ren} {h h' : Heap} {w w' : World} {K : XQ} {a : Act} {w2 : World} (p : XPost C N φ' h' w' K a w2) (t : StepX C.x φ h w φ' h' w') : XPost C N φ h w K a w2 := by
  obtain ⟨e, h2, s2, φ2, k, d, r, u, l⟩ := p
  exact ⟨e, h2, s2, φ2, k, d, r, t.trans u, l⟩
theorem XPost.mono {φ : Ren} {h : Heap} {w : World} {K K' : XQ} {a : Act} {w2 : World} (p : XPost C N φ h w K a w2) (hk : ∀ e h' s', K e h' s' → K' e h' s') : XPost C N φ h w K' a w2 := by
  obtain ⟨e, h2, s2, φ2, k, r⟩ := p
  exact ⟨e, h2, s2, φ2, hk _ _ _ k, r⟩
theorem XPost.now {φ : Ren} {h : Heap} {w : World} {K : XQ} {env : Env} {a : Act} (k : K env h s) (l : C.L s φ h w) (d : Marks C.B a.defers w) (r : Rel P N φ env h a.tmps w) : XPost C N φ h w K a w :=
  ⟨env, h, s, φ, k, d, r, StepX.refl _ _ _ _, l⟩
theorem XWp.mono {c : Code} {Q' : Exit → XQ} (p : XWp C ro N c Q env h s) (hq : ∀ ex e h' s', Q ex e h' s' → Q' ex e h' s') : XWp C ro N c Q' env h s :=
  fun φ a w l d r => wpIn_mono (p φ a w l d r) fun ex _ _ hp => hp.mono (hq ex)
theorem XWp.weak {c : Code} {env0 : Env} {h0 : Heap} (p : XWp C ro N c Q env0 h0 s) (k : Weak env h env0 h0) : XWp C ro N c Q env h s :=
  fun φ a w l d r => wpIn_mono (p φ a w (C.st r.sim l (Step.weak k.next k.ext)) d (r.weak k)) fun _ _ _ hp => hp.trans (Step.weak k.next k.ext).x
theorem XWp.wf {c : Code} (p : WF h → XWp C ro N c Q env h s) : XWp C ro N c Q env h s := fun φ a w l d r => p r.sim.next φ a w l d r
theorem XWp.heap {c : Code} {h' : Heap} (e : h' = h) (p : XWp C ro N c Q env h s) : XWp C ro N c Q env h' s := e ▸ p
theorem XWp.skip (k : Q .normal env h s) : XWp C ro N .skip Q env h s := fun _ _ _ l d r => wpIn_skip (XPost.now k l d r)
theorem XWp.exit {id : Nat} (k : Q (.exit id) env h s) : XWp C ro N (.exit id) Q env h s := fun _ _ _ l d r => wpIn_exit (XPost.now k l d r)
theorem XWp.ret (k : Q .ret env h s) : XWp C ro N .ret Q env h s := fun _ _ _ l d r => wpIn_ret (XPost.now k l d r)
theorem XWp.label {i : Nat} (k : Q .normal env h s) : XWp C ro N (.label i) Q env h s := fun _ _ _ l d r => wpIn_label (XPost.now k l d r)

@[reducible] def thenX (K : XQ) (Q : Exit → XQ) : Exit → XQ
  | .normal => K
  | ex => Q ex
theorem XWp.seq {x y : Code} (p : XWp C ro N x (thenX (XWp C ro N y Q) Q) env h s) : XWp C ro N (.seq x y) Q env h s := by
  intro φ a w l d r
  refine wpIn_seq (wpIn_mono (p φ a w l d r) fun ex a' w' hp => ?_)
  cases ex with
  | normal =>
    obtain ⟨e, h2, s2, φ2, k, d2, r2, t, l2⟩ := hp
    exact wpIn_mono (k φ2 a' w' l2 d2 r2) fun _ _ _ hp2 => hp2.trans t
  | _ => exact hp
theorem XWp.cond {c : Operand} {x y : Code} {t : Bool} (hc : ev P env c = .bool t) (ht : t = true → XWp C ro N x Q env h s) (hf : t = false → XWp C ro N y Q env h s) : XWp C ro N (.cond c x y) Q env h s := by
  intro φ a w l d r
  have hv := r.ev c
  rw [hc] at hv
  exact wpIn_cond_split hv.bool_inv (fun e => ht e φ a w l d r) (fun e => hf e φ a w l d r)
theorem XWp.condP {c : Operand} {x y : Code} {p : Prop} {ip : Decidable p} (hc : ev P env c = .bool (@decide p ip)) (ht : p → XWp C ro N x Q env h s) (hf : ¬ p → XWp C ro N y Q env h s) : XWp C ro N (.cond c x y) Q env h s :=
  .cond hc (fun e => ht (of_decide_eq_true e)) (fun e => hf (of_decide_eq_false e))
theorem XWp.condT {c : Operand} {x y : Code} (hc : ev P env c = .bool true) (p : XWp C ro N x Q env h s) : XWp C ro N (.cond c x y) Q env h s := .cond hc (fun _ => p) (fun e => by cases e)
theorem XWp.condF {c : Operand} {x y : Code} (hc : ev P env c = .bool false) (p : XWp C ro N y Q env h s) : XWp C ro N (.cond c x y) Q env h s := .cond hc (fun e => by cases e) (fun _ => p)
@[reducible] def blockX (id : Nat) (Q : Exit → XQ) : Exit → XQ
  | .exit id', e, h, s => if id' = id then Q .normal e h s else Q (.exit id') e h s
  | ex, e, h, s => Q ex e h s
theorem XWp.block {id : Nat} {c : Code} (p : XWp C ro N c (blockX id Q) env h s) : XWp C ro N (.block id c) Q env h s := by
  intro φ a w l d r
  refine wpIn_block (wpIn_mono (p φ a w l d r) fun ex a' w' hp => ?_)
  cases ex with
  | exit id' =>
    simp only [Exit.inBlock]
    split
    · rename_i he
      exact hp.mono fun e h' s' k => by simpa [blockX, he] using k
    · rename_i he
      exact hp.mono fun e h' s' k => by simpa [blockX, he] using k
  | _ => exact hp
/-- A loop. -/
theorem XWp.loop {α : Type} {c : Code} (E : α → Env) (H : α → Heap) (V : α → Prop) (m : α → Nat) (y0 : α) (hx : V y0) (hw : Weak env h (E y0) (H y0))
    (round : ∀ y, V y → XWp C ro N c (thenX (fun e h' s' => s' = s ∧ ∃ z, V z ∧ m z < m y ∧ Weak e h' (E z) (H z)) Q) (E y) (H y) s) : XWp C ro N (.loop c) Q env h s := by
  intro φ a w l d r b k cs hro hb hr
  have key : ∀ n y φ' a' w', m y = n → V y → C.L s φ' (H y) w' → Marks C.B a'.defers w' → Rel P N φ' (E y) (H y) a'.tmps w' → StepX C.x φ h w φ' (H y) w' →
      ∃ e a2 w2, XPost C N φ h w (Q e) a2 w2 ∧ ArrivesIn (Machine.fenced P (Fc ro)) P (lone (b.atR a' (.code c :: .inLoop c :: k)) cs w') b k cs e a2 w2 := by
    intro n
    induction n using Nat.strongRecOn with
    | _ n ih =>
      intro y φ' a' w' hn hv hl' hd' r' st
      obtain ⟨e, a1, w1, hq, harr⟩ := round y hv φ' a' w' hl' hd' r' b (.inLoop c :: k) cs hro hb hr
      cases e with
      | normal =>
        obtain ⟨e1, h1, s1, φ1, ⟨rfl, z, hz, hlt, hwk⟩, d1, r1, t1, l1⟩ := hq
        have st1 : StepX C.x φ h w φ1 (H z) w1 := (st.trans t1).trans (Step.weak hwk.next hwk.ext).x
        obtain ⟨e2, a2, w2, hq2, harr2⟩ := ih (m z) (hn ▸ hlt) z φ1 a1 w1 rfl hz (C.st r1.sim l1 (Step.weak hwk.next hwk.ext)) d1 (r1.weak hwk) st1
        exact ⟨e2, a2, w2, hq2, .of_steps (StepsIn.trans harr (.one (fenced_calm hb hr rfl) stepR_inLoop)) harr2⟩
      | exit id => exact ⟨_, a1, w1, hq.trans st, .pass (x := .inLoop c) rfl (fun _ _ => .inl (by simp)) harr⟩
      | goto i => exact ⟨_, a1, w1, hq.trans st, .pass (x := .inLoop c) rfl (fun _ _ => .inl (by simp)) harr⟩
      | ret => exact ⟨_, a1, w1, hq.trans st, .pass (x := .inLoop c) rfl (fun _ _ => .inl (by simp)) harr⟩
      | panic ch => exact ⟨_, a1, w1, hq.trans st, .pass (x := .inLoop c) rfl (fun _ _ => .inl (by simp)) harr⟩
      | outgrown => exact ⟨_, a1, w1, hq.trans st, .pass (x := .inLoop c) rfl (fun _ _ => .inl (by simp)) harr⟩
  obtain ⟨e, a2, w2, hq, harr⟩ := key _ y0 φ a w rfl hx (C.st r.sim l (Step.weak hw.next hw.ext)) d (r.weak hw) (Step.weak hw.next hw.ext).x
  exact ⟨e, a2, w2, hq, .of_steps (.one (fenced_calm hb hr rfl) stepR_loop) harr⟩
end rules

/-! ### Operations -/
theorem wpIn_of_wp {P : Program} {ro : Option Nat} {o : Oper} {a : Act} {w : World} {next : Act → World → Prop} {Q : Exit → Act → World → Prop} (hnd : ∀ c, o.op ≠ .defer c) (p : o.wp P a w next Q) : o.wpIn (Fc ro) 0 P a w next Q := by
  refine ⟨fun _ _ => trivial, ?_⟩
  rw [show (Fc ro).round = ro from rfl, Oper.semAt_eq ro a.eval o hnd]
  unfold Oper.wp at p
  generalize (execOp a.eval o).run P w = r at p ⊢
  unfold Oper.upon at p
  split at p
  · exact p
  · exact p
  · exact p
  · refine ⟨(fun e => by cases e), ?_⟩
    have := (callsIn_wide (n := 0 - 1)).2 p
    exact this
  · rename_i row args w' 
    refine ⟨(fun e => by cases e), ?_⟩
    intro c cs _
    obtain ⟨v, w2, hr, hs⟩ := p c cs
    exact ⟨v, w2, hr, stepsIn_wide.2 hs⟩
  · exact p
  · exact p.elim
def deferB : Op → Bool
  | .defer _ => true
  | _ => false
theorem deferB_no {op : Op} (h : deferB op = false) : ∀ c, op ≠ .defer c := by
  rintro c rfl
  cases h

theorem uponIn_mono {P : Program} {F : Fence} {o : Oper} {a : Act} {next next' : Act → World → Prop} {Q Q' : Exit → Act → World → Prop} (hn : ∀ a w, next a w → next' a w) (hq : ∀ e a w, Q e a w → Q' e a w) :
    ∀ r, o.uponIn F 0 P a next Q r → o.uponIn F 0 P a next' Q' r := by
  intro r hr
  unfold Oper.uponIn at hr ⊢
  split at hr
  · exact hn _ _ hr
  · exact hn _ _ hr
  · exact hn _ _ hr
  · refine ⟨hr.1, CallsIn.mono hr.2 fun e w' k => ?_⟩
    cases e with
    | returned v => exact hn _ _ k
    | panicked c => exact hq _ _ _ k
    | outgrown => exact letsOut_mono hq k
  · exact ⟨hr.1, RowsIn.mono hr.2 fun _ _ k => hn _ _ k⟩
  · refine ⟨hr.1, RoundIn.mono hr.2 fun e w' k => ?_⟩
    cases e with
    | returned v => exact hn _ _ k
    | panicked c => exact hq _ _ _ k
    | outgrown => exact letsOut_mono hq k
  · exact hq _ _ _ hr
  · exact hr.elim
theorem wpListIn_mono {P : Program} {F : Fence} {ops : Array Oper} {Q Q' : Exit → Act → World → Prop} (hq : ∀ e a w, Q e a w → Q' e a w) : ∀ (l : List Oper) (a : Act) (w : World), wpListIn F 0 P ops Q l a w → wpListIn F 0 P ops Q' l a w
  | [], _, _, p => hq _ _ _ p
  | o :: rest, a, w, p => by
    simp only [wpListIn] at p ⊢
    split
    · rename_i hw
      rw [if_pos hw] at p
      exact ⟨p.1, uponIn_mono (wpListIn_mono hq rest) hq _ p.2⟩
    · rename_i hw
      rw [if_neg hw] at p
      exact ⟨p.1, wpListIn_mono hq rest _ _ p.2⟩

def XL {P : Program} (C : Ctx P) (ro : Option Nat) (N : Nat) (ops : Array Oper) (l : List Oper) (Q : Exit → XQ) (env : Env) (h : Heap) (s : Option Code) : Prop :=
  ∀ φ a w, C.L s φ h w → Marks C.B a.defers w → Rel P N φ env h a.tmps w → wpListIn (Fc ro) 0 P ops (fun ex a' w' => XPost C N φ h w (Q ex) a' w') l a w
section ops
variable {P : Program} {C : Ctx P} {ro : Option Nat} {N : Nat} {ops : Array Oper} {rest : List Oper} {Q : Exit → XQ} {env : Env} {h : Heap} {s : Option Code}
theorem XWp.region {id : Nat} (p : XL C ro N ops ops.toList Q env h s) : XWp C ro N (.region id ops false) Q env h s :=
  fun φ a w l d r => wpIn_region_list (p φ a w l d r)
theorem XL.nil (k : Q .normal env h s) : XL C ro N ops [] Q env h s := fun _ _ _ l d r => XPost.now k l d r
theorem XL.heap {l : List Oper} {h' : Heap} (e : h' = h) (p : XL C ro N ops l Q env h s) : XL C ro N ops l Q env h' s := e ▸ p
theorem XL.set {d : Tmp} {op : Op} {ty : TypeId} {pos : String} {aft : Array Edge} {g : Option (Nat × Bool)} (hd : Nat.blt d N = true) (hg : gv ops env ⟨some d, op, ty, pos, aft, g⟩ = some true) (hnd : deferB op = false)
    (p : AOp P ⟨some d, op, ty, pos, aft, g⟩ (ev P env) h fun v h' => XL C ro N ops rest Q ((d, v) :: env) h' s) : XL C ro N ops (⟨some d, op, ty, pos, aft, g⟩ :: rest) Q env h s := by
  intro φ a w l hdf r
  simp only [wpListIn, wanted_of r hg, if_true]
  refine wpIn_of_wp (deferB_no hnd) (p φ a w ⟨r.sim, fun x _ => r.ev x⟩ _ _ fun c w' φ' h' v k vr sm st => ?_)
  exact wpListIn_mono (fun _ _ _ hp => hp.trans st.x) _ _ _ (k φ' _ w' (C.st r.sim l st) (by rw [put_defers]; exact hdf.step r.sim st) ((r.step sm st).put (some d) (dstB_lt hd) vr))
theorem XL.eff {op : Op} {ty : TypeId} {pos : String} {aft : Array Edge} {g : Option (Nat × Bool)} (hg : gv ops env ⟨none, op, ty, pos, aft, g⟩ = some true) (hnd : deferB op = false) (p : AOp P ⟨none, op, ty, pos, aft, g⟩ (ev P env) h fun _ h' => XL C ro N ops rest Q env h' s) :
    XL C ro N ops (⟨none, op, ty, pos, aft, g⟩ :: rest) Q env h s := by
  intro φ a w l hdf r
  simp only [wpListIn, wanted_of r hg, if_true]
  refine wpIn_of_wp (deferB_no hnd) (p φ a w ⟨r.sim, fun x _ => r.ev x⟩ _ _ fun c w' φ' h' v k vr sm st => ?_)
  exact wpListIn_mono (fun _ _ _ hp => hp.trans st.x) _ _ _ (k φ' _ w' (C.st r.sim l st) (by rw [put_defers]; exact hdf.step r.sim st) (r.step sm st))
theorem XL.skip {d : Option Tmp} {op : Op} {ty : TypeId} {pos : String} {aft : Array Edge} {g : Option (Nat × Bool)} (hd : dstB N d = true) (hg : gv ops env ⟨d, op, ty, pos, aft, g⟩ = some false)
    (p : XL C ro N ops rest Q (env.put d skipV) h s) : XL C ro N ops (⟨d, op, ty, pos, aft, g⟩ :: rest) Q env h s := by
  intro φ a w l hdf r
  simp only [wpListIn, wanted_of r hg, Bool.false_eq_true, if_false]
  exact ⟨fun _ _ => trivial, p φ _ w l (by rw [put_defers]; exact hdf) (r.put d (dstB_lt hd) .skip)⟩
end ops
end Go.Eng
