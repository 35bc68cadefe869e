/-
  Texts of one claim, merged: 2 parts.
-/
import Derived.Test.YtnioldkmckmajaaMnf
import Derived.RangeFuncLeaves
import Derived.RangeFuncRecord
import Derived.RangeFuncOwn
import Derived.TacticsIn
set_option maxHeartbeats 16000000
/-
  The engine, part S: code that ranges over functions, and the functions that are ranged over: objects besides the cells, marks, yields.
-/
namespace Go.Eng
open Go
structure Aside (w w' : World) : Prop where
  size : w.heap.size ≤ w'.heap.size
  cells : ∀ (k : Nat) (o : Obj), w.heap[k]? = some o → keptB o = true → w'.heap[k]? = some o
theorem kept_of_cells {o : Obj} (h : o.isCells = true) : keptB o = true := by
  cases o <;> first | rfl | cases h
theorem Sim.aside {P : Program} {φ : Ren} {h : Heap} {w w' : World} (s : Sim P φ h w) (q : Aside w w') : Sim P φ h w' where
  next := s.next
  low i b hi := Nat.lt_of_lt_of_le (s.low i b hi) q.size
  apart := s.apart
  glob := s.glob
  objs i o hi := by
    obtain ⟨x, h1, h2, _⟩ := (s.objs i o hi).obj
    exact (s.objs i o hi).world (fun _ _ => rfl) (s.ltO hi) (Nat.le_refl _) (by rw [q.cells _ _ h1 h2, h1])
  apartO := s.apartO
  blk i b hi := by
    have hb := s.blk i b hi
    unfold BRel at hb ⊢
    split
    · rename_i ho
      rw [if_pos ho] at hb
      obtain ⟨arr, fr, h1, h2⟩ := hb
      exact ⟨arr, fr, q.cells _ _ h1 rfl, h2⟩
    · rename_i ho
      rw [if_neg ho] at hb
      refine ⟨?_, fun k v hk => ?_⟩
      · rcases hb.1 with e | ⟨e, arr, t, fr, e1, e2⟩
        · exact .inl e
        · exact .inr ⟨e, arr, t, fr, q.cells _ _ e1 rfl, e2⟩
      obtain ⟨c, hc, hr⟩ := hb.2 k v hk
      obtain ⟨o, h1, h2⟩ := cells_of_cell hc
      have h3 := q.cells _ _ h1 (kept_of_cells h2)
      refine ⟨c, ?_, hr⟩
      unfold World.cell? at hc ⊢
      rw [h3]
      rw [h1] at hc
      exact hc
theorem Sim.not_owned {P : Program} {φ : Ren} {h : Heap} {w : World} (s : Sim P φ h w) {k : Nat} {o : Obj} (hk : w.heap[k]? = some o) (ho : keptB o = false) : ¬ Owned φ h k := by
  rintro (⟨i, b, h1, h2, rfl⟩ | ⟨i, x, h1, rfl⟩)
  · obtain ⟨arr, fr, h3, _⟩ := s.owned h1 h2
    rw [hk] at h3
    cases h3
    cases ho
  · obtain ⟨y, h3, h4, _⟩ := (s.objs i x h1).obj
    rw [hk] at h3
    cases h3
    rw [ho] at h4
    cases h4
theorem lt_of_get {w : World} {k : Nat} {o : Obj} (hk : w.heap[k]? = some o) : k < w.heap.size := (Array.getElem?_eq_some_iff.1 hk).1
theorem Step.other {P : Program} {φ φ' : Ren} {h h' : Heap} {w w' : World} (s : Sim P φ h w) (t : Step φ h w φ' h' w') {k : Nat} {o : Obj} (hk : w.heap[k]? = some o) (ho : keptB o = false) : w'.heap[k]? = some o := by
  rw [t.frame k (lt_of_get hk) (s.not_owned hk ho)]; exact hk
theorem Aside.put {w : World} {l : Nat} {o o' : Obj} (hl : w.heap[l]? = some o) (ho : keptB o = false) : Aside w (w.putObj l o') where
  size := by simp [World.putObj]
  cells k x hk hx := by
    rw [World.putObj_heap_other (by rintro rfl; rw [hl] at hk; cases hk; rw [ho] at hx; cases hx)]
    exact hk
theorem Aside.alloc (w : World) (o : Obj) : Aside w (w.alloc o) where
  size := by show w.heap.size ≤ (w.heap.push o).size; simp
  cells k x hk hx := by
    have := lt_of_get hk
    show (w.heap.push o)[k]? = _
    rw [Array.getElem?_push_lt this]
    rw [Array.getElem?_eq_getElem this] at hk
    exact hk
theorem alloc_get_old {w : World} {o x : Obj} {k : Nat} (hk : w.heap[k]? = some x) : (w.alloc o).heap[k]? = some x := by
  have := lt_of_get hk
  show (w.heap.push o)[k]? = _
  rw [Array.getElem?_push_lt this]
  rw [Array.getElem?_eq_getElem this] at hk
  exact hk
structure StepX (x : Nat → Prop) (φ : Ren) (h : Heap) (w : World) (φ' : Ren) (h' : Heap) (w' : World) : Prop where
  next : h.next ≤ h'.next
  agree : ∀ i, i < h.next → φ' i = φ i
  os : w'.os = w.os
  tape : w'.tape = w.tape
  output : w'.output = w.output
  size : w.heap.size ≤ w'.heap.size
  frame : ∀ k, k < w.heap.size → ¬ Owned φ h k → ¬ x k → w'.heap[k]? = w.heap[k]?
  own : ∀ k, Owned φ' h' k → Owned φ h k ∨ w.heap.size ≤ k
theorem Step.x {x : Nat → Prop} {φ φ' : Ren} {h h' : Heap} {w w' : World} (s : Step φ h w φ' h' w') : StepX x φ h w φ' h' w' :=
  ⟨s.next, s.agree, s.os, s.tape, s.output, s.size, fun k a b _ => s.frame k a b, s.own⟩
theorem StepX.full {x : Nat → Prop} {φ φ' : Ren} {h h' : Heap} {w w' : World} (s : StepX x φ h w φ' h' w') (hx : ∀ k, k < w.heap.size → ¬ x k) : Step φ h w φ' h' w' :=
  ⟨s.next, s.agree, s.os, s.tape, s.output, s.size, fun k a b => s.frame k a b (hx k a), s.own⟩
theorem StepX.wider {x y : Nat → Prop} {φ φ' : Ren} {h h' : Heap} {w w' : World} (s : StepX x φ h w φ' h' w') (hx : ∀ k, k < w.heap.size → x k → y k) : StepX y φ h w φ' h' w' :=
  ⟨s.next, s.agree, s.os, s.tape, s.output, s.size, fun k a b c => s.frame k a b (fun d => c (hx k a d)), s.own⟩
theorem StepX.refl (x : Nat → Prop) (φ : Ren) (h : Heap) (w : World) : StepX x φ h w φ h w := (Step.refl φ h w).x
theorem StepX.trans {x : Nat → Prop} {φ1 φ2 φ3 : Ren} {h1 h2 h3 : Heap} {w1 w2 w3 : World} (a : StepX x φ1 h1 w1 φ2 h2 w2) (b : StepX x φ2 h2 w2 φ3 h3 w3) : StepX x φ1 h1 w1 φ3 h3 w3 where
  next := Nat.le_trans a.next b.next
  agree i hi := (b.agree i (Nat.lt_of_lt_of_le hi a.next)).trans (a.agree i hi)
  os := b.os.trans a.os
  tape := b.tape.trans a.tape
  output := b.output.trans a.output
  size := Nat.le_trans a.size b.size
  frame k hk ho hx := by
    rw [b.frame k (Nat.lt_of_lt_of_le hk a.size) (fun h => (a.own k h).elim ho (fun h' => by omega)) hx, a.frame k hk ho hx]
  own k hk := (b.own k hk).elim (fun h => a.own k h) (fun h => .inr (Nat.le_trans a.size h))
theorem StepX.mono {x : Nat → Prop} {φ φ' : Ren} {h h' : Heap} {w w' : World} (s : StepX x φ h w φ' h' w') {v c : Value} (r : VRel φ h.next v c) : VRel φ' h'.next v c := r.mono s.agree s.next
theorem StepX.put {x : Nat → Prop} {φ φ' : Ren} {h h' : Heap} {w w' : World} (s : StepX x φ h w φ' h' w') {l : Nat} (o : Obj) (hl : w.heap.size ≤ l ∨ x l) : StepX x φ h w φ' h' (w'.putObj l o) :=
  ⟨s.next, s.agree, s.os, s.tape, s.output, by simpa [World.putObj] using s.size, fun k a b c => by
    rw [World.putObj_heap_other (by rintro rfl; rcases hl with hl | hl; omega; exact c hl)]
    exact s.frame k a b c, s.own⟩
theorem StepX.alloc {x : Nat → Prop} {φ φ' : Ren} {h h' : Heap} {w w' : World} (s : StepX x φ h w φ' h' w') (o : Obj) : StepX x φ h w φ' h' (w'.alloc o) :=
  ⟨s.next, s.agree, s.os, s.tape, s.output, by have := s.size; show w.heap.size ≤ (w'.heap.push o).size; simp; omega, fun k a b c => by
    have := s.size
    have h1 : k < w'.heap.size := by omega
    show (w'.heap.push o)[k]? = _
    rw [Array.getElem?_push_lt h1, ← Array.getElem?_eq_getElem h1]
    exact s.frame k a b c, s.own⟩
def Marks (B : Nat → Prop) (ds : List Deferred) (w : World) : Prop :=
  ∃ Ds : List Nat, ds = Ds.map (fun D => { target := .collected D, args := #[] }) ∧ Ds.Nodup ∧ ∀ D ∈ Ds, B D ∧ w.heap[D]? = some (.deferred (some []))
theorem Marks.nil (B : Nat → Prop) (w : World) : Marks B [] w := ⟨[], rfl, .nil, by simp⟩
theorem Marks.keep {B : Nat → Prop} {ds : List Deferred} {w w' : World} (m : Marks B ds w) (hk : ∀ (D : Nat), w.heap[D]? = some (Obj.deferred (some [])) → w'.heap[D]? = some (Obj.deferred (some []))) : Marks B ds w' := by
  obtain ⟨Ds, h1, h2, h3⟩ := m
  exact ⟨Ds, h1, h2, fun D hD => ⟨(h3 D hD).1, hk D (h3 D hD).2⟩⟩
theorem Marks.step {P : Program} {B : Nat → Prop} {ds : List Deferred} {φ φ' : Ren} {h h' : Heap} {w w' : World} (m : Marks B ds w) (s : Sim P φ h w) (t : Step φ h w φ' h' w') : Marks B ds w' :=
  m.keep fun _D hD => t.other s hD rfl
structure Ctx (P : Program) where
  x : Nat → Prop
  L : Option Code → Ren → Heap → World → Prop
  B : Nat → Prop
  st : ∀ {s : Option Code} {φ φ' : Ren} {h h' : Heap} {w w' : World}, Sim P φ h w → L s φ h w → Step φ h w φ' h' w' → L s φ' h' w'
abbrev Fc (ro : Option Nat) : Fence := { Fence.wide with round := ro }
abbrev XQ := Env → Heap → Option Code → Prop
def XPost {P : Program} (C : Ctx P) (N : Nat) (φ : Ren) (h : Heap) (w : World) (K : XQ) (a' : Act) (w' : World) : Prop :=
  ∃ env' h' s' φ', K env' h' s' ∧ Marks C.B a'.defers w' ∧ Rel P N φ' env' h' a'.tmps w' ∧ StepX C.x φ h w φ' h' w' ∧ C.L s' φ' h' w'
def XWp {P : Program} (C : Ctx P) (ro : Option Nat) (N : Nat) (c : Code) (Q : Exit → XQ) (env : Env) (h : Heap) (s : Option Code) : Prop :=
  ∀ φ a w, C.L s φ h w → Marks C.B a.defers w → Rel P N φ env h a.tmps w → c.wpIn (Fc ro) 0 P (fun ex a' w' => XPost C N φ h w (Q ex) a' w') a w
section rules
variable {P : Program} {C : Ctx P} {ro : Option Nat} {N : Nat} {Q : Exit → XQ} {env : Env} {h : Heap} {s : Option Code}
theorem XPost.trans {φ φ' : Ren} {h h' : Heap} {w w' : World} {K : XQ} {a : Act} {w2 : World} (p : XPost C N φ' h' w' K a w2) (t : StepX C.x φ h w φ' h' w') : XPost C N φ h w K a w2 := by
  obtain ⟨e, h2, s2, φ2, k, d, r, u, l⟩ := p
  exact ⟨e, h2, s2, φ2, k, d, r, t.trans u, l⟩
theorem XPost.mono {φ : Ren} {h : Heap} {w : World} {K K' : XQ} {a : Act} {w2 : World} (p : XPost C N φ h w K a w2) (hk : ∀ e h' s', K e h' s' → K' e h' s') : XPost C N φ h w K' a w2 := by
  obtain ⟨e, h2, s2, φ2, k, r⟩ := p
  exact ⟨e, h2, s2, φ2, hk _ _ _ k, r⟩
theorem XPost.now {φ : Ren} {h : Heap} {w : World} {K : XQ} {env : Env} {a : Act} (k : K env h s) (l : C.L s φ h w) (d : Marks C.B a.defers w) (r : Rel P N φ env h a.tmps w) : XPost C N φ h w K a w :=
  ⟨env, h, s, φ, k, d, r, StepX.refl _ _ _ _, l⟩
theorem XWp.wf {c : Code} (p : WF h → XWp C ro N c Q env h s) : XWp C ro N c Q env h s := fun φ a w l d r => p r.sim.next φ a w l d r
theorem XWp.skip (k : Q .normal env h s) : XWp C ro N .skip Q env h s := fun _ _ _ l d r => wpIn_skip (XPost.now k l d r)
theorem XWp.exit {id : Nat} (k : Q (.exit id) env h s) : XWp C ro N (.exit id) Q env h s := fun _ _ _ l d r => wpIn_exit (XPost.now k l d r)
theorem XWp.ret (k : Q .ret env h s) : XWp C ro N .ret Q env h s := fun _ _ _ l d r => wpIn_ret (XPost.now k l d r)
theorem XWp.label {i : Nat} (k : Q .normal env h s) : XWp C ro N (.label i) Q env h s := fun _ _ _ l d r => wpIn_label (XPost.now k l d r)
@[reducible] def thenX (K : XQ) (Q : Exit → XQ) : Exit → XQ
  | .normal => K
  | ex => Q ex
@[reducible] def seqX (C : Ctx P) (ro : Option Nat) (N : Nat) (y : Code) (Q : Exit → XQ) : Exit → XQ
  | .normal => XWp C ro N y Q
  | ex => Q ex
theorem XWp.seq {x y : Code} (p : XWp C ro N x (seqX C ro N y Q) env h s) : XWp C ro N (.seq x y) Q env h s := by
  intro φ a w l d r
  refine wpIn_seq (wpIn_mono (p φ a w l d r) fun ex a' w' hp => ?_)
  cases ex with
  | normal =>
    obtain ⟨e, h2, s2, φ2, k, d2, r2, t, l2⟩ := hp
    exact wpIn_mono (k φ2 a' w' l2 d2 r2) fun _ _ _ hp2 => hp2.trans t
  | _ => exact hp
theorem XWp.cond {c : Operand} {x y : Code} {t : Bool} (hc : ev P env c = .bool t) (ht : t = true → XWp C ro N x Q env h s) (hf : t = false → XWp C ro N y Q env h s) : XWp C ro N (.cond c x y) Q env h s := by
  intro φ a w l d r
  have hv := r.ev c
  rw [hc] at hv
  exact wpIn_cond_split hv.bool_inv (fun e => ht e φ a w l d r) (fun e => hf e φ a w l d r)
theorem XWp.condT {c : Operand} {x y : Code} (hc : ev P env c = .bool true) (p : XWp C ro N x Q env h s) : XWp C ro N (.cond c x y) Q env h s := .cond hc (fun _ => p) (fun e => by cases e)
theorem XWp.condF {c : Operand} {x y : Code} (hc : ev P env c = .bool false) (p : XWp C ro N y Q env h s) : XWp C ro N (.cond c x y) Q env h s := .cond hc (fun e => by cases e) (fun _ => p)
@[reducible] def blockX (id : Nat) (Q : Exit → XQ) : Exit → XQ
  | .exit id', e, h, s => if id' = id then Q .normal e h s else Q (.exit id') e h s
  | ex, e, h, s => Q ex e h s
theorem XWp.block {id : Nat} {c : Code} (p : XWp C ro N c (blockX id Q) env h s) : XWp C ro N (.block id c) Q env h s := by
  intro φ a w l d r
  refine wpIn_block (wpIn_mono (p φ a w l d r) fun ex a' w' hp => ?_)
  cases ex with
  | exit id' =>
    simp only [Exit.inBlock]
    split
    · rename_i he
      exact hp.mono fun e h' s' k => by simpa [blockX, he] using k
    · rename_i he
      exact hp.mono fun e h' s' k => by simpa [blockX, he] using k
  | _ => exact hp
theorem XWp.loop {α : Type} {c : Code} (E : α → Env) (H : α → Heap) (V : α → Prop) (m : α → Nat) (y0 : α) (hx : V y0) (hw : Weak env h (E y0) (H y0))
    (round : ∀ y, V y → XWp C ro N c (thenX (fun e h' s' => s' = s ∧ ∃ z, V z ∧ m z < m y ∧ Weak e h' (E z) (H z)) Q) (E y) (H y) s) : XWp C ro N (.loop c) Q env h s := by
  intro φ a w l d r b k cs hro hb hr
  have key : ∀ n y φ' a' w', m y = n → V y → C.L s φ' (H y) w' → Marks C.B a'.defers w' → Rel P N φ' (E y) (H y) a'.tmps w' → StepX C.x φ h w φ' (H y) w' →
      ∃ e a2 w2, XPost C N φ h w (Q e) a2 w2 ∧ ArrivesIn (Machine.fenced P (Fc ro)) P (lone (b.atR a' (.code c :: .inLoop c :: k)) cs w') b k cs e a2 w2 := by
    intro n
    induction n using Nat.strongRecOn with
    | _ n ih =>
      intro y φ' a' w' hn hv hl' hd' r' st
      obtain ⟨e, a1, w1, hq, harr⟩ := round y hv φ' a' w' hl' hd' r' b (.inLoop c :: k) cs hro hb hr
      cases e with
      | normal =>
        obtain ⟨e1, h1, s1, φ1, ⟨rfl, z, hz, hlt, hwk⟩, d1, r1, t1, l1⟩ := hq
        have st1 : StepX C.x φ h w φ1 (H z) w1 := (st.trans t1).trans (Step.weak hwk.next hwk.ext).x
        obtain ⟨e2, a2, w2, hq2, harr2⟩ := ih (m z) (hn ▸ hlt) z φ1 a1 w1 rfl hz (C.st r1.sim l1 (Step.weak hwk.next hwk.ext)) d1 (r1.weak hwk) st1
        exact ⟨e2, a2, w2, hq2, .of_steps (StepsIn.trans harr (.one (fenced_calm hb hr rfl) stepR_inLoop)) harr2⟩
      | exit id => exact ⟨_, a1, w1, hq.trans st, .pass (x := .inLoop c) rfl (fun _ _ => .inl (by simp)) harr⟩
      | goto i => exact ⟨_, a1, w1, hq.trans st, .pass (x := .inLoop c) rfl (fun _ _ => .inl (by simp)) harr⟩
      | ret => exact ⟨_, a1, w1, hq.trans st, .pass (x := .inLoop c) rfl (fun _ _ => .inl (by simp)) harr⟩
      | panic ch => exact ⟨_, a1, w1, hq.trans st, .pass (x := .inLoop c) rfl (fun _ _ => .inl (by simp)) harr⟩
      | outgrown => exact ⟨_, a1, w1, hq.trans st, .pass (x := .inLoop c) rfl (fun _ _ => .inl (by simp)) harr⟩
  obtain ⟨e, a2, w2, hq, harr⟩ := key _ y0 φ a w rfl hx (C.st r.sim l (Step.weak hw.next hw.ext)) d (r.weak hw) (Step.weak hw.next hw.ext).x
  exact ⟨e, a2, w2, hq, .of_steps (.one (fenced_calm hb hr rfl) stepR_loop) harr⟩
end rules
theorem wpIn_of_wp {P : Program} {ro : Option Nat} {o : Oper} {a : Act} {w : World} {next : Act → World → Prop} {Q : Exit → Act → World → Prop} (hnd : ∀ c, o.op ≠ .defer c) (p : o.wp P a w next Q) : o.wpIn (Fc ro) 0 P a w next Q := by
  refine ⟨fun _ _ => trivial, ?_⟩
  rw [show (Fc ro).round = ro from rfl, Oper.semAt_eq ro a.eval o hnd]
  unfold Oper.wp at p
  generalize (execOp a.eval o).run P w = r at p ⊢
  unfold Oper.upon at p
  split at p
  · exact p
  · exact p
  · exact p
  · refine ⟨(fun e => by cases e), ?_⟩
    have := (callsIn_wide (n := 0 - 1)).2 p
    exact this
  · rename_i row args w' 
    refine ⟨(fun e => by cases e), ?_⟩
    intro c cs _
    obtain ⟨v, w2, hr, hs⟩ := p c cs
    exact ⟨v, w2, hr, stepsIn_wide.2 hs⟩
  · exact p
  · exact p.elim
def deferB : Op → Bool
  | .defer _ => true
  | _ => false
theorem deferB_no {op : Op} (h : deferB op = false) : ∀ c, op ≠ .defer c := by
  rintro c rfl
  cases h
theorem uponIn_mono {P : Program} {F : Fence} {o : Oper} {a : Act} {next next' : Act → World → Prop} {Q Q' : Exit → Act → World → Prop} (hn : ∀ a w, next a w → next' a w) (hq : ∀ e a w, Q e a w → Q' e a w) :
    ∀ r, o.uponIn F 0 P a next Q r → o.uponIn F 0 P a next' Q' r := by
  intro r hr
  unfold Oper.uponIn at hr ⊢
  split at hr
  · exact hn _ _ hr
  · exact hn _ _ hr
  · exact hn _ _ hr
  · refine ⟨hr.1, CallsIn.mono hr.2 fun e w' k => ?_⟩
    cases e with
    | returned v => exact hn _ _ k
    | panicked c => exact hq _ _ _ k
    | outgrown => exact letsOut_mono hq k
  · exact ⟨hr.1, RowsIn.mono hr.2 fun _ _ k => hn _ _ k⟩
  · refine ⟨hr.1, RoundIn.mono hr.2 fun e w' k => ?_⟩
    cases e with
    | returned v => exact hn _ _ k
    | panicked c => exact hq _ _ _ k
    | outgrown => exact letsOut_mono hq k
  · exact hq _ _ _ hr
  · exact hr.elim
theorem wpListIn_mono {P : Program} {F : Fence} {ops : Array Oper} {Q Q' : Exit → Act → World → Prop} (hq : ∀ e a w, Q e a w → Q' e a w) : ∀ (l : List Oper) (a : Act) (w : World), wpListIn F 0 P ops Q l a w → wpListIn F 0 P ops Q' l a w
  | [], _, _, p => hq _ _ _ p
  | o :: rest, a, w, p => by
    simp only [wpListIn] at p ⊢
    split
    · rename_i hw
      rw [if_pos hw] at p
      exact ⟨p.1, uponIn_mono (wpListIn_mono hq rest) hq _ p.2⟩
    · rename_i hw
      rw [if_neg hw] at p
      exact ⟨p.1, wpListIn_mono hq rest _ _ p.2⟩
def XL {P : Program} (C : Ctx P) (ro : Option Nat) (N : Nat) (ops : Array Oper) (l : List Oper) (Q : Exit → XQ) (env : Env) (h : Heap) (s : Option Code) : Prop :=
  ∀ φ a w, C.L s φ h w → Marks C.B a.defers w → Rel P N φ env h a.tmps w → wpListIn (Fc ro) 0 P ops (fun ex a' w' => XPost C N φ h w (Q ex) a' w') l a w
section ops
variable {P : Program} {C : Ctx P} {ro : Option Nat} {N : Nat} {ops : Array Oper} {rest : List Oper} {Q : Exit → XQ} {env : Env} {h : Heap} {s : Option Code}
theorem XWp.region {id : Nat} (p : XL C ro N ops ops.toList Q env h s) : XWp C ro N (.region id ops false) Q env h s :=
  fun φ a w l d r => wpIn_region_list (p φ a w l d r)
theorem XL.nil (k : Q .normal env h s) : XL C ro N ops [] Q env h s := fun _ _ _ l d r => XPost.now k l d r
theorem XL.heap {l : List Oper} {h' : Heap} (e : h' = h) (p : XL C ro N ops l Q env h s) : XL C ro N ops l Q env h' s := e ▸ p
theorem XL.set {d : Tmp} {op : Op} {ty : TypeId} {pos : String} {aft : Array Edge} {g : Option (Nat × Bool)} (hd : Nat.blt d N = true) (hg : gv ops env ⟨some d, op, ty, pos, aft, g⟩ = some true) (hnd : deferB op = false)
    (p : AOp P ⟨some d, op, ty, pos, aft, g⟩ (ev P env) h fun v h' => XL C ro N ops rest Q ((d, v) :: env) h' s) : XL C ro N ops (⟨some d, op, ty, pos, aft, g⟩ :: rest) Q env h s := by
  intro φ a w l hdf r
  simp only [wpListIn, wanted_of r hg, if_true]
  refine wpIn_of_wp (deferB_no hnd) (p φ a w ⟨r.sim, fun x _ => r.ev x⟩ _ _ fun c w' φ' h' v k vr sm st => ?_)
  exact wpListIn_mono (fun _ _ _ hp => hp.trans st.x) _ _ _ (k φ' _ w' (C.st r.sim l st) (by rw [put_defers]; exact hdf.step r.sim st) ((r.step sm st).put (some d) (dstB_lt hd) vr))
theorem XL.eff {op : Op} {ty : TypeId} {pos : String} {aft : Array Edge} {g : Option (Nat × Bool)} (hg : gv ops env ⟨none, op, ty, pos, aft, g⟩ = some true) (hnd : deferB op = false) (p : AOp P ⟨none, op, ty, pos, aft, g⟩ (ev P env) h fun _ h' => XL C ro N ops rest Q env h' s) :
    XL C ro N ops (⟨none, op, ty, pos, aft, g⟩ :: rest) Q env h s := by
  intro φ a w l hdf r
  simp only [wpListIn, wanted_of r hg, if_true]
  refine wpIn_of_wp (deferB_no hnd) (p φ a w ⟨r.sim, fun x _ => r.ev x⟩ _ _ fun c w' φ' h' v k vr sm st => ?_)
  exact wpListIn_mono (fun _ _ _ hp => hp.trans st.x) _ _ _ (k φ' _ w' (C.st r.sim l st) (by rw [put_defers]; exact hdf.step r.sim st) (r.step sm st))
theorem XL.skip {d : Option Tmp} {op : Op} {ty : TypeId} {pos : String} {aft : Array Edge} {g : Option (Nat × Bool)} (hd : dstB N d = true) (hg : gv ops env ⟨d, op, ty, pos, aft, g⟩ = some false)
    (p : XL C ro N ops rest Q (env.put d skipV) h s) : XL C ro N ops (⟨d, op, ty, pos, aft, g⟩ :: rest) Q env h s := by
  intro φ a w l hdf r
  simp only [wpListIn, wanted_of r hg, Bool.false_eq_true, if_false]
  exact ⟨fun _ _ => trivial, p φ _ w l (by rw [put_defers]; exact hdf) (r.put d (dstB_lt hd) .skip)⟩
end ops
end Go.Eng
/-
  The engine, part T: ranges over functions, yields, and the contracts of both.
-/
namespace Go.Eng
open Go
abbrev yieldV (l : Nat) : Value := .func (.yield l) #[] #[]
def YRes {P : Program} (C : Ctx P) (φ : Ren) (h : Heap) (w : World) (K : Value → Heap → Option Code → Prop) : Ending → World → Prop
  | .returned c, w' => ∃ v h' s' φ', K v h' s' ∧ VRel φ' h'.next v c ∧ Sim P φ' h' w' ∧ StepX C.x φ h w φ' h' w' ∧ C.L s' φ' h' w' ∧
      ∀ D : Nat, w.heap[D]? = some (Obj.deferred (some [])) → w'.heap[D]? = some (Obj.deferred (some []))
  | _, _ => False
def YSpec {P : Program} (C : Ctx P) (ro : Option Nat) (l : Nat) (args : List Value) (h : Heap) (s : Option Code) (K : Value → Heap → Option Code → Prop) : Prop :=
  ∀ φ w cargs, C.L s φ h w → Sim P φ h w → VRels φ h.next args cargs → YieldAt (Fc ro) (0 - 1) P l cargs.toArray w (YRes C φ h w K)
def XCalls {P : Program} (C : Ctx P) (f : FuncId) (args : List Value) (h : Heap) (s : Option Code) (K : Value → Heap → Option Code → Prop) : Prop :=
  ∀ φ w cargs, C.L s φ h w → Sim P φ h w → VRels φ h.next args cargs → CallsIn (Fc none) 0 P f cargs.toArray w (YRes C φ h w K)
section
variable {P : Program} {C : Ctx P} {ro : Option Nat} {N : Nat} {ops : Array Oper} {rest : List Oper} {Q : Exit → XQ} {env : Env} {h : Heap} {s : Option Code}
theorem XL.yield {d : Tmp} {x : Operand} {args : Array Operand} {aT : Array TypeId} {l : Nat} {ty : TypeId} {pos : String} {aft : Array Edge} {g : Option (Nat × Bool)} (hd : Nat.blt d N = true)
    (hg : gv ops env ⟨some d, .call ⟨.value x, args, aT⟩, ty, pos, aft, g⟩ = some true) (hx : ev P env x = yieldV l)
    (hy : YSpec C ro l (args.toList.map (ev P env)) h s fun v h' s' => XL C ro N ops rest Q ((d, v) :: env) h' s') : XL C ro N ops (⟨some d, .call ⟨.value x, args, aT⟩, ty, pos, aft, g⟩ :: rest) Q env h s := by
  intro φ a w hl hdf r
  simp only [wpListIn, wanted_of r hg, if_true]
  have hv := hx ▸ r.ev x
  obtain ⟨f', d', e1, s1, s2, _, _⟩ := hv.func_inv
  have hf0 : f' = #[] := Array.eq_empty_of_size_eq_zero s1.symm
  subst hf0
  have hargs : VRels φ h.next (args.toList.map (ev P env)) (args.toList.map a.eval) := VRels.map fun y _ => r.ev y
  obtain ⟨fn, tmps, assign, body, hrun, hround⟩ := hy φ w _ hl r.sim hargs
  have harr : (args.toList.map a.eval).toArray = args.map a.eval := by apply Array.ext'; simp
  rw [harr] at hrun
  refine ⟨fun _ _ => trivial, ?_⟩
  rw [show (Fc ro).round = ro from rfl, Oper.semAt_eq ro a.eval _ (by intro c e; cases e)]
  have hex : (execOp a.eval ⟨some d, .call ⟨.value x, args, aT⟩, ty, pos, aft, g⟩).run P w = .ok (.round l fn tmps assign body) w := by
    simp only [execOp, resolve, e1, Deferred.ofValue, Sem.run_bind, Sem.run_pure, Result.andThen_ok, invoke]
    simpa using hrun
  rw [hex]
  refine ⟨(fun e => by cases e), RoundIn.mono hround fun e w' hr => ?_⟩
  cases e with
  | returned c =>
    obtain ⟨v, h', s', φ', k, v1, v2, v3, v4, v5⟩ := hr
    have r' : Rel P N φ' env h' a.tmps w' := ⟨v2, r.size, fun t => v3.mono (r.env t)⟩
    exact wpListIn_mono (fun _ _ _ hp => hp.trans v3) _ _ _ (k φ' _ w' v4 (by rw [put_defers]; exact hdf.keep v5) (r'.put (some d) (dstB_lt hd) v1))
  | _ => exact hr.elim
def setPs : List Tmp → List Value → Env → Env
  | t :: ts, v :: vs, e => setPs ts vs ((t, v) :: e)
  | _, _, e => e
theorem setPs_rel {φ : Ren} {w : World} : ∀ {ts : List Tmp} {vs cs : List Value} {env : Env} {tmps : Array Value}, ts.all (fun t => Nat.blt t N) = true → VRels φ h.next vs cs → Rel P N φ env h tmps w →
    Rel P N φ (setPs ts vs env) h ((ts.zip cs).foldl (fun (t : Array Value) (p : Tmp × Value) => t.setIfInBounds p.1 p.2) tmps) w
  | [], _, _, _, _, _, _, r => by simpa [setPs] using r
  | t :: ts, [], _, _, _, _, va, r => by cases va; simpa [setPs] using r
  | t :: ts, v :: vs, _, env, tmps, hb, va, r => by
    cases va with
    | cons hv hvs =>
      simp only [List.all_cons, Bool.and_eq_true] at hb
      simp only [setPs, List.zip_cons_cons, List.foldl_cons]
      refine setPs_rel hb.2 hvs ?_
      have := r.put (a := ⟨tmps, []⟩) (some t) (by rintro x hx; cases hx; simpa [Nat.blt_eq] using hb.1) hv
      exact this
@[reducible] def roundX (T : Heap → Prop) (F : Heap → Code → Prop) : Exit → XQ
  | .normal, _, h, _ => T h
  | .ret, _, h, _ => F h .ret
  | .exit id, _, h, _ => F h (.exit id)
  | _, _, _, _ => False
def YS {P : Program} (C : Ctx P) (l : Nat) {ι : Type} (Pre : ι → Heap → List Value → Prop) (T : ι → Heap → Prop) (F : ι → Heap → Code → Prop) : Prop :=
  ∀ i H args, Pre i H args → YSpec C none l args H none fun v h' s' => (v = .bool true ∧ s' = none ∧ T i h') ∨ (v = .bool false ∧ ∃ j, s' = some j ∧ F i h' j)
def roundCtx (P : Program) (l : Nat) (rec : Loop) (φ0 : Ren) (h0 : Heap) (w0 : World) : Ctx P where
  x := fun k => k = l
  L := fun _ φ h w => StepX (fun k => k = l) φ0 h0 w0 φ h w ∧ w.heap[l]? = some (.loop rec)
  B := fun _ => False
  st := fun s l t => ⟨l.1.trans t.x, t.other s l.2 rfl⟩
def recOf (rec : Loop) : Option Code → Loop
  | none => rec
  | some j => { rec with state := .done, pending := some j }
def seqCtx (P : Program) (l : Nat) (rec : Loop) (φ0 : Ren) (h0 : Heap) (w0 : World) : Ctx P where
  x := fun k => k = l
  L := fun s φ h w => StepX (fun k => k = l) φ0 h0 w0 φ h w ∧ w.heap[l]? = some (.loop (recOf rec s))
  B := fun _ => False
  st := fun s l t => ⟨l.1.trans t.x, t.other s l.2 rfl⟩
theorem marks_false {ds : List Deferred} {w : World} (m : Marks (fun _ => False) ds w) : ds = [] := by
  obtain ⟨Ds, h1, _, h3⟩ := m
  cases Ds with
  | nil => exact h1
  | cons D Ds => exact ((h3 D (by simp)).1).elim
def Ctx.Quiet {P : Program} (C : Ctx P) : Prop := ∀ (s s' : Option Code) (φ φ' : Ren) (h h' : Heap) (w w' : World), Sim P φ h w → StepX C.x φ h w φ' h' w' → C.L s φ h w → C.L s' φ' h' w' →
  ∀ D : Nat, w.heap[D]? = some (Obj.deferred (some [])) → w'.heap[D]? = some (Obj.deferred (some []))
theorem seqCtx_quiet {P : Program} (l : Nat) (rec : Loop) (φ0 : Ren) (h0 : Heap) (w0 : World) : (seqCtx P l rec φ0 h0 w0).Quiet := by
  intro s s' φ φ' h h' w w' sm st l1 _ D hD
  have hne : ¬ D = l := by rintro rfl; have h2 := l1.2; rw [hD] at h2; cases h2
  rw [st.frame D (lt_of_get hD) (sm.not_owned hD rfl) hne]
  exact hD
theorem YSpec.mono {P : Program} {C : Ctx P} {ro : Option Nat} {l : Nat} {args : List Value} {h : Heap} {s : Option Code} {K K' : Value → Heap → Option Code → Prop} (p : YSpec C ro l args h s K) (hk : ∀ v h' s', WF h' → h.next ≤ h'.next → K v h' s' → K' v h' s') : YSpec C ro l args h s K' := by
  intro φ w cargs hl sm va
  obtain ⟨fn, tmps, assign, body, hrun, hround⟩ := p φ w cargs hl sm va
  refine ⟨fn, tmps, assign, body, hrun, RoundIn.mono hround fun e w' hr => ?_⟩
  cases e with
  | returned c =>
    obtain ⟨v, h', s', φ', k, v1, v2, v3, v4, v5⟩ := hr
    exact ⟨v, h', s', φ', hk v h' s' v2.next v3.next k, v1, v2, v3, v4, v5⟩
  | _ => exact hr
theorem XWp.rangeFunc {gop : Operand} {ps : Array Tmp} {assign body : Code} {gf : FuncId} {fi ca : List Value} [fc : FnC P gf] {ι : Type} (Pre : ι → Heap → List Value → Prop) (T : ι → Heap → Prop) (F : ι → Heap → Code → Prop) (E : Heap → Prop) (J : Heap → Code → Prop)
    (hx : ev P env gop = .func (.func gf) fi.toArray ca.toArray) (_hxC : ∀ k, ¬ C.x k) (hB : ∀ φ w, C.L s φ h w → C.B w.heap.size) (hps : ps.toList.all (fun t => Nat.blt t N) = true)
    (hlen : ∀ i H args, Pre i H args → args.length = ps.size)
    (seq : ∀ (C1 : Ctx P) l, C1.Quiet → YS C1 l Pre T F → XCalls C1 gf (fi ++ (yieldV l :: ca)) h none fun _ h' s' => (s' = none ∧ E h') ∨ ∃ j, s' = some j ∧ J h' j)
    (bod : ∀ (Ca Cb : Ctx P) l i H args, Pre i H args → XWp Ca (some l) N assign (thenX (fun e h' _ => XWp Cb (some l) N body (roundX (T i) (F i)) e h' none) (fun _ _ _ _ => False)) (setPs ps.toList args env) H none)
    (fin : ∀ h', h.next ≤ h'.next → E h' → Q .normal env h' s) (jmp : ∀ h' j, h.next ≤ h'.next → J h' j → XWp C none N j Q env h' s) : XWp C none N (.rangeFunc gop ps assign body) Q env h s := by
  intro φ a w hl hm r
  refine wpIn_rangeFunc fun fnid _ => ?_
  have hv := hx ▸ r.ev gop
  obtain ⟨f', d', e1, s1, s2, q1, q2⟩ := hv.func_inv
  obtain ⟨fn, hf, hb, hn⟩ := fc.ex
  have hbn : fn.body.isNone = false := by
    cases hbb : fn.body with
    | none => rw [hbb] at hb; cases hb
    | some _ => rfl
  obtain ⟨D, hD⟩ : ∃ D, D = w.heap.size := ⟨_, rfl⟩
  obtain ⟨rec, hrec⟩ : ∃ rec : Loop, rec = { state := .ready, pending := none, fn := fnid, tmps := a.tmps, params := ps, assign := assign, body := body, defers := w.heap.size } := ⟨_, rfl⟩
  have henter := run_enterLoop_outer (P := P) (w := w) fnid a.tmps ps assign body
  rw [← hrec] at henter
  obtain ⟨w1, hw1⟩ : ∃ w1, w1 = (w.alloc (.deferred (some []))).alloc (.loop rec) := ⟨_, rfl⟩
  rw [← hw1] at henter
  have hDw : w1.heap[D]? = some (Obj.deferred (some [])) := by
    rw [hw1, hD]
    exact alloc_get_old (World.alloc_heap_new _ _)
  have hlw : w1.heap[D + 1]? = some (Obj.loop rec) := by
    have := World.alloc_heap_new (w.alloc (.deferred (some []))) (.loop rec)
    rw [World.size_alloc] at this
    rw [hw1, hD]
    exact this
  have sim1 : Sim P φ h w1 := by rw [hw1]; exact (r.sim.aside (.alloc _ _)).aside (.alloc _ _)
  have st1 : StepX (fun _ => False) φ h w φ h w1 := by rw [hw1]; exact ((StepX.refl _ _ _ _).alloc _).alloc _
  have hst0 : rec.state = .ready := by rw [hrec]
  have hpd0 : rec.pending = none := by rw [hrec]
  have hps0 : rec.params = ps := by rw [hrec]
  have htm0 : rec.tmps = a.tmps := by rw [hrec]
  have has0 : rec.assign = assign := by rw [hrec]
  have hbo0 : rec.body = body := by rw [hrec]
  clear hrec
  obtain ⟨l, hl1⟩ : ∃ l, l = D + 1 := ⟨_, rfl⟩
  rw [← hl1] at hlw
  have hlsz : w.heap.size ≤ l := by omega
  have hev : (resolve a.eval (rangeCall gop l) 0).run P w1 = .ok { target := .fn (.func gf) d', args := f' ++ #[yieldV l] } w1 := by
    have hmap : (#[Operand.const (yieldV l)] : Array Operand).map a.eval = #[yieldV l] := by simp [Act.eval]
    simp only [resolve, hmap, e1, Deferred.ofValue, Sem.run_pure]
  have hinv : (invoke (.fn (.func gf) d') (f' ++ #[yieldV l])).run P w1 = .ok (.enter gf (f'.toList ++ (yieldV l :: d'.toList)).toArray) w1 := by
    have harr : (f' ++ #[yieldV l] ++ d') = (f'.toList ++ (yieldV l :: d'.toList)).toArray := by apply Array.ext'; simp
    simp only [invoke, callFunc, Sem.run_bind, run_program, Result.andThen_ok, hf, hn, hbn, Bool.false_eq_true, if_false, Sem.run_pure]
    rw [harr]
  refine ⟨l, _, w1, _, w1, gf, _, w1, by rw [hl1, hD]; exact henter, hev, fun _ _ => trivial, hinv, (fun e => by cases e), ?_⟩
  have hargs : VRels φ h.next (fi ++ (yieldV l :: ca)) (f'.toList ++ (yieldV l :: d'.toList)) := by
    refine VRels.append (by simpa using VRels.ofArr s1 q1) (.cons (.func _ _ _ _ _ rfl rfl (by simp) (by simp)) (by simpa using VRels.ofArr s2 q2))
  have ys : YS (seqCtx P l rec φ h w1) l Pre T F := by
    intro i H args hpre φ' w' cargs hL sm va
    obtain ⟨hstp, hrecl⟩ := hL
    replace hrecl : w'.heap[l]? = some (.loop rec) := hrecl
    have hcl : cargs.toArray.size = rec.params.size := by
      have := va.length
      rw [hlen i H args hpre] at this
      simp [hps0, this]
    refine ⟨_, _, _, _, run_yield hrecl hcl, ?_⟩
    rw [has0, hbo0, hps0, htm0]
    have hrel : Rel P N φ' env H a.tmps w' := ⟨sm, r.size, fun t => hstp.mono (r.env t)⟩
    have hrel2 := setPs_rel hps va hrel
    have hfold : (ps.zip cargs.toArray).foldl (fun tmps (p : Tmp × Value) => tmps.setIfInBounds p.1 p.2) a.tmps = (ps.toList.zip cargs).foldl (fun (t : Array Value) (p : Tmp × Value) => t.setIfInBounds p.1 p.2) a.tmps := by
      rw [← Array.foldl_toList]
      simp
    refine roundIn_of_wpIn trivial ?_
    rw [hfold]
    have hb1 := bod (roundCtx P l rec φ' H w') (roundCtx P l { rec with state := .busy } φ' H w') l i H args hpre φ' ⟨_, []⟩ w' ⟨StepX.refl _ _ _ _, hrecl⟩ (Marks.nil _ _) hrel2
    refine wpIn_mono hb1 fun ex a1 w2 hp => ?_
    cases ex with
    | normal =>
      obtain ⟨e2, h2, s3, φ2, k2, m2, r2, t2, L2⟩ := hp
      refine ⟨_, run_beginRound L2.2 hst0, ?_⟩
      have sm2 : Sim P φ2 h2 (w2.putObj l (.loop { rec with state := .busy })) := r2.sim.aside (.put L2.2 rfl)
      have hbusy : (w2.putObj l (.loop { rec with state := .busy })).heap[l]? = some (.loop { rec with state := .busy }) := World.putObj_heap_same (lt_of_get L2.2)
      have t2' : StepX (fun k => k = l) φ' H w' φ2 h2 (w2.putObj l (.loop { rec with state := .busy })) := t2.put _ (.inr rfl)
      have hb2 := k2 φ2 a1 _ ⟨t2', hbusy⟩ (by rw [marks_false m2]; exact Marks.nil _ _) ⟨sm2, r2.size, r2.env⟩
      refine wpIn_mono hb2 fun ex3 a3 w3 hp3 => ?_
      have hrest : ∀ (jump : Option Code) (K : Heap → Prop), (∃ env' h' s' φ3, K h' ∧ Marks (fun _ => False) a3.defers w3 ∧ Rel P N φ3 env' h' a3.tmps w3 ∧ StepX (fun k => k = l) φ2 h2 (w2.putObj l (.loop { rec with state := .busy })) φ3 h' w3 ∧ (roundCtx P l { rec with state := .busy } φ' H w').L s' φ3 h' w3) →
          (∀ h', K h' → (jump = none ∧ T i h') ∨ ∃ j, jump = some j ∧ F i h' j) →
          ∃ v w4, (Instr.endRound l jump).run P w3 = .ok v w4 ∧ YRes (seqCtx P l rec φ h w1) φ' H w' (fun v h' s' => (v = .bool true ∧ s' = none ∧ T i h') ∨ (v = .bool false ∧ ∃ j, s' = some j ∧ F i h' j)) (.returned v) w4 := by
        rintro jump K ⟨e4, h4, s4, φ4, k4, m4, r4, t4, L4⟩ hK
        refine ⟨_, _, run_endRound jump L4.2, ?_⟩
        have hmk : ∀ D' : Nat, w'.heap[D']? = some (Obj.deferred (some [])) → (w3.putObj l (.loop { rec with state := if jump.isNone then .ready else .done, pending := jump })).heap[D']? = some (Obj.deferred (some [])) := by
          intro D' hD'
          have hne : D' ≠ l := by rintro rfl; rw [hrecl] at hD'; cases hD'
          rw [World.putObj_heap_other hne, L4.1.frame D' (lt_of_get hD') (sm.not_owned hD' rfl) hne]
          exact hD'
        have sm4 : Sim P φ4 h4 (w3.putObj l (.loop { rec with state := if jump.isNone then .ready else .done, pending := jump })) := r4.sim.aside (.put L4.2 rfl)
        have st4 : StepX (fun k => k = l) φ' H w' φ4 h4 (w3.putObj l (.loop { rec with state := if jump.isNone then .ready else .done, pending := jump })) := L4.1.put _ (.inr rfl)
        have hat : (w3.putObj l (.loop { rec with state := if jump.isNone then .ready else .done, pending := jump })).heap[l]? = some (.loop { rec with state := if jump.isNone then .ready else .done, pending := jump }) := World.putObj_heap_same (lt_of_get L4.2)
        refine ⟨.bool jump.isNone, h4, jump, φ4, ?_, .bool _, sm4, st4, ⟨hstp.trans st4, ?_⟩, hmk⟩
        · rcases hK h4 k4 with ⟨rfl, ht⟩ | ⟨j, rfl, hF⟩
          · exact .inl ⟨rfl, rfl, ht⟩
          · exact .inr ⟨rfl, j, rfl, hF⟩
        · rw [hat]
          congr 2
          cases jump with
          | none =>
            show ({ rec with state := .ready, pending := none } : Loop) = rec
            cases rec
            simp only at hst0 hpd0
            subst hst0 hpd0
            rfl
          | some j => rfl
      cases ex3 with
      | normal =>
        obtain ⟨v, w4, h1, h2⟩ := hrest none (T i) hp3 (fun h' hk => .inl ⟨rfl, hk⟩)
        exact ⟨v, w4, h1, h2⟩
      | ret =>
        obtain ⟨v, w4, h1, h2⟩ := hrest (some .ret) (fun h' => F i h' .ret) hp3 (fun h' hk => .inr ⟨_, rfl, hk⟩)
        exact ⟨v, w4, h1, h2⟩
      | exit id =>
        obtain ⟨v, w4, h1, h2⟩ := hrest (some (.exit id)) (fun h' => F i h' (.exit id)) hp3 (fun h' hk => .inr ⟨_, rfl, hk⟩)
        exact ⟨v, w4, h1, h2⟩
      | goto g => obtain ⟨_, _, _, _, k, _⟩ := hp3; exact k.elim
      | panic c => obtain ⟨_, _, _, _, k, _⟩ := hp3; exact k.elim
      | outgrown => obtain ⟨_, _, _, _, k, _⟩ := hp3; exact k.elim
    | exit id => obtain ⟨_, _, _, _, k, _⟩ := hp; exact k.elim
    | goto g => obtain ⟨_, _, _, _, k, _⟩ := hp; exact k.elim
    | ret => obtain ⟨_, _, _, _, k, _⟩ := hp; exact k.elim
    | panic c => obtain ⟨_, _, _, _, k, _⟩ := hp; exact k.elim
    | outgrown => obtain ⟨_, _, _, _, k, _⟩ := hp; exact k.elim
  have hcall := seq (seqCtx P l rec φ h w1) l (seqCtx_quiet _ _ _ _ _) ys φ w1 _ ⟨StepX.refl _ _ _ _, hlw⟩ sim1 hargs
  refine CallsIn.mono hcall fun e w3 hr => ?_
  cases e with
  | returned c =>
    obtain ⟨v, h', s', φ', k, v1, v2, v3, v4, v5⟩ := hr
    have hbusy : (recOf rec s').state ≠ .busy := by
      cases s' with
      | none => show rec.state ≠ .busy; rw [hst0]; intro e; cases e
      | some j => intro e; cases e
    have hpend : (recOf rec s').pending = s' := by
      cases s' with
      | none => exact hpd0
      | some j => rfl
    refine ⟨_, _, run_endLoop v4.2 hbusy, ?_⟩
    generalize hw4 : w3.putObj l (.loop { recOf rec s' with state := .exhausted }) = w4
    rw [hpend]
    have sm4 : Sim P φ' h' w4 := by rw [← hw4]; exact v2.aside (.put v4.2 rfl)
    have st4 : Step φ h w φ' h' w4 := by
      have h1 : StepX (fun k => k = l) φ h w φ' h' w3 := (st1.wider (y := fun k => k = l) (fun k _ e => e.elim)).trans v3
      rw [← hw4]
      refine (h1.put (.loop { recOf rec s' with state := .exhausted }) (.inl hlsz)).full fun k hk e => ?_
      omega
    have hDl : D ≠ l := by omega
    have hD4 : w4.heap[D]? = some (Obj.deferred (some [])) := by
      rw [← hw4, World.putObj_heap_other hDl]
      exact v5 D hDw
    have hm4 : Marks C.B ([{ target := .collected w.heap.size, args := #[] }] ++ a.defers) w4 := by
      obtain ⟨Ds, m1, m2, m3⟩ := hm.step r.sim st4
      refine ⟨D :: Ds, by rw [m1, hD]; rfl, List.nodup_cons.2 ⟨fun hin => ?_, m2⟩, fun D' hD' => ?_⟩
      · obtain ⟨Ds', n1, n2, n3⟩ := hm
        have hmap : Ds = Ds' := by
          have := m1.symm.trans n1
          have hinj : ∀ (x y : List Nat), x.map (fun D => ({ target := .collected D, args := #[] } : Deferred)) = y.map (fun D => ({ target := .collected D, args := #[] } : Deferred)) → x = y := by
            intro x
            induction x with
            | nil => intro y e; cases y with | nil => rfl | cons _ _ => simp at e
            | cons a x ih =>
              intro y e
              cases y with
              | nil => simp at e
              | cons b y =>
                simp at e
                rw [e.1, ih y (by simpa using e.2)]
          exact hinj _ _ this
        subst hmap
        have := lt_of_get (n3 D hin).2
        omega
      · rcases List.mem_cons.1 hD' with rfl | hD'
        · exact ⟨by rw [hD]; exact hB φ w hl, hD4⟩
        · exact m3 D' hD'
    have r4 : Rel P N φ' env h' a.tmps w4 := ⟨sm4, r.size, fun t => st4.mono (r.env t)⟩
    have L4 := C.st r.sim hl st4
    rcases k with ⟨rfl, hE⟩ | ⟨j, rfl, hJ⟩
    · exact ⟨env, h', s, φ', fin h' st4.next hE, hm4, r4, st4.x, L4⟩
    · have := jmp h' j st4.next hJ φ' ⟨a.tmps, [{ target := .collected w.heap.size, args := #[] }] ++ a.defers⟩ _ L4 hm4 r4
      exact wpIn_mono this fun _ _ _ hp => hp.trans st4.x
  | _ => exact hr.elim
@[reducible] def endX (K : XQ) : Exit → XQ
  | .normal, e, h, s => K e h s
  | .ret, e, h, s => K e h s
  | _, _, _, _ => False
def freeCtx (P : Program) (b : Nat) : Ctx P where
  x := fun _ => False
  L := fun _ _ _ w => b ≤ w.heap.size
  B := fun D => b ≤ D
  st := fun _ l t => Nat.le_trans l t.size
theorem entry_rel {φ : Ren} {w : World} {args cargs : List Value} {n : Nat} (sm : Sim P φ h w) (va : VRels φ h.next args cargs) (hn : cargs.length ≤ n) : Rel P n φ (entry args) h (cargs.toArray ++ Array.replicate (n - cargs.toArray.size) undef) w := by
  refine ⟨sm, by simp; omega, fun t => ?_⟩
  have h1 := va.at t
  rw [show (entry args).get t = args.getD t undef from by unfold entry; rw [entryFrom_get]; simp]
  by_cases ht : t < cargs.length
  · have e : (cargs.toArray ++ Array.replicate (n - cargs.toArray.size) undef).getD t undef = cargs.getD t undef := by
      simp [Array.getD_eq_getD_getElem?, Array.getElem?_append, ht]
    rw [e]; exact h1
  · have e : args.getD t undef = undef := by have := va.length; simp [List.getD_eq_getElem?_getD, List.getElem?_eq_none (show args.length ≤ t by omega)]
    rw [e]; exact .und _
theorem leaves {fn : Func} {φ0 : Ren} {h0 : Heap} {w0 : World} {K : Value → Heap → Prop} {env' : Env} {h' : Heap} {φ' : Ren} {v : Value} {tmps : Array Value} (hv : ResV P fn env' h' v) (hK : K v h') : ∀ (Ds : List Nat) (w' : World), Ds.Nodup → (∀ D ∈ Ds, w0.heap.size ≤ D ∧ w'.heap[D]? = some (Obj.deferred (some []))) →
    Rel P fn.ntmps φ' env' h' tmps w' → StepX (fun _ => False) φ0 h0 w0 φ' h' w' →
    LeavesInM (Fc none) 0 P fn tmps (ARes P φ0 h0 w0 K) (Ds.map fun D => { target := .collected D, args := #[] }) .returning w'
  | [], w', _, _, r, t => by
    obtain ⟨c, hc, hr⟩ := hv _ _ _ _ r
    exact ⟨c, hc, v, h', φ', hK, hr, r.sim, t.full (fun _ _ e => e)⟩
  | D :: Ds, w', hnd, hd, r, t => by
    obtain ⟨n1, n2⟩ := List.nodup_cons.1 hnd
    have hD := hd D (by simp)
    refine ⟨(by intro e; cases e), .inl ⟨D, _, rfl, run_takeDeferred hD.2, ?_⟩⟩
    refine leaves hv hK Ds _ n2 (fun D' hD' => ?_) ⟨r.sim.aside (.put hD.2 rfl), r.size, r.env⟩ (t.put _ (.inl hD.1))
    have hne : D' ≠ D := by rintro rfl; exact n1 hD'
    rw [World.putObj_heap_other hne]
    exact hd D' (by simp [hD'])
theorem ACalls.bodyX {f : FuncId} {fn : Func} {c : Code} {args : List Value} {K : Value → Heap → Prop} (hf : P.funcs[f]? = some fn) (hb : fn.body = some c) (hn : args.length ≤ fn.ntmps)
    (p : ∀ b, XWp (freeCtx P b) none fn.ntmps c (endX fun env h' _ => ∃ v, ResV P fn env h' v ∧ K v h') (entry args) h none) : ACalls P f args h K := by
  intro φ w cargs sm va
  refine (callsIn_wide (n := 0)).1 ?_
  have hlen := va.length
  have hw := p w.heap.size φ ⟨cargs.toArray ++ Array.replicate (fn.ntmps - cargs.toArray.size) undef, []⟩ w (Nat.le_refl _) (Marks.nil _ _) (entry_rel sm va (by omega))
  refine callsIn_of_wp_marks hf hb trivial (wpIn_mono hw fun ex a' w' hp => ?_)
  have key : (∃ env' h' s' φ', (∃ v, ResV P fn env' h' v ∧ K v h') ∧ Marks (freeCtx P w.heap.size).B a'.defers w' ∧ Rel P fn.ntmps φ' env' h' a'.tmps w' ∧ StepX (fun _ => False) φ h w φ' h' w' ∧ (freeCtx P w.heap.size).L s' φ' h' w') → LeavesInM (Fc none) 0 P fn a'.tmps (ARes P φ h w K) a'.defers .returning w' := by
    rintro ⟨env', h', s', φ', ⟨v, hv, hK⟩, ⟨Ds, m1, m2, m3⟩, r, t, _⟩
    rw [m1]
    exact leaves hv hK Ds w' m2 m3 r t
  cases ex with
  | normal => exact key hp
  | ret => exact key hp
  | exit id => obtain ⟨_, _, _, _, k, _⟩ := hp; exact k.elim
  | goto g => obtain ⟨_, _, _, _, k, _⟩ := hp; exact k.elim
  | panic c => obtain ⟨_, _, _, _, k, _⟩ := hp; exact k.elim
  | outgrown => obtain ⟨_, _, _, _, k, _⟩ := hp; exact k.elim
def Ctx.bare (C : Ctx P) : Ctx P := { C with B := fun _ => False }
theorem XCalls.body {f : FuncId} {fn : Func} {c : Code} {args : List Value} {K : Value → Heap → Option Code → Prop} (hf : P.funcs[f]? = some fn) (hb : fn.body = some c) (hn : args.length ≤ fn.ntmps)
    (p : XWp C.bare none fn.ntmps c (endX fun env h' s' => ∃ v, ResV P fn env h' v ∧ K v h' s') (entry args) h s) (hD : C.Quiet) : XCalls C f args h s K := by
  intro φ w cargs hl sm va
  have hlen := va.length
  have hw := p φ ⟨cargs.toArray ++ Array.replicate (fn.ntmps - cargs.toArray.size) undef, []⟩ w hl (Marks.nil _ _) (entry_rel sm va (by omega))
  refine callsIn_of_wp_marks hf hb trivial (wpIn_mono hw fun ex a' w' hp => ?_)
  have key : (∃ env' h' s' φ', (∃ v, ResV P fn env' h' v ∧ K v h' s') ∧ Marks (fun _ => False) a'.defers w' ∧ Rel P fn.ntmps φ' env' h' a'.tmps w' ∧ StepX C.x φ h w φ' h' w' ∧ C.L s' φ' h' w') → LeavesInM (Fc none) 0 P fn a'.tmps (YRes C φ h w K) a'.defers .returning w' := by
    rintro ⟨env', h', s', φ', ⟨v, hv, hK⟩, m, r, t, L⟩
    rw [marks_false m]
    obtain ⟨c, hc, hr⟩ := hv _ _ _ _ r
    exact ⟨c, hc, v, h', s', φ', hK, hr, r.sim, t, L, hD _ _ _ _ _ _ _ _ sm t hl L⟩
  cases ex with
  | normal => exact key hp
  | ret => exact key hp
  | exit id => obtain ⟨_, _, _, _, k, _⟩ := hp; exact k.elim
  | goto g => obtain ⟨_, _, _, _, k, _⟩ := hp; exact k.elim
  | panic c => obtain ⟨_, _, _, _, k, _⟩ := hp; exact k.elim
  | outgrown => obtain ⟨_, _, _, _, k, _⟩ := hp; exact k.elim
end
end Go.Eng
