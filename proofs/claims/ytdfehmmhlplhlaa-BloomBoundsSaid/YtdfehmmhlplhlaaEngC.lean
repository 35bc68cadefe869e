/-
  The engine, part C: frames by what is known of them, and the rules of code over abstract heaps.
-/
import Derived.Test.YtdfehmmhlplhlaaEngB
namespace Go.Eng
open Go

abbrev Env := List (Nat × Value)
def Env.get : Env → Nat → Value
  | [], _ => undef
  | (k, v) :: e, t => bif Nat.beq k t then v else Env.get e t
def Env.put (e : Env) (d : Option Tmp) (v : Value) : Env :=
  match d with
  | some d => (d, v) :: e
  | none => e

def ev (P : Program) (e : Env) : Operand → Value
  | .tmp t => e.get t
  | .const v => bif plainV v then v else undef
  | .global g => bif Nat.blt g P.globals.size then .pointer (some ⟨g, 0, none⟩) else undef
  | .func f => .func (.func f) #[] #[]

structure Rel (P : Program) (N : Nat) (φ : Ren) (env : Env) (h : Heap) (tmps : Array Value) (w : World) : Prop where
  sim : Sim P φ h w
  size : tmps.size = N
  env : ∀ t, VRel φ h.next (env.get t) (tmps.getD t undef)

theorem Env.get_put (e : Env) (d : Nat) (v : Value) (t : Nat) : Env.get ((d, v) :: e) t = if d = t then v else e.get t := by
  simp only [Env.get]
  by_cases h : d = t
  · subst h; have : Nat.beq d d = true := Nat.beq_refl d
    simp
  · have : Nat.beq d t = false := by
      cases hb : Nat.beq d t with
      | true => exact absurd (Nat.eq_of_beq_eq_true hb) h
      | false => rfl
    simp [this, h]

theorem getD_set (a : Array Value) (d : Nat) (v : Value) (t : Nat) (hd : d < a.size) : (a.setIfInBounds d v).getD t undef = if d = t then v else a.getD t undef := by
  simp only [Array.getD_eq_getD_getElem?, Array.getElem?_setIfInBounds]
  by_cases h : d = t
  · subst h; simp [hd]
  · simp [h]

theorem Rel.put {P : Program} {N : Nat} {φ : Ren} {env : Env} {h : Heap} {a : Act} {w : World} (r : Rel P N φ env h a.tmps w) (d : Option Tmp) (hd : ∀ t, d = some t → t < N) {v c : Value} (hv : VRel φ h.next v c) :
    Rel P N φ (env.put d v) h (a.put d c).tmps w := by
  cases d with
  | none => exact r
  | some d =>
    have hdn := hd d rfl
    refine ⟨r.sim, by simp [Act.put, r.size], fun t => ?_⟩
    show VRel φ h.next (Env.get ((d, v) :: env) t) ((a.tmps.setIfInBounds d c).getD t undef)
    rw [Env.get_put, getD_set _ _ _ _ (by rw [r.size]; exact hdn)]
    split
    · exact hv
    · exact r.env t

theorem Rel.ev {P : Program} {N : Nat} {φ : Ren} {env : Env} {h : Heap} {a : Act} {w : World} (r : Rel P N φ env h a.tmps w) (x : Operand) : VRel φ h.next (ev P env x) (a.eval x) := by
  cases x with
  | tmp t => exact r.env t
  | const v =>
    simp only [Eng.ev, Act.eval]
    cases hp : plainV v with
    | true => exact .of_plain hp
    | false => exact .und _
  | global g =>
    simp only [Eng.ev, Act.eval]
    cases hp : Nat.blt g P.globals.size with
    | true =>
      have hg : g < P.globals.size := by simpa [Nat.blt_eq] using hp
      obtain ⟨h1, h2⟩ := r.sim.glob g hg
      have := VRel.ptr (φ := φ) (n := h.next) g 0 h2
      rw [h1.1, h1.2] at this
      exact this
    | false => exact .und _
  | func f => exact .of_scalar rfl

theorem Rel.step {P : Program} {N : Nat} {φ φ' : Ren} {env : Env} {h h' : Heap} {t : Array Value} {w w' : World} (r : Rel P N φ env h t w) (s : Sim P φ' h' w') (st : Step φ h w φ' h' w') : Rel P N φ' env h' t w' :=
  ⟨s, r.size, fun t => st.mono (r.env t)⟩

/-- What is known behind a piece of code. -/
def Post (P : Program) (N : Nat) (φ : Ren) (h : Heap) (w : World) (K : Env → Heap → Prop) (a' : Act) (w' : World) : Prop :=
  ∃ env' h' φ', K env' h' ∧ a'.defers = [] ∧ Rel P N φ' env' h' a'.tmps w' ∧ Step φ h w φ' h' w'

def AWp (P : Program) (N : Nat) (c : Code) (Q : Exit → Env → Heap → Prop) (env : Env) (h : Heap) : Prop :=
  ∀ φ a w, a.defers = [] → Rel P N φ env h a.tmps w → c.wp P (fun ex a' w' => Post P N φ h w (Q ex) a' w') a w

theorem Post.trans {P : Program} {N : Nat} {φ φ' : Ren} {h h' : Heap} {w w' : World} {K : Env → Heap → Prop} {a : Act} {w2 : World} (p : Post P N φ' h' w' K a w2) (s : Step φ h w φ' h' w') : Post P N φ h w K a w2 := by
  obtain ⟨e, h2, φ2, k, d, r, t⟩ := p
  exact ⟨e, h2, φ2, k, d, r, s.trans t⟩
theorem Post.mono {P : Program} {N : Nat} {φ : Ren} {h : Heap} {w : World} {K K' : Env → Heap → Prop} {a : Act} {w2 : World} (p : Post P N φ h w K a w2) (hk : ∀ e h', K e h' → K' e h') : Post P N φ h w K' a w2 := by
  obtain ⟨e, h2, φ2, k, d, r, t⟩ := p
  exact ⟨e, h2, φ2, hk _ _ k, d, r, t⟩
theorem Post.now {P : Program} {N : Nat} {φ : Ren} {h : Heap} {w : World} {K : Env → Heap → Prop} {env : Env} {a : Act} (k : K env h) (d : a.defers = []) (r : Rel P N φ env h a.tmps w) : Post P N φ h w K a w :=
  ⟨env, h, φ, k, d, r, Step.refl _ _ _⟩

section rules
variable {P : Program} {N : Nat} {Q : Exit → Env → Heap → Prop} {env : Env} {h : Heap}

theorem AWp.mono {c : Code} {Q' : Exit → Env → Heap → Prop} (p : AWp P N c Q env h) (hq : ∀ ex e h', Q ex e h' → Q' ex e h') : AWp P N c Q' env h :=
  fun φ a w hd r => wp_mono (p φ a w hd r) fun ex _ _ hp => hp.mono (hq ex)

/-- Less is known. -/
structure Weak (env : Env) (h : Heap) (env0 : Env) (h0 : Heap) : Prop where
  env : ∀ t, env0.get t = env.get t ∨ env0.get t = undef
  next : h0.next = h.next
  ext : Ext h0 h
theorem Weak.refl (env : Env) (h : Heap) : Weak env h env h := ⟨fun _ => .inl rfl, rfl, Ext.refl h⟩
/-- A frame that names no more than a frame knows. -/
def EW (env env0 : Env) : Prop := ∀ t, env0.get t = env.get t ∨ env0.get t = undef
theorem EW.nil {env : Env} : EW env [] := fun _ => .inr rfl
theorem EW.cons {env env0 : Env} {k : Nat} {v : Value} (h : env.get k = v) (r : EW env env0) : EW env ((k, v) :: env0) := fun t => by
  rw [Env.get_put]
  split
  · rename_i e; subst e; exact .inl h.symm
  · exact r t
theorem Weak.of {env : Env} {h : Heap} {env0 : Env} {h0 : Heap} (he : EW env env0) (hn : h0.next = h.next) (hx : Ext h0 h) : Weak env h env0 h0 := ⟨he, hn, hx⟩
theorem Weak.same {env : Env} {h : Heap} {env0 : Env} (he : EW env env0) : Weak env h env0 h := ⟨he, rfl, Ext.refl h⟩
theorem Rel.weak {φ : Ren} {env0 : Env} {h0 : Heap} {t : Array Value} {w : World} (r : Rel P N φ env h t w) (k : Weak env h env0 h0) : Rel P N φ env0 h0 t w := by
  refine ⟨r.sim.forget k.next k.ext, r.size, fun t => ?_⟩
  rw [k.next]
  rcases k.env t with e | e
  · rw [e]; exact r.env t
  · rw [e]; exact .und _
theorem Step.weak {φ : Ren} {h0 : Heap} {w : World} (hn : h0.next = h.next) (hx : Ext h0 h) : Step φ h w φ h0 w :=
  ⟨by omega, fun _ _ => rfl, rfl, rfl, rfl, Nat.le_refl _, fun _ _ _ => rfl, fun _ hk => .inl (hk.forget hx)⟩
theorem AWp.weak {c : Code} {env0 : Env} {h0 : Heap} (p : AWp P N c Q env0 h0) (k : Weak env h env0 h0) : AWp P N c Q env h :=
  fun φ a w hd r => wp_mono (p φ a w hd (r.weak k)) fun _ _ _ hp => hp.trans (Step.weak k.next k.ext)

theorem AWp.skip (k : Q .normal env h) : AWp P N .skip Q env h := fun _ _ _ hd r => wp_skip (Post.now k hd r)
theorem AWp.label {l : Nat} (k : Q .normal env h) : AWp P N (.label l) Q env h := fun _ _ _ hd r => wp_label (Post.now k hd r)
theorem AWp.exit {id : Nat} (k : Q (.exit id) env h) : AWp P N (.exit id) Q env h := fun _ _ _ hd r => wp_exit (Post.now k hd r)
theorem AWp.goto {l : Nat} (k : Q (.goto l) env h) : AWp P N (.goto l) Q env h := fun _ _ _ hd r => wp_goto (Post.now k hd r)
theorem AWp.ret (k : Q .ret env h) : AWp P N .ret Q env h := fun _ _ _ hd r => wp_ret (Post.now k hd r)

@[reducible] def thenQ (K : Env → Heap → Prop) (Q : Exit → Env → Heap → Prop) : Exit → Env → Heap → Prop
  | .normal => K
  | ex => Q ex
theorem AWp.seq {x y : Code} (p : AWp P N x (thenQ (AWp P N y Q) Q) env h) : AWp P N (.seq x y) Q env h := by
  intro φ a w hd r
  refine wp_seq (wp_mono (p φ a w hd r) fun ex a' w' hp => ?_)
  cases ex with
  | normal =>
    obtain ⟨e, h2, φ2, k, d, r2, t⟩ := hp
    exact wp_mono (k φ2 a' w' d r2) fun _ _ _ hp2 => hp2.trans t
  | _ => exact hp

theorem AWp.cond {c : Operand} {x y : Code} {t : Bool} (hc : ev P env c = .bool t) (ht : t = true → AWp P N x Q env h) (hf : t = false → AWp P N y Q env h) : AWp P N (.cond c x y) Q env h := by
  intro φ a w hd r
  have hv := r.ev c
  rw [hc] at hv
  exact wp_cond_split hv.bool_inv (fun e => ht e φ a w hd r) (fun e => hf e φ a w hd r)
theorem AWp.condP {c : Operand} {x y : Code} {p : Prop} {ip : Decidable p} (hc : ev P env c = .bool (@decide p ip)) (ht : p → AWp P N x Q env h) (hf : ¬ p → AWp P N y Q env h) : AWp P N (.cond c x y) Q env h :=
  .cond hc (fun e => ht (of_decide_eq_true e)) (fun e => hf (of_decide_eq_false e))
theorem AWp.condT {c : Operand} {x y : Code} (hc : ev P env c = .bool true) (p : AWp P N x Q env h) : AWp P N (.cond c x y) Q env h := .cond hc (fun _ => p) (fun e => by cases e)
theorem AWp.condF {c : Operand} {x y : Code} (hc : ev P env c = .bool false) (p : AWp P N y Q env h) : AWp P N (.cond c x y) Q env h := .cond hc (fun e => by cases e) (fun _ => p)

@[reducible] def blockQ (id : Nat) (Q : Exit → Env → Heap → Prop) : Exit → Env → Heap → Prop
  | .exit id', e, h => if id' = id then Q .normal e h else Q (.exit id') e h
  | ex, e, h => Q ex e h
theorem AWp.block {id : Nat} {c : Code} (p : AWp P N c (blockQ id Q) env h) : AWp P N (.block id c) Q env h := by
  intro φ a w hd r
  refine wp_block (wp_mono (p φ a w hd r) fun ex a' w' hp => ?_)
  cases ex with
  | exit id' =>
    simp only [Exit.inBlock]
    split
    · rename_i he
      exact hp.mono fun e h' k => by simpa [blockQ, he] using k
    · rename_i he
      exact hp.mono fun e h' k => by simpa [blockQ, he] using k
  | _ => exact hp

/-- A place where ways meet. -/
theorem AWp.seqI {α : Type} {x y : Code} (E : α → Env) (H : α → Heap) (V : α → Prop) (p : AWp P N x (thenQ (fun e h' => ∃ z, V z ∧ Weak e h' (E z) (H z)) Q) env h) (q : ∀ z, V z → AWp P N y Q (E z) (H z)) : AWp P N (.seq x y) Q env h :=
  .seq (p.mono fun ex e h' k => by
    cases ex with
    | normal => obtain ⟨z, hz, hw⟩ := k; exact (q z hz).weak hw
    | _ => exact k)

theorem AWp.cutI {α : Type} {x y : Code} {Q' : Exit → Env → Heap → Prop} (E : α → Env) (H : α → Heap) (V : α → Prop) (p : AWp P N x (thenQ (fun e h' => ∃ z, V z ∧ Weak e h' (E z) (H z)) Q) env h) (q : ∀ z, V z → AWp P N y Q' (E z) (H z)) :
    AWp P N x (thenQ (AWp P N y Q') Q) env h :=
  p.mono fun ex e h' k => by
    cases ex with
    | normal => obtain ⟨z, hz, hw⟩ := k; exact (q z hz).weak hw
    | _ => exact k

theorem AWp.cutB {α : Type} {id : Nat} {x y : Code} {Q' : Exit → Env → Heap → Prop} (E : α → Env) (H : α → Heap) (V : α → Prop) (p : AWp P N x (blockQ id (thenQ (fun e h' => ∃ z, V z ∧ Weak e h' (E z) (H z)) Q)) env h) (q : ∀ z, V z → AWp P N y Q' (E z) (H z)) :
    AWp P N x (blockQ id (thenQ (AWp P N y Q') Q)) env h :=
  p.mono fun ex e h' k => by
    cases ex with
    | normal => obtain ⟨z, hz, hw⟩ := k; exact (q z hz).weak hw
    | exit id' =>
      simp only [blockQ] at k ⊢
      split
      · rename_i hi
        rw [if_pos hi] at k
        obtain ⟨z, hz, hw⟩ := k
        exact (q z hz).weak hw
      · rename_i hi
        rw [if_neg hi] at k
        exact k
    | _ => exact k

/-- A loop: the states of its head by a family; a measure. -/
theorem AWp.loop {α : Type} {c : Code} (E : α → Env) (H : α → Heap) (V : α → Prop) (m : α → Nat) (x : α) (hx : V x) (hw : Weak env h (E x) (H x))
    (round : ∀ y, V y → AWp P N c (thenQ (fun e h' => ∃ z, V z ∧ m z < m y ∧ Weak e h' (E z) (H z)) Q) (E y) (H y)) : AWp P N (.loop c) Q env h := by
  intro φ a w hd r b k cs
  have key : ∀ n y φ' a' w', m y = n → V y → a'.defers = [] → Rel P N φ' (E y) (H y) a'.tmps w' → Step φ h w φ' (H y) w' →
      ∃ e a2 w2, Post P N φ h w (Q e) a2 w2 ∧ Arrives P (lone (b.at a' (.code c :: .inLoop c :: k)) cs w') b k cs e a2 w2 := by
    intro n
    induction n using Nat.strongRecOn with
    | _ n ih =>
      intro y φ' a' w' hn hv hd' r' st
      obtain ⟨e, a1, w1, hq, harr⟩ := round y hv φ' a' w' hd' r' b (.inLoop c :: k) cs
      cases e with
      | normal =>
        obtain ⟨e1, h1, φ1, ⟨z, hz, hlt, hwk⟩, d1, r1, t1⟩ := hq
        have st1 : Step φ h w φ1 (H z) w1 := (st.trans t1).trans (Step.weak hwk.next hwk.ext)
        obtain ⟨e2, a2, w2, hq2, harr2⟩ := ih (m z) (hn ▸ hlt) z φ1 a1 w1 rfl hz d1 (r1.weak hwk) st1
        exact ⟨e2, a2, w2, hq2, .of_steps (Steps.trans harr (.one step_inLoop)) harr2⟩
      | exit id => exact ⟨_, a1, w1, hq.trans st, .pass (x := .inLoop c) rfl (fun _ _ => .inl (by simp)) harr⟩
      | goto l => exact ⟨_, a1, w1, hq.trans st, .pass (x := .inLoop c) rfl (fun _ _ => .inl (by simp)) harr⟩
      | ret => exact ⟨_, a1, w1, hq.trans st, .pass (x := .inLoop c) rfl (fun _ _ => .inl (by simp)) harr⟩
      | panic ch => exact ⟨_, a1, w1, hq.trans st, .pass (x := .inLoop c) rfl (fun _ _ => .inl (by simp)) harr⟩
      | outgrown => exact ⟨_, a1, w1, hq.trans st, .pass (x := .inLoop c) rfl (fun _ _ => .inl (by simp)) harr⟩
  obtain ⟨e, a2, w2, hq, harr⟩ := key _ x φ a w rfl hx hd (r.weak hw) (Step.weak hw.next hw.ext)
  exact ⟨e, a2, w2, hq, .of_steps (.one step_loop) harr⟩
end rules

/-- A call: what comes back, and the heap behind it. -/
def ARes (P : Program) (φ : Ren) (h : Heap) (w : World) (Q : Value → Heap → Prop) : Ending → World → Prop
  | .returned c, w' => ∃ v h' φ', Q v h' ∧ VRel φ' h'.next v c ∧ Sim P φ' h' w' ∧ Step φ h w φ' h' w'
  | _, _ => False
inductive VRels (φ : Ren) (n : Nat) : List Value → List Value → Prop
  | nil : VRels φ n [] []
  | cons {v c : Value} {vs cs : List Value} (h : VRel φ n v c) (t : VRels φ n vs cs) : VRels φ n (v :: vs) (c :: cs)
def ACalls (P : Program) (f : FuncId) (args : List Value) (h : Heap) (Q : Value → Heap → Prop) : Prop :=
  ∀ φ w cargs, Sim P φ h w → VRels φ h.next args cargs → Calls P f cargs.toArray w (ARes P φ h w Q)

theorem ACalls.mono {P : Program} {f : FuncId} {args : List Value} {h : Heap} {Q Q' : Value → Heap → Prop} (p : ACalls P f args h Q) (hq : ∀ v h', Q v h' → Q' v h') : ACalls P f args h Q' :=
  fun φ w cargs s va => (p φ w cargs s va).mono fun e w' hr => by
    cases e with
    | returned c => obtain ⟨v, h', φ', q, r⟩ := hr; exact ⟨v, h', φ', hq v h' q, r⟩
    | _ => exact hr

theorem ACalls.wf {P : Program} {f : FuncId} {args : List Value} {h : Heap} {Q : Value → Heap → Prop} (p : WF h → ACalls P f args h Q) : ACalls P f args h Q :=
  fun φ w cargs s va => p s.next φ w cargs s va
theorem AWp.wf {P : Program} {N : Nat} {c : Code} {Q : Exit → Env → Heap → Prop} {env : Env} {h : Heap} (p : WF h → AWp P N c Q env h) : AWp P N c Q env h :=
  fun φ a w hd r => p r.sim.next φ a w hd r
/-- Behind a call: what is there now has nothing beyond, either. -/
theorem ACalls.wf_post {P : Program} {f : FuncId} {args : List Value} {h : Heap} {Q : Value → Heap → Prop} (p : ACalls P f args h Q) : ACalls P f args h fun v h' => Q v h' ∧ WF h' ∧ h.next ≤ h'.next :=
  fun φ w cargs s va => (p φ w cargs s va).mono fun e w' hr => by
    cases e with
    | returned c => obtain ⟨v, h', φ', q, r1, r2, r3⟩ := hr; exact ⟨v, h', φ', ⟨q, r2.next, r3.next⟩, r1, r2, r3⟩
    | _ => exact hr
theorem VRels.length {φ : Ren} {n : Nat} {vs cs : List Value} (h : VRels φ n vs cs) : vs.length = cs.length := by
  induction h with
  | nil => rfl
  | cons _ _ ih => simp [ih]
theorem VRels.at {φ : Ren} {n : Nat} {vs cs : List Value} (h : VRels φ n vs cs) : ∀ i : Nat, VRel φ n (vs.getD i undef) (cs.getD i undef) := by
  induction h with
  | nil => intro i; simp; exact .und _
  | cons hv _ ih =>
    intro i
    cases i with
    | zero => simpa using hv
    | succ i => simpa using ih i

/-- The frame at a function's entry. -/
def entryFrom : Nat → List Value → Env
  | _, [] => []
  | k, v :: vs => (k, v) :: entryFrom (k + 1) vs
theorem entryFrom_get : ∀ (vs : List Value) (k t : Nat), (entryFrom k vs).get t = if k ≤ t then vs.getD (t - k) undef else undef
  | [], k, t => by simp [entryFrom, Env.get]
  | v :: vs, k, t => by
    simp only [entryFrom]
    rw [Env.get_put, entryFrom_get vs (k + 1) t]
    by_cases h : k = t
    · subst h; simp
    · by_cases h2 : k ≤ t
      · rw [if_neg h, if_pos (by omega), if_pos h2]
        have : t - k = (t - (k + 1)) + 1 := by omega
        rw [this]; simp
      · rw [if_neg h, if_neg (by omega), if_neg h2]
def entry (vs : List Value) : Env := entryFrom 0 vs

/-- The results that a frame bears. -/
def ResV (P : Program) (fn : Func) (env : Env) (h : Heap) (v : Value) : Prop :=
  ∀ N φ tmps w, Rel P N φ env h tmps w → ∃ c, (results fn tmps).run P w = .ok c w ∧ VRel φ h.next v c

theorem ResV.tmp {P : Program} {fn : Func} {env : Env} {h : Heap} {t : Tmp} (hr : fn.results = #[.tmp t]) : ResV P fn env h (env.get t) := by
  intro N φ tmps w r
  refine ⟨tmps.getD t undef, ?_, r.env t⟩
  simp [results, hr]
theorem ResV.none {P : Program} {fn : Func} {env : Env} {h : Heap} (hr : fn.results = #[]) : ResV P fn env h (.tuple #[]) := by
  intro N φ tmps w r
  exact ⟨.tuple #[], by simp [results, hr], .und _⟩
theorem VRel.tuple2 {φ : Ren} {n : Nat} {a b a' b' : Value} (h1 : VRel φ n a a') (h2 : VRel φ n b b') : VRel φ n (.tuple #[a, b]) (.tuple #[a', b']) := by
  refine .tuple _ _ rfl fun k x y hx hy => ?_
  match k with
  | 0 => simp at hx hy; subst hx hy; exact h1
  | 1 => simp at hx hy; subst hx hy; exact h2
  | k + 2 => simp at hx
theorem VRel.tuple3 {φ : Ren} {n : Nat} {a b c a' b' c' : Value} (h1 : VRel φ n a a') (h2 : VRel φ n b b') (h3 : VRel φ n c c') : VRel φ n (.tuple #[a, b, c]) (.tuple #[a', b', c']) := by
  refine .tuple _ _ rfl fun k x y hx hy => ?_
  match k with
  | 0 => simp at hx hy; subst hx hy; exact h1
  | 1 => simp at hx hy; subst hx hy; exact h2
  | 2 => simp at hx hy; subst hx hy; exact h3
  | k + 3 => simp at hx
theorem ResV.tmp2 {P : Program} {fn : Func} {env : Env} {h : Heap} {t u : Tmp} (hr : fn.results = #[.tmp t, .tmp u]) : ResV P fn env h (.tuple #[env.get t, env.get u]) := by
  intro N φ tmps w r
  refine ⟨.tuple #[tmps.getD t undef, tmps.getD u undef], ?_, .tuple2 (r.env t) (r.env u)⟩
  simp [results, hr]
theorem ResV.tmp3 {P : Program} {fn : Func} {env : Env} {h : Heap} {t u s : Tmp} (hr : fn.results = #[.tmp t, .tmp u, .tmp s]) : ResV P fn env h (.tuple #[env.get t, env.get u, env.get s]) := by
  intro N φ tmps w r
  refine ⟨.tuple #[tmps.getD t undef, tmps.getD u undef, tmps.getD s undef], ?_, .tuple3 (r.env t) (r.env u) (r.env s)⟩
  simp [results, hr]

@[reducible] def endQ (K : Env → Heap → Prop) : Exit → Env → Heap → Prop
  | .normal, e, h => K e h
  | .ret, e, h => K e h
  | _, _, _ => False

/-- A function's body, walked: whatever it leaves. -/
theorem ACalls.body {P : Program} {f : FuncId} {fn : Func} {c : Code} {args : List Value} {h : Heap} {Q : Value → Heap → Prop} (hf : P.funcs[f]? = some fn) (hb : fn.body = some c) (hn : Nat.ble args.length fn.ntmps = true)
    (p : AWp P fn.ntmps c (endQ fun env h' => ∃ v, ResV P fn env h' v ∧ Q v h') (entry args) h) : ACalls P f args h Q := by
  intro φ w cargs s va
  have hn := Nat.le_of_ble_eq_true hn
  refine calls_of_wp hf hb (wp_mono (p φ _ w rfl ⟨s, ?_, ?_⟩) ?_)
  · have := va.length
    simp; omega
  · intro t
    unfold entry
    rw [entryFrom_get]
    simp only [Nat.zero_le, if_true, Nat.sub_zero]
    have h1 := va.at t
    have hlen := va.length
    by_cases ht : t < cargs.length
    · have e : (cargs.toArray ++ Array.replicate (fn.ntmps - cargs.toArray.size) undef).getD t undef = cargs.getD t undef := by
        simp [Array.getD_eq_getD_getElem?, Array.getElem?_append, ht]
      rw [e]; exact h1
    · have e : args.getD t undef = undef := by simp [List.getD_eq_getElem?_getD, List.getElem?_eq_none (show args.length ≤ t by omega)]
      rw [e]; exact .und _
  · intro ex a' w' hp
    cases ex with
    | normal =>
      obtain ⟨e, h2, φ2, ⟨v, hv, q⟩, d, r, t⟩ := hp
      obtain ⟨cv, hc, hvr⟩ := hv _ _ _ _ r
      exact ⟨d, cv, hc, v, h2, φ2, q, hvr, r.sim, t⟩
    | ret =>
      obtain ⟨e, h2, φ2, ⟨v, hv, q⟩, d, r, t⟩ := hp
      obtain ⟨cv, hc, hvr⟩ := hv _ _ _ _ r
      exact ⟨d, cv, hc, v, h2, φ2, q, hvr, r.sim, t⟩
    | _ => obtain ⟨e, h2, φ2, k, _⟩ := hp; exact k.elim

/-- A call that leaves nothing behind: the heap is the elder one. -/
theorem ACalls.reset {P : Program} {f : FuncId} {args : List Value} {h : Heap} {Q : Value → Heap → Prop} (p : ACalls P f args h fun v h' => scalar v = true ∧ Ext h h' ∧ Q v h) : ACalls P f args h Q :=
  fun φ w cargs s va => (p φ w cargs s va).mono fun e w' hr => by
    cases e with
    | returned c =>
      obtain ⟨v, h', φ', ⟨hs, hx, q⟩, r1, r2, r3⟩ := hr
      refine ⟨v, h, φ', q, ?_, s.reset r2 r3.agree hx, r3.reset hx⟩
      exact r1.lower (VRel.of_scalar (φ := φ) (n := h.next) hs)
    | _ => exact hr
end Go.Eng
