/-
  Texts of one claim, merged: 4 parts.
-/
import Derived.Test.YtigmojilaadbhaaGreatDoorMua
set_option maxHeartbeats 16000000
/- . -/
namespace Go.Eng
open Go
abbrev Env := List (Nat × Value)
def Env.get : Env → Nat → Value
 | [], _ => undef
 | (k, v) :: e, t => bif Nat.beq k t then v else Env.get e t
def Env.put (e : Env) (d : Option Tmp) (v : Value) : Env :=
 match d with
 | some d => (d, v) :: e
 | none => e
def ev (P : Program) (e : Env) : Operand → Value
 | .tmp t => e.get t
 | .const v => bif plainV v then v else undef
 | .global g => bif Nat.blt g P.globals.size then .pointer (some ⟨g, 0, none⟩) else undef
 | .func f => .func (.func f) #[] #[]
structure Rel (P : Program) (N : Nat) (φ : Ren) (env : Env) (h : Heap) (tmps : Array Value) (w : World) : Prop where
 sim : Sim P φ h w
 size : tmps.size = N
 env : ∀ t, VRel φ h.next (env.get t) (tmps.getD t undef)
theorem Env.get_put (e : Env) (d : Nat) (v : Value) (t : Nat) : Env.get ((d, v) :: e) t = if d = t then v else e.get t := by
 simp only [Env.get]
 by_cases h : d = t
 ·
  subst h; have : Nat.beq d d = true := Nat.beq_refl d
  simp
 ·
  have : Nat.beq d t = false := by
   cases hb : Nat.beq d t with
   | true => exact absurd (Nat.eq_of_beq_eq_true hb) h
   | false => rfl
  simp [this, h]
theorem getD_set (a : Array Value) (d : Nat) (v : Value) (t : Nat) (hd : d < a.size) : (a.setIfInBounds d v).getD t undef = if d = t then v else a.getD t undef := by
 simp only [Array.getD_eq_getD_getElem?, Array.getElem?_setIfInBounds]
 by_cases h : d = t
 ·
  subst h; simp [hd]
 ·
  simp [h]
theorem Rel.put {P : Program} {N : Nat} {φ : Ren} {env : Env} {h : Heap} {a : Act} {w : World} (r : Rel P N φ env h a.tmps w) (d : Option Tmp) (hd : ∀ t, d = some t → t < N) {v c : Value} (hv : VRel φ h.next v c) :
  Rel P N φ (env.put d v) h (a.put d c).tmps w := by
 cases d with
 | none => exact r
 | some d =>
  have hdn := hd d rfl
  refine ⟨r.sim, by simp [Act.put, r.size], fun t => ?_⟩
  show VRel φ h.next (Env.get ((d, v) :: env) t) ((a.tmps.setIfInBounds d c).getD t undef)
  rw [Env.get_put, getD_set _ _ _ _ (by rw [r.size]; exact hdn)]
  split
  ·
   exact hv
  ·
   exact r.env t
theorem Rel.ev {P : Program} {N : Nat} {φ : Ren} {env : Env} {h : Heap} {a : Act} {w : World} (r : Rel P N φ env h a.tmps w) (x : Operand) : VRel φ h.next (ev P env x) (a.eval x) := by
 cases x with
 | tmp t => exact r.env t
 | const v =>
  simp only [Eng.ev, Act.eval]
  cases hp : plainV v with
  | true => exact .of_plain hp
  | false => exact .und _
 | global g =>
  simp only [Eng.ev, Act.eval]
  cases hp : Nat.blt g P.globals.size with
  | true =>
   have hg : g < P.globals.size := by simpa [Nat.blt_eq] using hp
   obtain ⟨h1, h2⟩ := r.sim.glob g hg
   have := VRel.ptr (φ := φ) (n := h.next) g 0 h2
   rw [h1.1, h1.2] at this
   exact this
  | false => exact .und _
 | func f => exact .of_scalar rfl
theorem Rel.step {P : Program} {N : Nat} {φ φ' : Ren} {env : Env} {h h' : Heap} {t : Array Value} {w w' : World} (r : Rel P N φ env h t w) (s : Sim P φ' h' w') (st : Step φ h w φ' h' w') : Rel P N φ' env h' t w' :=
 ⟨s, r.size, fun t => st.mono (r.env t)⟩
def Post (P : Program) (N : Nat) (φ : Ren) (h : Heap) (w : World) (K : Env → Heap → Prop) (a' : Act) (w' : World) : Prop :=
 ∃ env' h' φ', K env' h' ∧ a'.defers = [] ∧ Rel P N φ' env' h' a'.tmps w' ∧ Step φ h w φ' h' w'
def AWp (P : Program) (N : Nat) (c : Code) (Q : Exit → Env → Heap → Prop) (env : Env) (h : Heap) : Prop :=
 ∀ φ a w, a.defers = [] → Rel P N φ env h a.tmps w → c.wp P (fun ex a' w' => Post P N φ h w (Q ex) a' w') a w
theorem Post.trans {P : Program} {N : Nat} {φ φ' : Ren} {h h' : Heap} {w w' : World} {K : Env → Heap → Prop} {a : Act} {w2 : World} (p : Post P N φ' h' w' K a w2) (s : Step φ h w φ' h' w') : Post P N φ h w K a w2 := by
 obtain ⟨e, h2, φ2, k, d, r, t⟩ := p
 exact ⟨e, h2, φ2, k, d, r, s.trans t⟩
theorem Post.mono {P : Program} {N : Nat} {φ : Ren} {h : Heap} {w : World} {K K' : Env → Heap → Prop} {a : Act} {w2 : World} (p : Post P N φ h w K a w2) (hk : ∀ e h', K e h' → K' e h') : Post P N φ h w K' a w2 := by
 obtain ⟨e, h2, φ2, k, d, r, t⟩ := p
 exact ⟨e, h2, φ2, hk _ _ k, d, r, t⟩
theorem Post.now {P : Program} {N : Nat} {φ : Ren} {h : Heap} {w : World} {K : Env → Heap → Prop} {env : Env} {a : Act} (k : K env h) (d : a.defers = []) (r : Rel P N φ env h a.tmps w) : Post P N φ h w K a w :=
 ⟨env, h, φ, k, d, r, Step.refl _ _ _⟩
section rules
variable {P : Program} {N : Nat} {Q : Exit → Env → Heap → Prop} {env : Env} {h : Heap}
theorem AWp.mono {c : Code} {Q' : Exit → Env → Heap → Prop} (p : AWp P N c Q env h) (hq : ∀ ex e h', Q ex e h' → Q' ex e h') : AWp P N c Q' env h :=
 fun φ a w hd r => wp_mono (p φ a w hd r) fun ex _ _ hp => hp.mono (hq ex)
structure Weak (env : Env) (h : Heap) (env0 : Env) (h0 : Heap) : Prop where
 env : ∀ t, env0.get t = env.get t ∨ env0.get t = undef
 next : h0.next = h.next
 ext : Ext h0 h
def EW (env env0 : Env) : Prop := ∀ t, env0.get t = env.get t ∨ env0.get t = undef
theorem EW.nil {env : Env} : EW env [] := fun _ => .inr rfl
theorem EW.cons {env env0 : Env} {k : Nat} {v : Value} (h : env.get k = v) (r : EW env env0) : EW env ((k, v) :: env0) := fun t => by
 rw [Env.get_put]
 split
 ·
  rename_i e; subst e; exact .inl h.symm
 ·
  exact r t
theorem Weak.same {env : Env} {h : Heap} {env0 : Env} (he : EW env env0) : Weak env h env0 h := ⟨he, rfl, Ext.refl h⟩
theorem Rel.weak {φ : Ren} {env0 : Env} {h0 : Heap} {t : Array Value} {w : World} (r : Rel P N φ env h t w) (k : Weak env h env0 h0) : Rel P N φ env0 h0 t w := by
 refine ⟨r.sim.forget k.next k.ext, r.size, fun t => ?_⟩
 rw [k.next]
 rcases k.env t with e | e
 ·
  rw [e]; exact r.env t
 ·
  rw [e]; exact .und _
theorem Step.weak {φ : Ren} {h0 : Heap} {w : World} (hn : h0.next = h.next) (hx : Ext h0 h) : Step φ h w φ h0 w :=
 ⟨by omega, fun _ _ => rfl, rfl, rfl, rfl, Nat.le_refl _, fun _ _ _ => rfl, fun _ hk => .inl (hk.forget hx)⟩
theorem AWp.weak {c : Code} {env0 : Env} {h0 : Heap} (p : AWp P N c Q env0 h0) (k : Weak env h env0 h0) : AWp P N c Q env h :=
 fun φ a w hd r => wp_mono (p φ a w hd (r.weak k)) fun _ _ _ hp => hp.trans (Step.weak k.next k.ext)
theorem AWp.k9 (k : Q .normal env h) : AWp P N .skip Q env h := fun _ _ _ hd r => wp_skip (Post.now k hd r)
theorem AWp.label {l : Nat} (k : Q .normal env h) : AWp P N (.label l) Q env h := fun _ _ _ hd r => wp_label (Post.now k hd r)
theorem AWp.exit {id : Nat} (k : Q (.exit id) env h) : AWp P N (.exit id) Q env h := fun _ _ _ hd r => wp_exit (Post.now k hd r)
theorem AWp.ret (k : Q .ret env h) : AWp P N .ret Q env h := fun _ _ _ hd r => wp_ret (Post.now k hd r)
@[reducible] def thenQ (K : Env → Heap → Prop) (Q : Exit → Env → Heap → Prop) : Exit → Env → Heap → Prop
 | .normal => K
 | ex => Q ex
@[reducible] def seqQ (P : Program) (N : Nat) (y : Code) (Q : Exit → Env → Heap → Prop) : Exit → Env → Heap → Prop
 | .normal => AWp P N y Q
 | ex => Q ex
theorem AWp.seq {x y : Code} (p : AWp P N x (seqQ P N y Q) env h) : AWp P N (.seq x y) Q env h := by
 intro φ a w hd r
 refine wp_seq (wp_mono (p φ a w hd r) fun ex a' w' hp => ?_)
 cases ex with
 | normal =>
  obtain ⟨e, h2, φ2, k, d, r2, t⟩ := hp
  exact wp_mono (k φ2 a' w' d r2) fun _ _ _ hp2 => hp2.trans t
 | _ => exact hp
theorem AWp.cond {c : Operand} {x y : Code} {t : Bool} (hc : ev P env c = .bool t) (ht : t = true → AWp P N x Q env h) (hf : t = false → AWp P N y Q env h) : AWp P N (.cond c x y) Q env h := by
 intro φ a w hd r
 have hv := r.ev c
 rw [hc] at hv
 exact wp_cond_split hv.bool_inv (fun e => ht e φ a w hd r) (fun e => hf e φ a w hd r)
theorem AWp.c8 {c : Operand} {x y : Code} (hc : ev P env c = .bool true) (p : AWp P N x Q env h) : AWp P N (.cond c x y) Q env h := .cond hc (fun _ => p) (fun e => by cases e)
theorem AWp.c9 {c : Operand} {x y : Code} (hc : ev P env c = .bool false) (p : AWp P N y Q env h) : AWp P N (.cond c x y) Q env h := .cond hc (fun e => by cases e) (fun _ => p)
@[reducible] def blockQ (id : Nat) (Q : Exit → Env → Heap → Prop) : Exit → Env → Heap → Prop
 | .exit id', e, h => if id' = id then Q .normal e h else Q (.exit id') e h
 | ex, e, h => Q ex e h
theorem AWp.b9 {id : Nat} {c : Code} (p : AWp P N c (blockQ id Q) env h) : AWp P N (.block id c) Q env h := by
 intro φ a w hd r
 refine wp_block (wp_mono (p φ a w hd r) fun ex a' w' hp => ?_)
 cases ex with
 | exit id' =>
  simp only [Exit.inBlock]
  split
  ·
   rename_i he
   exact hp.mono fun e h' k => by simpa [blockQ, he] using k
  ·
   rename_i he
   exact hp.mono fun e h' k => by simpa [blockQ, he] using k
 | _ => exact hp
theorem AWp.seqI {α : Type} {x y : Code} (E : α → Env) (H : α → Heap) (V : α → Prop) (p : AWp P N x (thenQ (fun e h' => ∃ z, V z ∧ Weak e h' (E z) (H z)) Q) env h) (q : ∀ z, V z → AWp P N y Q (E z) (H z)) : AWp P N (.seq x y) Q env h :=
 .seq (p.mono fun ex e h' k => by
  cases ex with
  | normal => obtain ⟨z, hz, hw⟩ := k; exact (q z hz).weak hw
  | _ => exact k)
theorem AWp.cutI {α : Type} {x y : Code} (E : α → Env) (H : α → Heap) (V : α → Prop) (p : AWp P N x (thenQ (fun e h' => ∃ z, V z ∧ Weak e h' (E z) (H z)) Q) env h) (q : ∀ z, V z → AWp P N y Q (E z) (H z)) :
  AWp P N x (seqQ P N y Q) env h :=
 p.mono fun ex e h' k => by
  cases ex with
  | normal => obtain ⟨z, hz, hw⟩ := k; exact (q z hz).weak hw
  | _ => exact k
theorem AWp.loop {α : Type} {c : Code} (E : α → Env) (H : α → Heap) (V : α → Prop) (m : α → Nat) (x : α) (hx : V x) (hw : Weak env h (E x) (H x))
  (round : ∀ y, V y → AWp P N c (thenQ (fun e h' => ∃ z, V z ∧ m z < m y ∧ Weak e h' (E z) (H z)) Q) (E y) (H y)) : AWp P N (.loop c) Q env h := by
 intro φ a w hd r b k cs
 have key : ∀ n y φ' a' w', m y = n → V y → a'.defers = [] → Rel P N φ' (E y) (H y) a'.tmps w' → Step φ h w φ' (H y) w' →
   ∃ e a2 w2, Post P N φ h w (Q e) a2 w2 ∧ Arrives P (lone (b.at a' (.code c :: .inLoop c :: k)) cs w') b k cs e a2 w2 := by
  intro n
  induction n using Nat.strongRecOn with
  | _ n ih =>
   intro y φ' a' w' hn hv hd' r' st
   obtain ⟨e, a1, w1, hq, harr⟩ := round y hv φ' a' w' hd' r' b (.inLoop c :: k) cs
   cases e with
   | normal =>
    obtain ⟨e1, h1, φ1, ⟨z, hz, hlt, hwk⟩, d1, r1, t1⟩ := hq
    have st1 : Step φ h w φ1 (H z) w1 := (st.trans t1).trans (Step.weak hwk.next hwk.ext)
    obtain ⟨e2, a2, w2, hq2, harr2⟩ := ih (m z) (hn ▸ hlt) z φ1 a1 w1 rfl hz d1 (r1.weak hwk) st1
    exact ⟨e2, a2, w2, hq2, .of_steps (Steps.trans harr (.one step_inLoop)) harr2⟩
   | exit id => exact ⟨_, a1, w1, hq.trans st, .pass (x := .inLoop c) rfl (fun _ _ => .inl (by simp)) harr⟩
   | goto l => exact ⟨_, a1, w1, hq.trans st, .pass (x := .inLoop c) rfl (fun _ _ => .inl (by simp)) harr⟩
   | ret => exact ⟨_, a1, w1, hq.trans st, .pass (x := .inLoop c) rfl (fun _ _ => .inl (by simp)) harr⟩
   | panic ch => exact ⟨_, a1, w1, hq.trans st, .pass (x := .inLoop c) rfl (fun _ _ => .inl (by simp)) harr⟩
   | outgrown => exact ⟨_, a1, w1, hq.trans st, .pass (x := .inLoop c) rfl (fun _ _ => .inl (by simp)) harr⟩
 obtain ⟨e, a2, w2, hq, harr⟩ := key _ x φ a w rfl hx hd (r.weak hw) (Step.weak hw.next hw.ext)
 exact ⟨e, a2, w2, hq, .of_steps (.one step_loop) harr⟩
end rules
def ARes (P : Program) (φ : Ren) (h : Heap) (w : World) (Q : Value → Heap → Prop) : Ending → World → Prop
 | .returned c, w' => ∃ v h' φ', Q v h' ∧ VRel φ' h'.next v c ∧ Sim P φ' h' w' ∧ Step φ h w φ' h' w'
 | _, _ => False
inductive VRels (φ : Ren) (n : Nat) : List Value → List Value → Prop
 | nil : VRels φ n [] []
 | cons {v c : Value} {vs cs : List Value} (h : VRel φ n v c) (t : VRels φ n vs cs) : VRels φ n (v :: vs) (c :: cs)
def ACalls (P : Program) (f : FuncId) (args : List Value) (h : Heap) (Q : Value → Heap → Prop) : Prop :=
 ∀ φ w cargs, Sim P φ h w → VRels φ h.next args cargs → Calls P f cargs.toArray w (ARes P φ h w Q)
theorem ACalls.mono {P : Program} {f : FuncId} {args : List Value} {h : Heap} {Q Q' : Value → Heap → Prop} (p : ACalls P f args h Q) (hq : ∀ v h', Q v h' → Q' v h') : ACalls P f args h Q' :=
 fun φ w cargs s va => (p φ w cargs s va).mono fun e w' hr => by
  cases e with
  | returned c => obtain ⟨v, h', φ', q, r⟩ := hr; exact ⟨v, h', φ', hq v h' q, r⟩
  | _ => exact hr
theorem ACalls.wf {P : Program} {f : FuncId} {args : List Value} {h : Heap} {Q : Value → Heap → Prop} (p : WF h → ACalls P f args h Q) : ACalls P f args h Q :=
 fun φ w cargs s va => p s.next φ w cargs s va
theorem ACalls.wf_post {P : Program} {f : FuncId} {args : List Value} {h : Heap} {Q : Value → Heap → Prop} (p : ACalls P f args h Q) : ACalls P f args h fun v h' => Q v h' ∧ WF h' ∧ h.next ≤ h'.next :=
 fun φ w cargs s va => (p φ w cargs s va).mono fun e w' hr => by
  cases e with
  | returned c => obtain ⟨v, h', φ', q, r1, r2, r3⟩ := hr; exact ⟨v, h', φ', ⟨q, r2.next, r3.next⟩, r1, r2, r3⟩
  | _ => exact hr
theorem VRels.length {φ : Ren} {n : Nat} {vs cs : List Value} (h : VRels φ n vs cs) : vs.length = cs.length := by
 induction h with
 | nil => rfl
 | cons _ _ ih => simp [ih]
theorem VRels.at {φ : Ren} {n : Nat} {vs cs : List Value} (h : VRels φ n vs cs) : ∀ i : Nat, VRel φ n (vs.getD i undef) (cs.getD i undef) := by
 induction h with
 | nil => intro i; simp; exact .und _
 | cons hv _ ih =>
  intro i
  cases i with
  | zero => simpa using hv
  | succ i => simpa using ih i
def entryFrom : Nat → List Value → Env
 | _, [] => []
 | k, v :: vs => (k, v) :: entryFrom (k + 1) vs
theorem qcg : ∀ (vs : List Value) (k t : Nat), (entryFrom k vs).get t = if k ≤ t then vs.getD (t - k) undef else undef
 | [], k, t => by simp [entryFrom, Env.get]
 | v :: vs, k, t => by
  simp only [entryFrom]
  rw [Env.get_put, qcg vs (k + 1) t]
  by_cases h : k = t
  ·
   subst h; simp
  ·
   by_cases h2 : k ≤ t
   ·
    rw [if_neg h, if_pos (by omega), if_pos h2]
    have : t - k = (t - (k + 1)) + 1 := by omega
    rw [this]; simp
   ·
    rw [if_neg h, if_neg (by omega), if_neg h2]
def entry (vs : List Value) : Env := entryFrom 0 vs
def ResV (P : Program) (fn : Func) (env : Env) (h : Heap) (v : Value) : Prop :=
 ∀ N φ tmps w, Rel P N φ env h tmps w → ∃ c, (results fn tmps).run P w = .ok c w ∧ VRel φ h.next v c
theorem ResV.tmp {P : Program} {fn : Func} {env : Env} {h : Heap} {t : Tmp} (hr : fn.results = #[.tmp t]) : ResV P fn env h (env.get t) := by
 intro N φ tmps w r
 refine ⟨tmps.getD t undef, ?_, r.env t⟩
 simp [results, hr]
theorem ResV.none {P : Program} {fn : Func} {env : Env} {h : Heap} (hr : fn.results = #[]) : ResV P fn env h (.tuple #[]) := by
 intro N φ tmps w r
 exact ⟨.tuple #[], by simp [results, hr], .und _⟩
theorem VRel.tuple2 {φ : Ren} {n : Nat} {a b a' b' : Value} (h1 : VRel φ n a a') (h2 : VRel φ n b b') : VRel φ n (.tuple #[a, b]) (.tuple #[a', b']) := by
 refine .tuple _ _ rfl fun k x y hx hy => ?_
 match k with
 | 0 => simp at hx hy; subst hx hy; exact h1
 | 1 => simp at hx hy; subst hx hy; exact h2
 | k + 2 => simp at hx
theorem VRel.tuple3 {φ : Ren} {n : Nat} {a b c a' b' c' : Value} (h1 : VRel φ n a a') (h2 : VRel φ n b b') (h3 : VRel φ n c c') : VRel φ n (.tuple #[a, b, c]) (.tuple #[a', b', c']) := by
 refine .tuple _ _ rfl fun k x y hx hy => ?_
 match k with
 | 0 => simp at hx hy; subst hx hy; exact h1
 | 1 => simp at hx hy; subst hx hy; exact h2
 | 2 => simp at hx hy; subst hx hy; exact h3
 | k + 3 => simp at hx
theorem ResV.tmp2 {P : Program} {fn : Func} {env : Env} {h : Heap} {t u : Tmp} (hr : fn.results = #[.tmp t, .tmp u]) : ResV P fn env h (.tuple #[env.get t, env.get u]) := by
 intro N φ tmps w r
 refine ⟨.tuple #[tmps.getD t undef, tmps.getD u undef], ?_, .tuple2 (r.env t) (r.env u)⟩
 simp [results, hr]
theorem ResV.tmp3 {P : Program} {fn : Func} {env : Env} {h : Heap} {t u s : Tmp} (hr : fn.results = #[.tmp t, .tmp u, .tmp s]) : ResV P fn env h (.tuple #[env.get t, env.get u, env.get s]) := by
 intro N φ tmps w r
 refine ⟨.tuple #[tmps.getD t undef, tmps.getD u undef, tmps.getD s undef], ?_, .tuple3 (r.env t) (r.env u) (r.env s)⟩
 simp [results, hr]
@[reducible] def endQ (K : Env → Heap → Prop) : Exit → Env → Heap → Prop
 | .normal, e, h => K e h
 | .ret, e, h => K e h
 | _, _, _ => False
theorem ACalls.body {P : Program} {f : FuncId} {fn : Func} {c : Code} {args : List Value} {h : Heap} {Q : Value → Heap → Prop} (hf : P.funcs[f]? = some fn) (hb : fn.body = some c) (hn : Nat.ble args.length fn.ntmps = true)
  (p : AWp P fn.ntmps c (endQ fun env h' => ∃ v, ResV P fn env h' v ∧ Q v h') (entry args) h) : ACalls P f args h Q := by
 intro φ w cargs s va
 have hn := Nat.le_of_ble_eq_true hn
 refine calls_of_wp hf hb (wp_mono (p φ _ w rfl ⟨s, ?_, ?_⟩) ?_)
 ·
  have := va.length
  simp; omega
 ·
  intro t
  unfold entry
  rw [qcg]
  simp only [Nat.zero_le, if_true, Nat.sub_zero]
  have h1 := va.at t
  have hlen := va.length
  by_cases ht : t < cargs.length
  ·
   have e : (cargs.toArray ++ Array.replicate (fn.ntmps - cargs.toArray.size) undef).getD t undef = cargs.getD t undef := by
    simp [Array.getD_eq_getD_getElem?, Array.getElem?_append, ht]
   rw [e]; exact h1
  ·
   have e : args.getD t undef = undef := by simp [List.getD_eq_getElem?_getD, List.getElem?_eq_none (show args.length ≤ t by omega)]
   rw [e]; exact .und _
 ·
  intro ex a' w' hp
  cases ex with
  | normal =>
   obtain ⟨e, h2, φ2, ⟨v, hv, q⟩, d, r, t⟩ := hp
   obtain ⟨cv, hc, hvr⟩ := hv _ _ _ _ r
   exact ⟨d, cv, hc, v, h2, φ2, q, hvr, r.sim, t⟩
  | ret =>
   obtain ⟨e, h2, φ2, ⟨v, hv, q⟩, d, r, t⟩ := hp
   obtain ⟨cv, hc, hvr⟩ := hv _ _ _ _ r
   exact ⟨d, cv, hc, v, h2, φ2, q, hvr, r.sim, t⟩
  | _ => obtain ⟨e, h2, φ2, k, _⟩ := hp; exact k.elim
theorem ACalls.reset {P : Program} {f : FuncId} {args : List Value} {h : Heap} {Q : Value → Heap → Prop} (p : ACalls P f args h fun v h' => scalar v = true ∧ Ext h h' ∧ Q v h) : ACalls P f args h Q :=
 fun φ w cargs s va => (p φ w cargs s va).mono fun e w' hr => by
  cases e with
  | returned c =>
   obtain ⟨v, h', φ', ⟨hs, hx, q⟩, r1, r2, r3⟩ := hr
   refine ⟨v, h, φ', q, ?_, s.reset r2 r3.agree hx, r3.reset hx⟩
   exact r1.lower (VRel.of_scalar (φ := φ) (n := h.next) hs)
  | _ => exact hr
theorem qbJ {Q Q' : Exit → Act → World → Prop} (hq : ∀ e a w, Q e a w → Q' e a w) (l : LetsOut Q) : LetsOut Q' := by
 obtain ⟨a, w, k⟩ := l
 exact ⟨a, w, hq _ _ _ k⟩
theorem qgl {P : Program} {o : Oper} {a : Act} {next next' : Act → World → Prop} {Q Q' : Exit → Act → World → Prop} (hn : ∀ a w, next a w → next' a w) (hq : ∀ e a w, Q e a w → Q' e a w) :
  ∀ r, o.upon P a next Q r → o.upon P a next' Q' r := by
 intro r hr
 unfold Oper.upon at hr ⊢
 split at hr
 ·
  exact hn _ _ hr
 ·
  exact hn _ _ hr
 ·
  exact hn _ _ hr
 ·
  refine hr.mono fun e w' k => ?_
  cases e with
  | returned v => exact hn _ _ k
  | panicked c => exact hq _ _ _ k
  | outgrown => exact qbJ hq k
 ·
  exact hr.mono fun _ _ k => hn _ _ k
 ·
  exact hq _ _ _ hr
 ·
  exact hr.elim
theorem qb8 {P : Program} {ops : Array Oper} {Q Q' : Exit → Act → World → Prop} (hq : ∀ e a w, Q e a w → Q' e a w) : ∀ (l : List Oper) (a : Act) (w : World), wpList P ops Q l a w → wpList P ops Q' l a w
 | [], _, _, p => hq _ _ _ p
 | o :: rest, a, w, p => by
  simp only [wpList] at p ⊢
  split
  ·
   rename_i hw
   rw [if_pos hw] at p
   rcases p with p | ⟨p1, p2⟩
   ·
    exact .inl (qgl (qb8 hq rest) hq _ p)
   ·
    exact .inr ⟨p1, qbJ hq p2⟩
  ·
   rename_i hw
   rw [if_neg hw] at p
   exact qb8 hq rest _ _ p
def AL (P : Program) (N : Nat) (ops : Array Oper) (l : List Oper) (Q : Exit → Env → Heap → Prop) (env : Env) (h : Heap) : Prop :=
 ∀ φ a w, a.defers = [] → Rel P N φ env h a.tmps w → wpList P ops (fun ex a' w' => Post P N φ h w (Q ex) a' w') l a w
structure RelO (P : Program) (φ : Ren) (ρ : Operand → Value) (o : Oper) (h : Heap) (a : Act) (w : World) : Prop where
 sim : Sim P φ h w
 ev : ∀ x, x ∈ o.op.operands → VRel φ h.next (ρ x) (a.eval x)
def AOp (P : Program) (o : Oper) (ρ : Operand → Value) (h : Heap) (K : Value → Heap → Prop) : Prop :=
 ∀ φ a w, RelO P φ ρ o h a w → ∀ (next : Act → World → Prop) (Qc : Exit → Act → World → Prop),
  (∀ c w' φ' h' v, K v h' → VRel φ' h'.next v c → Sim P φ' h' w' → Step φ h w φ' h' w' → next (a.put o.dst c) w') → o.wp P a w next Qc
def dstB (N : Nat) : Option Tmp → Bool
 | none => true
 | some d => Nat.blt d N
variable {P : Program} {N : Nat} {ops : Array Oper} {rest : List Oper} {o : Oper} {Q : Exit → Env → Heap → Prop} {env : Env} {ρ : Operand → Value} {h : Heap} {K : Value → Heap → Prop}
theorem qbX {d : Option Tmp} (hd : dstB N d = true) : ∀ t, d = some t → t < N := by
 rintro t rfl
 simpa [dstB, Nat.blt_eq] using hd
theorem AWp.r9 {id : Nat} (p : AL P N ops ops.toList Q env h) : AWp P N (.region id ops false) Q env h :=
 fun φ a w hd r => wp_region_list (p φ a w hd r)
theorem AL.nil (k : Q .normal env h) : AL P N ops [] Q env h := fun _ _ _ hd r => Post.now k hd r
theorem qbb (a : Act) (d : Option Tmp) (c : Value) : (a.put d c).defers = a.defers := by cases d <;> rfl
def gv (ops : Array Oper) (env : Env) (o : Oper) : Option Bool :=
 match o.guard with
 | none => some true
 | some (j, want) => match (ops[j]?).bind (·.dst) with
  | some t => match env.get t with
   | .bool b => some (b == want)
   | .chan none => some false
   | _ => none
  | none => none
theorem qbm {φ : Ren} {env : Env} {h : Heap} {tmps : Array Value} {w : World} {o : Oper} {b : Bool} (r : Rel P N φ env h tmps w) (hg : gv ops env o = some b) : Region.wanted o (yielded ops tmps) = b := by
 unfold gv at hg
 unfold Region.wanted
 cases hgd : o.guard with
 | none => rw [hgd] at hg; simpa using hg
 | some jw =>
  obtain ⟨j, want⟩ := jw
  rw [hgd] at hg
  simp only at hg ⊢
  cases hj : (ops[j]?).bind (·.dst) with
  | none => rw [hj] at hg; simp at hg
  | some t =>
   rw [hj] at hg
   simp only at hg
   cases hv : env.get t with
   | bool x =>
    rw [hv] at hg
    simp only [Option.some.injEq] at hg
    have h1 := r.env t
    rw [hv] at h1
    have h2 := h1.bool_inv
    have ht : t < tmps.size := by
     rcases Nat.lt_or_ge t tmps.size with hl | hl
     ·
      exact hl
     ·
      rw [Array.getD_eq_getD_getElem?, Array.getElem?_eq_none hl] at h2
      simp [undef] at h2
    have h3 : tmps[t]? = some (.bool x) := by
     rw [Array.getElem?_eq_getElem ht]
     rw [← h2]
     simp [Array.getD_eq_getD_getElem?, Array.getElem?_eq_getElem ht]
    simp only [yielded, hj, Option.bind_some, h3]
    rw [← hg]
    cases x <;> cases want <;> rfl
   | chan x =>
    cases x with
    | some x => rw [hv] at hg; simp at hg
    | none =>
     rw [hv] at hg
     simp only [Option.some.injEq] at hg
     have h1 := r.env t
     rw [hv] at h1
     have h2 := h1.skip_inv
     rw [← hg]
     simp only [yielded, hj, Option.bind_some]
     rw [Array.getD_eq_getD_getElem?] at h2
     cases h3 : tmps[t]? with
     | none => rfl
     | some u => rw [h3] at h2; simp only [Option.getD_some] at h2; rw [h2]; rfl
   | _ => rw [hv] at hg; simp at hg
def sB (N : Nat) (ops : Array Oper) (env : Env) (d : Tmp) (o : Oper) : Bool := Nat.blt d N && (match gv ops env o with | some true => true | _ => false)
theorem AL.set {d : Tmp} {op : Op} {ty : TypeId} {pos : String} {aft : Array Edge} {g : Option (Nat × Bool)} (hd : Nat.blt d N = true) (hg : gv ops env ⟨some d, op, ty, pos, aft, g⟩ = some true)
  (p : AOp P ⟨some d, op, ty, pos, aft, g⟩ (ev P env) h fun v h' => AL P N ops rest Q ((d, v) :: env) h') : AL P N ops (⟨some d, op, ty, pos, aft, g⟩ :: rest) Q env h := by
 intro φ a w hdf r
 simp only [wpList, qbm r hg, if_true]
 refine .inl (p φ a w ⟨r.sim, fun x _ => r.ev x⟩ _ _ fun c w' φ' h' v k vr s st => ?_)
 exact qb8 (fun _ _ _ hp => hp.trans st) _ _ _ (k φ' _ w' (by rw [qbb]; exact hdf) ((r.step s st).put (some d) (qbX hd) vr))
theorem AL.eff {op : Op} {ty : TypeId} {pos : String} {aft : Array Edge} {g : Option (Nat × Bool)} (hg : gv ops env ⟨none, op, ty, pos, aft, g⟩ = some true) (p : AOp P ⟨none, op, ty, pos, aft, g⟩ (ev P env) h fun _ h' => AL P N ops rest Q env h') :
  AL P N ops (⟨none, op, ty, pos, aft, g⟩ :: rest) Q env h := by
 intro φ a w hdf r
 simp only [wpList, qbm r hg, if_true]
 refine .inl (p φ a w ⟨r.sim, fun x _ => r.ev x⟩ _ _ fun c w' φ' h' v k vr s st => ?_)
 exact qb8 (fun _ _ _ hp => hp.trans st) _ _ _ (k φ' _ w' (by rw [qbb]; exact hdf) (r.step s st))
theorem AL.skip {d : Option Tmp} {op : Op} {ty : TypeId} {pos : String} {aft : Array Edge} {g : Option (Nat × Bool)} (hd : dstB N d = true) (hg : gv ops env ⟨d, op, ty, pos, aft, g⟩ = some false)
  (p : AL P N ops rest Q (env.put d skipV) h) : AL P N ops (⟨d, op, ty, pos, aft, g⟩ :: rest) Q env h := by
 intro φ a w hdf r
 simp only [wpList, qbm r hg, Bool.false_eq_true, if_false]
 exact p φ _ w (by rw [qbb]; exact hdf) (r.put d (qbX hd) .skip)
theorem zz {d : Tmp} {op : Op} {ty : TypeId} {pos : String} {aft : Array Edge} {g : Option (Nat × Bool)} (hb : sB N ops env d ⟨some d, op, ty, pos, aft, g⟩ = true)
 (p : AOp P ⟨some d, op, ty, pos, aft, g⟩ (ev P env) h fun v h' => AL P N ops rest Q ((d, v) :: env) h') : AL P N ops (⟨some d, op, ty, pos, aft, g⟩ :: rest) Q env h := by
 unfold sB at hb
 rw [Bool.and_eq_true] at hb
 refine AL.set hb.1 ?_ p
 revert hb
 cases gv ops env ⟨some d, op, ty, pos, aft, g⟩ with
 | none => intro hb; cases hb.2
 | some b => cases b with
  | false => intro hb; cases hb.2
  | true => intro _; rfl
class W (g : Prop) (s : outParam Prop) : Prop where
 w : s → g
instance w_1 : W (AL P N ops [] Q env h) (Q .normal env h) := ⟨AL.nil⟩
instance w_2 {x y : Code} : W (AWp P N (.seq x y) Q env h) (AWp P N x (seqQ P N y Q) env h) := ⟨AWp.seq⟩
instance w_3 {id : Nat} : W (AWp P N (.region id ops false) Q env h) (AL P N ops ops.toList Q env h) := ⟨AWp.r9⟩
instance w_4 {id : Nat} {c : Code} : W (AWp P N (.block id c) Q env h) (AWp P N c (blockQ id Q) env h) := ⟨AWp.b9⟩
instance w_5 : W (AWp P N .skip Q env h) (Q .normal env h) := ⟨AWp.k9⟩
instance w_6 : W (AWp P N .ret Q env h) (Q .ret env h) := ⟨AWp.ret⟩
theorem aq {h : Heap} (w : WF h) (b : Blk) : ∃ H, h.alloc b = H ∧ H.get h.next = some b ∧ Ext h H ∧ WF H ∧ H.next = h.next + 1 := ⟨_, rfl, Heap.alloc_new _ _, w.ext b, w.alloc b, rfl⟩
theorem AL.heap {l : List Oper} {h' : Heap} (e : h' = h) (p : AL P N ops l Q env h) : AL P N ops l Q env h' := e ▸ p
theorem AWp.heap {c : Code} {h' : Heap} (e : h' = h) (p : AWp P N c Q env h) : AWp P N c Q env h' := e ▸ p
theorem AOp.of_run (p : ∀ φ (a : Act) w, RelO P φ ρ o h a w → ∃ c w' φ' h' v, (execOp a.eval o).run P w = .ok (.value c) w' ∧ K v h' ∧ VRel φ' h'.next v c ∧ Sim P φ' h' w' ∧ Step φ h w φ' h' w') : AOp P o ρ h K := by
 intro φ a w r next Qc kk
 obtain ⟨c, w', φ', h', v, hr, k, v1, s, st⟩ := p φ a w r
 unfold Oper.wp
 rw [hr]
 exact kk c w' φ' h' v k v1 s st
theorem AOp.of_skip (p : ∀ φ (a : Act) w, RelO P φ ρ o h a w → ∃ w' φ' h', (execOp a.eval o).run P w = .ok .skip w' ∧ K undef h' ∧ Sim P φ' h' w' ∧ Step φ h w φ' h' w') : AOp P o ρ h K := by
 intro φ a w r next Qc kk
 obtain ⟨w', φ', h', hr, k, s, st⟩ := p φ a w r
 unfold Oper.wp
 rw [hr]
 exact kk undef w' φ' h' undef k (.und _) s st
theorem AOp.of_pure {v : Value} (k : K v h) (p : ∀ φ (a : Act) w, RelO P φ ρ o h a w → ∃ c, (execOp a.eval o).run P w = .ok (.value c) w ∧ VRel φ h.next v c) : AOp P o ρ h K :=
 .of_run fun φ a w r => by
  obtain ⟨c, hr, hv⟩ := p φ a w r
  exact ⟨c, w, φ, h, v, hr, k, hv, r.sim, Step.refl _ _ _⟩
class TyD (P : Program) (t : TypeId) (d : outParam TypeDesc) : Prop where
 eq : P.underlying t = some d
class TyI (P : Program) (t : TypeId) (size bytes : outParam Nat) (zero : outParam Value) : Prop where
 ex : ∃ i, P.info? t = some i ∧ i.size = size ∧ i.bytes = bytes ∧ i.zero = some zero
 sz : zero.cells.size = size
 plain : zero.cells.toList.all scalar = true
theorem qaT {P : Program} {t : TypeId} {s b : Nat} {z : Value} (h : (P.info? t).map (fun i => (i.size, i.bytes, i.zero)) = some (s, b, some z)) : ∃ i, P.info? t = some i ∧ i.size = s ∧ i.bytes = b ∧ i.zero = some z := by
 cases hi : P.info? t with
 | none => rw [hi] at h; cases h
 | some i =>
  rw [hi] at h
  simp only [Option.map_some, Option.some.injEq, Prod.mk.injEq] at h
  exact ⟨i, rfl, h.1, h.2.1, h.2.2⟩
theorem TyI.size {t : TypeId} {s b : Nat} {z : Value} [k : TyI P t s b z] (w : World) : (sizeOf t).run P w = .ok s w := by
 obtain ⟨i, h1, h2, h3, h4⟩ := k.ex
 simp [sizeOf, typeInfo, h1, h2]
theorem TyI.zero {t : TypeId} {s b : Nat} {z : Value} [k : TyI P t s b z] (w : World) : (zeroValue t).run P w = .ok z w := by
 obtain ⟨i, h1, h2, h3, h4⟩ := k.ex
 simp [zeroValue, typeInfo, h1, h4]
theorem TyD.run {t : TypeId} {d : TypeDesc} [k : TyD P t d] (w : World) : (underlying t).run P w = .ok d w := run_underlying k.eq w
def aggB : TypeDesc → Bool
 | .struct _ | .array _ _ => true
 | _ => false
theorem TyD.isAgg {t : TypeId} {d : TypeDesc} [k : TyD P t d] (w : World) : (isAgg t).run P w = .ok (aggB d) w := by
 simp only [Go.isAgg, Sem.run_bind, k.run, Result.andThen_ok]
 cases d <;> rfl
section pureops
variable {dst : Option Tmp} {ty : TypeId} {pos : String} {aft : Array Edge} {g : Option (Nat × Bool)}
theorem qal {x : Operand} {v : Value} (hx : ρ x = v) (k : K v h) : AOp P ⟨dst, .move x, ty, pos, aft, g⟩ ρ h K :=
 .of_pure k fun φ a w r => ⟨a.eval x, by simp [execOp], hx ▸ r.ev x (by simp [Op.operands])⟩
theorem qaq {x : Operand} {v : Value} (hx : ρ x = v) (k : K v h) : AOp P ⟨dst, .assign x, ty, pos, aft, g⟩ ρ h K :=
 .of_pure k fun φ a w r => ⟨a.eval x, by simp [execOp], hx ▸ r.ev x (by simp [Op.operands])⟩
theorem qac {x : Operand} {i : IntKind} {a : Int} (hx : ρ x = .int i a) (k : K (.int i a) h) : AOp P ⟨dst, .move x, ty, pos, aft, g⟩ ρ h K := qal hx k
theorem qad {x : Operand} {i : IntKind} {a : Int} (hx : ρ x = .int i a) (k : K (.int i a) h) : AOp P ⟨dst, .assign x, ty, pos, aft, g⟩ ρ h K := qaq hx k
theorem qdD {x : Operand} {p : Option Addr} {n c : Nat} (hx : ρ x = .slice p n c) (k : K (.slice p n c) h) : AOp P ⟨dst, .move x, ty, pos, aft, g⟩ ρ h K := qal hx k
theorem qaZ {x : Operand} {p : Option Addr} {n c : Nat} (hx : ρ x = .slice p n c) (k : K (.slice p n c) h) : AOp P ⟨dst, .assign x, ty, pos, aft, g⟩ ρ h K := qaq hx k
theorem qae {x : Operand} {b : Bool} (hx : ρ x = .bool b) (k : K (.bool b) h) : AOp P ⟨dst, .move x, ty, pos, aft, g⟩ ρ h K := qal hx k
theorem qaa {x : Operand} {b : Bool} (hx : ρ x = .bool b) (k : K (.bool b) h) : AOp P ⟨dst, .assign x, ty, pos, aft, g⟩ ρ h K := qaq hx k
theorem qay {x : Operand} {p : Option Addr} (hx : ρ x = .pointer p) (k : K (.pointer p) h) : AOp P ⟨dst, .move x, ty, pos, aft, g⟩ ρ h K := qal hx k
theorem qcy {x : Operand} {p : Option Addr} (hx : ρ x = .pointer p) (k : K (.pointer p) h) : AOp P ⟨dst, .assign x, ty, pos, aft, g⟩ ρ h K := qaq hx k
theorem qai {x : Operand} {p : ByteArray} (hx : ρ x = .string p) (k : K (.string p) h) : AOp P ⟨dst, .move x, ty, pos, aft, g⟩ ρ h K := qal hx k
theorem qag {x : Operand} {p : ByteArray} (hx : ρ x = .string p) (k : K (.string p) h) : AOp P ⟨dst, .assign x, ty, pos, aft, g⟩ ρ h K := qaq hx k
theorem qaH {x : Operand} {p : Array Value} (hx : ρ x = .tuple p) (k : K (.tuple p) h) : AOp P ⟨dst, .move x, ty, pos, aft, g⟩ ρ h K := qal hx k
theorem qa4 {x : Operand} {f : Fn} {p q : Array Value} (hx : ρ x = .func f p q) (k : K (.func f p q) h) : AOp P ⟨dst, .move x, ty, pos, aft, g⟩ ρ h K := qal hx k
theorem qaY {x : Operand} {f : Fn} {p q : Array Value} (hx : ρ x = .func f p q) (k : K (.func f p q) h) : AOp P ⟨dst, .assign x, ty, pos, aft, g⟩ ρ h K := qaq hx k
theorem qah {c x y : Operand} {b : Bool} {v : Value} (hc : ρ c = .bool b) (hx : (bif b then ρ x else ρ y) = v) (k : K v h) : AOp P ⟨dst, .pick c x y, ty, pos, aft, g⟩ ρ h K :=
 .of_pure k fun φ a w r => by
  have h1 := r.ev c (by simp [Op.operands])
  rw [hc] at h1
  have h2 := h1.bool_inv
  refine ⟨if b then a.eval x else a.eval y, by simp [execOp, h2, asBool], ?_⟩
  subst hx
  cases b
  ·
   exact r.ev y (by simp [Op.operands])
  ·
   exact r.ev x (by simp [Op.operands])
end pureops
variable {P : Program} {ρ : Operand → Value} {h : Heap} {K : Value → Heap → Prop} {dst : Option Tmp} {ty : TypeId} {pos : String} {aft : Array Edge} {g : Option (Nat × Bool)}
def binI (op : BinOp) (k : IntKind) (a : Int) (k' : IntKind) (b : Int) : Option Value :=
  match op with
  | .shl => if b < 0 then none else some (.int k (k.wrap (a * 2 ^ min b.toNat k.bits)))
  | .shr => if b < 0 then none else some (.int k (a.fdiv (2 ^ min b.toNat k.bits)))
  | .add => if k = k' then some (.int k (k.wrap (a + b))) else none
  | .sub => if k = k' then some (.int k (k.wrap (a - b))) else none
  | .mul => if k = k' then some (.int k (k.wrap (a * b))) else none
  | .quo => if k = k' then (if b = 0 then none else some (.int k (k.wrap (a.tdiv b)))) else none
  | .rem => if k = k' then (if b = 0 then none else some (.int k (a.tmod b))) else none
  | .and => if k = k' then some (.int k (k.wrap (BitVec.ofInt k.bits a &&& BitVec.ofInt k.bits b).toNat)) else none
  | .or => if k = k' then some (.int k (k.wrap (BitVec.ofInt k.bits a ||| BitVec.ofInt k.bits b).toNat)) else none
  | .xor => if k = k' then some (.int k (k.wrap (BitVec.ofInt k.bits a ^^^ BitVec.ofInt k.bits b).toNat)) else none
  | .andNot => if k = k' then some (.int k (k.wrap (BitVec.ofInt k.bits a &&& ~~~BitVec.ofInt k.bits b).toNat)) else none
  | .eql => if k = k' then some (.bool (decide (a = b))) else none
  | .neq => if k = k' then some (.bool (decide (a ≠ b))) else none
  | .lss => if k = k' then some (.bool (decide (a < b))) else none
  | .leq => if k = k' then some (.bool (decide (a ≤ b))) else none
  | .gtr => if k = k' then some (.bool (decide (b < a))) else none
  | .geq => if k = k' then some (.bool (decide (b ≤ a))) else none
theorem run_binI {op : BinOp} {t : TypeId} {k k' : IntKind} {a b : Int} {v : Value} (w : World) (hv : binI op k a k' b = some v) : (binOp op t (.int k a) (.int k' b)).run P w = .ok v w := by
  cases op <;> simp only [binI] at hv <;>
    first
    | (split at hv
       · rename_i hk; subst hk
         first
         | (split at hv
            · cases hv
            · rename_i hb; cases hv; simp [binOp, Op.intDiv, hb])
         | (cases hv; simp [binOp, Op.intArith, Op.intBits, Op.intCmp]; done)
         | (cases hv; simp [binOp, Op.intCmp]; rfl)
         | (cases hv; simp [binOp, Op.intArith, Op.intBits, Op.intCmp, bne]; by_cases hq : a = b <;> simp [hq])
       · cases hv)
    | (split at hv
       · cases hv
       · rename_i hb; cases hv; simp [binOp, Op.shift, hb])
theorem qdT {op : BinOp} {t : TypeId} {x y : Operand} {k k' : IntKind} {a b : Int} (w : World) : (eqGuard op t x y (.int k a) (.int k' b)).run P w = .ok () w := by
  cases op <;> simp [eqGuard]
theorem qaX {op : BinOp} {t t' : TypeId} {x y : Operand} {k k' : IntKind} {a b : Int} {v : Value} (hx : ρ x = .int k a) (hy : ρ y = .int k' b) (hv : binI op k a k' b = some v) (kk : K v h) :
    AOp P ⟨dst, .binOp op t x y t', ty, pos, aft, g⟩ ρ h K :=
  .of_run fun φ ac w r => by
    have h1 := hx ▸ r.ev x (by simp [Op.operands])
    have h2 := hy ▸ r.ev y (by simp [Op.operands])
    have e1 := h1.int_inv
    have e2 := h2.int_inv
    refine ⟨v, w, φ, h, v, ?_, kk, ?_, r.sim, Step.refl _ _ _⟩
    · simp [execOp, e1, e2, qdT, run_binI w hv]
    · refine .of_scalar ?_
      cases op <;> simp only [binI] at hv <;> (repeat' split at hv) <;> cases hv <;> rfl
theorem qdw {t : TypeId} [ti : TyD P t .bool] (a b : Bool) (w : World) (d : Nat) : (Op.equalIn (d + 1) t (.bool a) (.bool b)).run P w = .ok (a == b) w := by
  simp [Op.equalIn, ti.run]
theorem qew {t : TypeId} [ti : TyD P t .bool] (a b : Bool) (w : World) : (Op.equal t (.bool a) (.bool b)).run P w = .ok (a == b) w := qdw a b w 9999
theorem qd7 {t t' : TypeId} {x y : Operand} {a b : Bool} [ti : TyD P t .bool] (hx : ρ x = .bool a) (hy : ρ y = .bool b) (kk : K (.bool (a == b)) h) :
    AOp P ⟨dst, .binOp .eql t x y t', ty, pos, aft, g⟩ ρ h K :=
  .of_pure kk fun φ ac w r => by
    have h1 := hx ▸ r.ev x (by simp [Op.operands])
    have h2 := hy ▸ r.ev y (by simp [Op.operands])
    have e1 := h1.bool_inv
    have e2 := h2.bool_inv
    refine ⟨_, ?_, .bool _⟩
    simp [execOp, e1, e2, eqGuard, binOp, qew]
def strB (op : BinOp) (x y : ByteArray) : Option Bool :=
  match op with
  | .eql => some (x.toList == y.toList)
  | .neq => some (!(x.toList == y.toList))
  | .lss => some (Op.bytesLess x.toList y.toList)
  | .leq => some (Op.bytesLess x.toList y.toList || x.toList == y.toList)
  | .gtr => some (!(Op.bytesLess x.toList y.toList || x.toList == y.toList))
  | .geq => some (!(Op.bytesLess x.toList y.toList))
  | _ => none
theorem qdZ {op : BinOp} {t t' : TypeId} {x y : Operand} {a b : ByteArray} {c : Bool} (hx : ρ x = .string a) (hy : ρ y = .string b) (hc : strB op a b = some c) (kk : K (.bool c) h) :
    AOp P ⟨dst, .binOp op t x y t', ty, pos, aft, g⟩ ρ h K :=
  .of_pure kk fun φ ac w r => by
    have h1 := hx ▸ r.ev x (by simp [Op.operands])
    have h2 := hy ▸ r.ev y (by simp [Op.operands])
    have e1 := h1.string_inv
    have e2 := h2.string_inv
    refine ⟨_, ?_, .bool _⟩
    cases op <;> simp only [strB, Option.some.injEq, reduceCtorEq] at hc <;> subst hc <;> simp [execOp, e1, e2, eqGuard, binOp, Op.stringOp]
theorem op_strAdd {t t' : TypeId} {x y : Operand} {a b : ByteArray} (hx : ρ x = .string a) (hy : ρ y = .string b) (hs : a.size + b.size ≤ maxLen) (kk : K (.string (a ++ b)) h) :
    AOp P ⟨dst, .binOp .add t x y t', ty, pos, aft, g⟩ ρ h K :=
  .of_pure kk fun φ ac w r => by
    have h1 := hx ▸ r.ev x (by simp [Op.operands])
    have h2 := hy ▸ r.ev y (by simp [Op.operands])
    have e1 := h1.string_inv
    have e2 := h2.string_inv
    refine ⟨_, ?_, .string _⟩
    have hm : ¬ (IntKind.i64.max < (a.size : Int) + (b.size : Int)) := by
      have : IntKind.i64.max = 9223372036854775807 := rfl
      simp only [maxLen] at hs
      omega
    have hr : (Op.stringOp .add a b).run P w = .ok (.string (a ++ b)) w := by
      simp only [Op.stringOp]
      rw [if_neg (by push_cast; exact hm)]
      rfl
    simp [execOp, e1, e2, eqGuard, binOp, hr]
theorem qaL {t : TypeId} {x : Operand} {b : Bool} (hx : ρ x = .bool b) (kk : K (.bool (!b)) h) : AOp P ⟨dst, .unOp .not t x, ty, pos, aft, g⟩ ρ h K :=
  .of_pure kk fun φ ac w r => by
    have h1 := hx ▸ r.ev x (by simp [Op.operands])
    have e1 := h1.bool_inv
    exact ⟨_, by simp [execOp, e1, Op.unary], .bool _⟩
theorem qhQ {s d : TypeId} {x : Operand} {k k' ks : IntKind} {a : Int} [ts : TyD P s (.int ks)] [td : TyD P d (.int k')] (hx : ρ x = .int k a) (kk : K (.int k' (k'.wrap a)) h) :
    AOp P ⟨dst, .convert s d x, ty, pos, aft, g⟩ ρ h K :=
  .of_pure kk fun φ ac w r => by
    have h1 := hx ▸ r.ev x (by simp [Op.operands])
    have e1 := h1.int_inv
    exact ⟨_, by simp [execOp, e1, convert, ts.run, td.run, Conv.intToInt], .int _ _⟩
theorem qav {x : Operand} {i : Nat} {vs : Array Value} {v : Value} (hx : ρ x = .tuple vs) (hv : vs[i]? = some v) (kk : K v h) : AOp P ⟨dst, .extract x i, ty, pos, aft, g⟩ ρ h K :=
  .of_pure kk fun φ ac w r => by
    have h1 := hx ▸ r.ev x (by simp [Op.operands])
    have hi : i < vs.size := (Array.getElem?_eq_some_iff.1 hv).1
    obtain ⟨vs', e1, hs, hr⟩ := h1.tuple_inv (by omega)
    have hi' : i < vs'.size := by omega
    exact ⟨vs'[i], by simp [execOp, e1, Instr.extract, Array.getElem?_eq_getElem hi'], hr i v _ hv (Array.getElem?_eq_getElem hi')⟩
theorem qaC {x : Operand} {i o : Nat} {s : Option Nat} (hx : ρ x = .pointer (some ⟨i, o, s⟩)) (kk : K (.pointer (some ⟨i, o, s⟩)) h) : AOp P ⟨dst, .nilCheck x, ty, pos, aft, g⟩ ρ h K :=
  .of_pure kk fun φ ac w r => by
    have h1 := hx ▸ r.ev x (by simp [Op.operands])
    obtain ⟨e0, _, e1⟩ := h1.ptr_inv
    exact ⟨_, by simp [execOp, e1], e1 ▸ h1⟩
theorem qam {op : BinOp} {t t' : TypeId} {x y : Operand} {k k' : IntKind} {a b : Int} {p : Prop} {ip : Decidable p} (hx : ρ x = .int k a) (hy : ρ y = .int k' b) (hv : binI op k a k' b = some (.bool (@decide p ip))) (hp : p) (kk : K (.bool true) h) :
    AOp P ⟨dst, .binOp op t x y t', ty, pos, aft, g⟩ ρ h K := qaX hx hy hv (by rw [decide_eq_true hp]; exact kk)
theorem qak {op : BinOp} {t t' : TypeId} {x y : Operand} {k k' : IntKind} {a b : Int} {p : Prop} {ip : Decidable p} (hx : ρ x = .int k a) (hy : ρ y = .int k' b) (hv : binI op k a k' b = some (.bool (@decide p ip))) (hp : ¬ p) (kk : K (.bool false) h) :
    AOp P ⟨dst, .binOp op t x y t', ty, pos, aft, g⟩ ρ h K := qaX hx hy hv (by rw [decide_eq_false hp]; exact kk)
theorem qas {t t' : TypeId} {x y : Operand} {a b : Int} (hx : ρ x = .int .i64 a) (hy : ρ y = .int .i64 b) (hr : -9223372036854775808 ≤ a + b ∧ a + b ≤ 9223372036854775807) (kk : K (.int .i64 (a + b)) h) :
    AOp P ⟨dst, .binOp .add t x y t', ty, pos, aft, g⟩ ρ h K :=
  qaX hx hy (v := .int .i64 (a + b)) (by simp only [binI, if_true]; congr 2; rw [IntKind.wrap_i64]; omega) kk
theorem qbU {t t' : TypeId} {x y : Operand} {a b : Int} (hx : ρ x = .int .i64 a) (hy : ρ y = .int .i64 b) (hr : -9223372036854775808 ≤ a - b ∧ a - b ≤ 9223372036854775807) (kk : K (.int .i64 (a - b)) h) :
    AOp P ⟨dst, .binOp .sub t x y t', ty, pos, aft, g⟩ ρ h K :=
  qaX hx hy (v := .int .i64 (a - b)) (by simp only [binI, if_true]; congr 2; rw [IntKind.wrap_i64]; omega) kk
theorem op_mul64 {t t' : TypeId} {x y : Operand} {a b : Int} (hx : ρ x = .int .i64 a) (hy : ρ y = .int .i64 b) (hr : -9223372036854775808 ≤ a * b ∧ a * b ≤ 9223372036854775807) (kk : K (.int .i64 (a * b)) h) :
    AOp P ⟨dst, .binOp .mul t x y t', ty, pos, aft, g⟩ ρ h K :=
  qaX hx hy (v := .int .i64 (a * b)) (by simp only [binI, if_true]; congr 2; rw [IntKind.wrap_i64]; omega) kk
theorem op_conv64 {s d : TypeId} {x : Operand} {k ks : IntKind} {a : Int} [ts : TyD P s (.int ks)] [td : TyD P d (.int .i64)] (hx : ρ x = .int k a) (hr : -9223372036854775808 ≤ a ∧ a ≤ 9223372036854775807) (kk : K (.int .i64 a) h) :
    AOp P ⟨dst, .convert s d x, ty, pos, aft, g⟩ ρ h K :=
  qhQ hx (by rw [show IntKind.i64.wrap a = a from by rw [IntKind.wrap_i64]; omega]; exact kk)
variable {P : Program} {ρ : Operand → Value} {h : Heap} {K : Value → Heap → Prop} {dst : Option Tmp} {ty : TypeId} {pos : String} {aft : Array Edge} {g : Option (Nat × Bool)}
theorem VRels.get {φ : Ren} {n : Nat} {xs cs : List Value} (r : VRels φ n xs cs) : ∀ {j : Nat} {x : Value}, xs[j]? = some x → ∃ c, cs[j]? = some c ∧ VRel φ n x c := by
 induction r with
 | nil => intro j x hj; simp at hj
 | cons hv _ ih =>
  intro j x hj
  cases j with
  | zero => simp at hj; subst hj; exact ⟨_, by simp, hv⟩
  | succ j => simpa using ih (by simpa using hj)
theorem VRels.of {φ : Ren} {n : Nat} : ∀ {xs : List Value} {cs : List Value}, xs.length = cs.length → (∀ (j : Nat) x y, xs[j]? = some x → cs[j]? = some y → VRel φ n x y) → VRels φ n xs cs
 | [], [], _, _ => .nil
 | x :: xs, c :: cs, hl, hr => .cons (hr 0 x c (by simp) (by simp)) (VRels.of (by simpa using hl) fun j a b ha hb => hr (j + 1) a b (by simpa using ha) (by simpa using hb))
 | [], c :: cs, hl, _ => by simp at hl
 | x :: xs, [], hl, _ => by simp at hl
theorem VRels.arr {φ : Ren} {n : Nat} {xs cs : List Value} (r : VRels φ n xs cs) : ∀ (k : Nat) x y, xs.toArray[k]? = some x → cs.toArray[k]? = some y → VRel φ n x y := by
 intro k x y hx hy
 obtain ⟨c, hc, hv⟩ := r.get (j := k) (x := x) (by simpa using hx)
 have : c = y := by simpa [hc] using hy
 exact this ▸ hv
theorem VRels.append {φ : Ren} {n : Nat} {xs cs ys ds : List Value} (a : VRels φ n xs cs) (b : VRels φ n ys ds) : VRels φ n (xs ++ ys) (cs ++ ds) := by
 induction a with
 | nil => exact b
 | cons hv _ ih => exact .cons hv ih
theorem VRels.scalars {φ : Ren} {n : Nat} : ∀ {xs : List Value}, xs.all scalar = true → VRels φ n xs xs
 | [], _ => .nil
 | x :: xs, hs => by
  simp only [List.all_cons, Bool.and_eq_true] at hs
  exact .cons (.of_scalar hs.1) (VRels.scalars hs.2)
theorem VRels.mono {φ φ' : Ren} {n n' : Nat} (ha : ∀ i, i < n → φ' i = φ i) (hn : n ≤ n') {xs cs : List Value} (r : VRels φ n xs cs) : VRels φ' n' xs cs := by
 induction r with
 | nil => exact .nil
 | cons hv _ ih => exact .cons (hv.mono ha hn) ih
theorem Sim.row {φ : Ren} {w : World} (s : Sim P φ h w) {i : Nat} {b : Blk} (hi : h.get i = some b) (p k : Nat) (hp : p + k ≤ b.cells.length) :
  ∃ cs, VRels φ h.next ((b.cells.drop p).take k) cs ∧ cs.length = k ∧ ∀ (j : Nat) v, cs[j]? = some v → w.cell? ((⟨(φ i).b, (φ i).o + p, none⟩ : Addr).add j) = some v := by
 induction k generalizing p with
 | zero => exact ⟨[], by simp; exact .nil, rfl, by simp⟩
 | succ k ih =>
  obtain ⟨cs, h1, h2, h3⟩ := ih (p + 1) (by omega)
  have hb : b.cells[p]? = some b.cells[p] := List.getElem?_eq_getElem (by omega)
  obtain ⟨c, hc, hv⟩ := s.cell hi hb
  refine ⟨c :: cs, ?_, by simp [h2], ?_⟩
  ·
   rw [List.drop_eq_getElem_cons (by omega), List.take_succ_cons]
   exact .cons hv h1
  ·
   intro j v hj
   cases j with
   | zero => simp at hj; subst hj; simpa [Addr.add] using hc
   | succ j =>
    have := h3 j v (by simpa using hj)
    rw [Addr.add_lit] at this ⊢
    rw [← this]
    congr 2
    omega
theorem qaf {t : TypeId} {x : Operand} {i o : Nat} {s : Option Nat} {b : Blk} {v : Value} {d : TypeDesc} [td : TyD P t d] (hx : ρ x = .pointer (some ⟨i, o, s⟩)) (ha : aggB d = false)
  (hi : h.get i = some b) (hv : b.cells[o]? = some v) (kk : K v h) : AOp P ⟨dst, .load t x, ty, pos, aft, g⟩ ρ h K :=
 .of_pure kk fun φ ac w r => by
  obtain ⟨_, _, e1⟩ := (hx ▸ r.ev x (by simp [Op.operands])).ptr_inv
  obtain ⟨c, hc, hr⟩ := r.sim.cell hi hv
  refine ⟨c, ?_, hr⟩
  simp [execOp, e1, Instr.loadAt, Instr.sureAddr, loadVar, td.isAgg, ha, hc]
theorem qaj {t : TypeId} {x : Operand} {i o sz by_ : Nat} {z : Value} {s : Option Nat} {b : Blk} {d : TypeDesc} [td : TyD P t d] [ti : TyI P t sz by_ z] (hx : ρ x = .pointer (some ⟨i, o, s⟩)) (ha : aggB d = true)
  (hi : h.get i = some b) (hl : o + sz ≤ b.cells.length) (kk : K (.agg ((b.cells.drop o).take sz).toArray) h) : AOp P ⟨dst, .load t x, ty, pos, aft, g⟩ ρ h K :=
 .of_pure kk fun φ ac w r => by
  obtain ⟨_, _, e1⟩ := (hx ▸ r.ev x (by simp [Op.operands])).ptr_inv
  obtain ⟨cs, h1, h2, h3⟩ := r.sim.row hi o sz hl
  have hr := run_loadCells_list (P := P) w _ cs h3
  rw [h2] at hr
  refine ⟨.agg cs.toArray, ?_, .agg _ _ (by simp [h1.length]) h1.arr⟩
  simp [execOp, e1, Instr.loadAt, Instr.sureAddr, loadVar, td.isAgg, ha, ti.size, hr]
theorem qdH {φ : Ren} {w : World} (sm : Sim P φ h w) {t : TypeId} {i o sz by_ : Nat} {z : Value} {s : Option Nat} {b : Blk} {d : TypeDesc} {c : Value} [td : TyD P t d] [ti : TyI P t sz by_ z] (hv : VRel φ h.next (.pointer (some ⟨i, o, s⟩)) c) (ha : aggB d = true)
  (hi : h.get i = some b) (hl : o + sz ≤ b.cells.length) : ∃ u, (do loadVar t (← asAddr c) : Sem Value).run P w = .ok u w ∧ VRel φ h.next (.agg ((b.cells.drop o).take sz).toArray) u := by
 obtain ⟨_, _, e1⟩ := hv.ptr_inv
 obtain ⟨cs, h1, h2, h3⟩ := sm.row hi o sz hl
 have hr := run_loadCells_list (P := P) w _ cs h3
 rw [h2] at hr
 refine ⟨.agg cs.toArray, ?_, .agg _ _ (by simp [h1.length]) h1.arr⟩
 simp [e1, asAddr, loadVar, td.isAgg, ha, ti.size, hr]
theorem ResV.cellA {fn : Func} {env : Env} {a : Tmp} {t : TypeId} {i o sz by_ : Nat} {z : Value} {s : Option Nat} {b : Blk} {d : TypeDesc} [td : TyD P t d] [ti : TyI P t sz by_ z] (hr : fn.results = #[.cell a t]) (hx : env.get a = .pointer (some ⟨i, o, s⟩)) (ha : aggB d = true)
  (hi : h.get i = some b) (hl : o + sz ≤ b.cells.length) : ResV P fn env h (.agg ((b.cells.drop o).take sz).toArray) := by
 intro N φ tmps w r
 obtain ⟨u, h1, h2⟩ := qdH (P := P) (t := t) r.sim (hx ▸ r.env a) ha hi hl
 refine ⟨u, ?_, h2⟩
 have h3 : (results fn tmps).run P w = (do loadVar t (← asAddr (tmps.getD a undef)) : Sem Value).run P w := by
  simp only [results, hr]
  simp only [List.mapM_toArray, List.mapM_cons, List.mapM_nil, Sem.run_bind, Sem.run_map, Sem.run_pure]
  cases (asAddr (tmps.getD a undef)).run P w with
  | halt x w1 => rfl
  | ok x w1 =>
   simp only [Result.andThen_ok]
   cases (loadVar t x).run P w1 with
   | halt y w2 => rfl
   | ok y w2 => rfl
 rw [h3, h1]
theorem run_alloc {t : TypeId} {sz by_ : Nat} {z : Value} [ti : TyI P t sz by_ z] (w : World) :
  (Instr.alloc t true (.tuple #[])).run P w = .ok (.pointer (some ⟨w.heap.size, 0, none⟩)) (w.alloc (.cells z.cells t)) := by
 simp [Instr.alloc, ti.zero, newVar, newRow]
theorem qaw {t : TypeId} {sz by_ : Nat} {z : Value} [ti : TyI P t sz by_ z] (kk : K (.pointer (some ⟨h.next, 0, none⟩)) (h.alloc ⟨z.cells.toList, t, true⟩)) :
  AOp P ⟨dst, .alloc t, ty, pos, aft, g⟩ ρ h K :=
 .of_run fun φ ac w r => by
  have hv := VRels.scalars (φ := φ) (n := h.next) ti.plain
  obtain ⟨s1, s2⟩ := r.sim.alloc z.cells.toList z.cells t (0, 0) (.inl rfl) (by simp) (fun k v hk => by
   have := hv.get hk
   simpa using this)
  refine ⟨.pointer (some ⟨w.heap.size, 0, none⟩), _, _, _, _, by simp [execOp, run_alloc], kk, ?_, s1, s2⟩
  have := VRel.ptr (φ := Ren.put φ h.next ⟨w.heap.size, 0, z.cells.size⟩) (n := h.next + 1) h.next 0 (by omega)
  rw [Ren.put_at] at this
  exact this
theorem VRel.cells {φ : Ren} {n : Nat} {v c : Value} (r : VRel φ n v c) (hu : v ≠ undef) : VRels φ n v.cells.toList c.cells.toList := by
 cases r with
 | und => exact absurd rfl hu
 | skip => exact .cons .skip .nil
 | agg c c' h1 h2 => exact .of (by simpa [Value.cells] using h1) (fun j x y hx hy => h2 j x y (by simpa [Value.cells] using hx) (by simpa [Value.cells] using hy))
 | tuple c c' h1 h2 => exact .cons (.tuple c c' h1 h2) .nil
 | bool b => exact .cons (.bool b) .nil
 | int k a => exact .cons (.int k a) .nil
 | float k a => exact .cons (.float k a) .nil
 | complex k a b => exact .cons (.complex k a b) .nil
 | string s => exact .cons (.string s) .nil
 | nilPtr => exact .cons .nilPtr .nil
 | ptr i o hi => exact .cons (.ptr i o hi) .nil
 | nilSlice => exact .cons .nilSlice .nil
 | slice i o len cap cap' s a' hi h1 h2 h3 h4 h5 h6 => exact .cons (.slice i o len cap cap' s a' hi h1 h2 h3 h4 h5 h6) .nil
 | func fn f c f' c' h1 h2 h3 h4 => exact .cons (.func fn f c f' c' h1 h2 h3 h4) .nil
 | nilFunc => exact .cons .nilFunc .nil
 | iface t v v' h => exact .cons (.iface t v v' h) .nil
 | nilIface => exact .cons .nilIface .nil
 | nilMap => exact .cons .nilMap .nil
 | map i hi => exact .cons (.map i hi) .nil
theorem VRels.toArr {φ : Ren} {n : Nat} {xs : List Value} {c : Array Value} (r : VRels φ n xs c.toList) : ∀ (k : Nat) v, xs[k]? = some v → ∃ d, c[k]? = some d ∧ VRel φ n v d := by
 intro k v hk
 have := r.get hk
 simpa using this
theorem qaV {t : TypeId} {x : Operand} {v : Value} (hx : ρ x = v) (hu : v ≠ undef) (kk : K (.pointer (some ⟨h.next, 0, none⟩)) (h.alloc ⟨v.cells.toList, t, true⟩)) :
  AOp P ⟨dst, .box t x, ty, pos, aft, g⟩ ρ h K :=
 .of_run fun φ ac w r => by
  have hv := ((hx ▸ r.ev x (by simp [Op.operands])) : VRel φ h.next v (ac.eval x)).cells hu
  obtain ⟨s1, s2⟩ := r.sim.alloc v.cells.toList (ac.eval x).cells t (0, 0) (.inl rfl) (by have := hv.length; simp at this; simp; omega) hv.toArr
  refine ⟨.pointer (some ⟨w.heap.size, 0, none⟩), w.alloc (.cells (ac.eval x).cells t), _, _, _, by simp [execOp, Instr.box, newVar, newRow], kk, ?_, s1, s2⟩
  have := VRel.ptr (φ := Ren.put φ h.next ⟨w.heap.size, 0, (ac.eval x).cells.size⟩) (n := h.next + 1) h.next 0 (by omega)
  rw [Ren.put_at] at this
  exact this
def oneB : Value → Bool
 | .agg _ | .tuple _ | .chan _ => false
 | _ => true
theorem VRel.one {φ : Ren} {n : Nat} {v c : Value} (r : VRel φ n v c) (ho : oneB v = true) : c.oneCell' = true := by
 cases r <;> first | rfl | (simp [oneB] at ho; done) | (exfalso; simp [oneB, undef] at ho)
theorem qcn (P : Program) (k : Nat) (e : TypeId) (fr : Nat × Nat) : ∀ (vs : List Value) (o i : Nat) (arr : Array Value) (w : World), w.heap[k]? = some (.cells arr e fr) →
  (fr.1 = fr.2 ∨ arr.size ≤ fr.1) → o + i + vs.length ≤ arr.size → (∀ v ∈ vs, v.oneCell' = true) →
  ∃ w', (storeCells ⟨k, o, none⟩ vs i).run P w = .ok () w' ∧ w'.os = w.os ∧ w'.tape = w.tape ∧ w'.output = w.output ∧
   ∀ j : Nat, w'.heap[j]? = if j = k then some (.cells (arr.toList.take (o + i) ++ vs ++ arr.toList.drop (o + i + vs.length)).toArray e fr) else w.heap[j]?
 | [], o, i, arr, w, hk, _, _, _ => ⟨w, rfl, rfl, rfl, rfl, fun j => by
   simp only [List.append_nil, List.length_nil, Nat.add_zero, List.take_append_drop]
   split
   ·
    rename_i hj; subst hj; exact hk
   ·
    rfl⟩
 | v :: vs, o, i, arr, w, hk, hfr, hl, h1 => by
  simp only [List.length_cons] at hl
  have hcell : w.cell? ⟨k, o + i, none⟩ = some arr[o + i] := by
   simp [World.cell?, hk]
  have hfz : w.frozen? ⟨k, o + i, none⟩ = false := by
   simp only [World.frozen?, hk]
   rcases hfr with hfr | hfr
   ·
    rw [Bool.and_eq_false_iff, decide_eq_false_iff_not, decide_eq_false_iff_not]; omega
   ·
    rw [Bool.and_eq_false_iff, decide_eq_false_iff_not]; exact .inl (by omega)
  have hst := run_store P w ⟨k, o + i, none⟩ v .plain (h1 v (by simp))
  simp only [hcell, hfz, Bool.false_eq_true, if_false] at hst
  have hheap : ∀ j : Nat, (w.setCell ⟨k, o + i, none⟩ v).heap[j]? = if j = k then some (.cells (arr.setIfInBounds (o + i) v) e fr) else w.heap[j]? := by
   intro j
   simp only [World.setCell, Array.getElem?_modify]
   by_cases hj : j = k
   ·
    subst hj; simp [hk]
   ·
    rw [if_neg (fun e => hj e.symm), if_neg hj]
  obtain ⟨w', hr, e1, e2, e3, e4⟩ := qcn P k e fr vs o (i + 1) (arr.setIfInBounds (o + i) v) (w.setCell ⟨k, o + i, none⟩ v) (by rw [hheap]; simp) (by simpa using hfr) (by simp; omega) (fun u hu => h1 u (by simp [hu]))
  refine ⟨w', ?_, e1, e2, e3, fun j => ?_⟩
  ·
   simp [storeCells, Addr.add_lit, hst, hr]
  ·
   rw [e4 j]
   split
   ·
    have hL : (arr.setIfInBounds (o + i) v).toList = arr.toList.take (o + i) ++ v :: arr.toList.drop (o + i + 1) := by
     rw [Array.toList_setIfInBounds, List.set_eq_take_append_cons_drop]
     rw [if_pos (by simp; omega)]
    have hlen : (arr.toList.take (o + i)).length = o + i := by simp; omega
    rw [hL]
    congr 3
    have t1 : (arr.toList.take (o + i) ++ v :: arr.toList.drop (o + i + 1)).take (o + (i + 1)) = arr.toList.take (o + i) ++ [v] := by
     rw [show o + (i + 1) = (arr.toList.take (o + i)).length + 1 from by omega, List.take_length_add_append]
     simp
    have t2 : (arr.toList.take (o + i) ++ v :: arr.toList.drop (o + i + 1)).drop (o + (i + 1) + vs.length) = arr.toList.drop (o + i + (v :: vs).length) := by
     rw [show o + (i + 1) + vs.length = (arr.toList.take (o + i)).length + (vs.length + 1) from by omega, List.drop_length_add_append]
     simp only [List.drop_succ_cons, List.drop_drop, List.length_cons]
     congr 1
     omega
    rw [t1, t2]
    simp
   ·
    rename_i hj
    rw [hheap, if_neg hj]
def splice (L : List Value) (o : Nat) (vs : List Value) : List Value := L.take o ++ vs ++ L.drop (o + vs.length)
theorem qbe {L : List Value} {o : Nat} {vs : List Value} (hl : o + vs.length ≤ L.length) : (splice L o vs).length = L.length := by simp [splice]; omega
theorem splice_one (L : List Value) (o : Nat) (v : Value) (ho : o < L.length) : splice L o [v] = L.set o v := by
 rw [List.set_eq_take_append_cons_drop, if_pos ho]
 simp [splice]
theorem qbq (L : List Value) (o : Nat) (vs : List Value) (hl : o + vs.length ≤ L.length) (k : Nat) : (splice L o vs)[k]? = if o ≤ k ∧ k < o + vs.length then vs[k - o]? else L[k]? := by
 unfold splice
 by_cases h1 : k < o
 ·
  rw [List.append_assoc, List.getElem?_append_left (by simp; omega), List.getElem?_take_of_lt h1, if_neg (by omega)]
 ·
  by_cases h2 : k < o + vs.length
  ·
   rw [if_pos (by omega), List.getElem?_append_left (by simp; omega), List.getElem?_append_right (by simp; omega)]
   congr 1
   simp; omega
  ·
   rw [if_neg (by omega), List.getElem?_append_right (by simp; omega), List.getElem?_drop]
   congr 1
   simp; omega
theorem Sim.splice {φ : Ren} {w : World} (s : Sim P φ h w) {i : Nat} {b : Blk} (hi : h.get i = some b) (ho : b.own = true) {o : Nat} {vs cs : List Value} (hr : VRels φ h.next vs cs) (hl : o + vs.length ≤ b.cells.length)
  (h1 : ∀ c ∈ cs, c.oneCell' = true) : ∃ w', (storeCells ⟨(φ i).b, o, none⟩ cs).run P w = .ok () w' ∧ Sim P φ (h.set i ⟨splice b.cells o vs, b.elem, true⟩) w' ∧ Step φ h w φ (h.set i ⟨splice b.cells o vs, b.elem, true⟩) w' := by
 obtain ⟨arr, fr, a1, a2, a3, a4, a5⟩ := s.owned hi ho
 have hlen := hr.length
 obtain ⟨w', hrun, e1, e2, e3, e4⟩ := qcn P (φ i).b b.elem fr cs o 0 arr w a1 (a3.imp id And.left) (by omega) h1
 simp only [Nat.add_zero] at e4
 have hsl : (Eng.splice arr.toList o cs).length = arr.size := by rw [qbe (by simp; omega)]; simp
 obtain ⟨s1, s2⟩ := s.write hi ho a1 (w' := w') (arr' := (Eng.splice arr.toList o cs).toArray) (by simpa using hsl) (by simpa [hsl] using a3) e4 e1 e2 e3 (Eng.splice b.cells o vs) (by rw [qbe hl]; simp [hsl]; omega) (by
  intro k v hk
  rw [qbq _ _ _ hl] at hk
  simp only [List.getElem?_toArray]
  rw [qbq _ _ _ (by simp; omega)]
  by_cases hin : o ≤ k ∧ k < o + vs.length
  ·
   rw [if_pos hin] at hk
   rw [if_pos (by omega)]
   exact hr.get hk
  ·
   rw [if_neg hin] at hk
   rw [if_neg (by omega)]
   simpa using a5 k v hk)
 exact ⟨w', hrun, s1, s2⟩
theorem qau {t : TypeId} {x y : Operand} {i o by_ : Nat} {z : Value} {s : Option Nat} {b : Blk} {v : Value} [ti : TyI P t 1 by_ z] (hx : ρ x = .pointer (some ⟨i, o, s⟩)) (hy : ρ y = v) (h1 : oneB v = true)
  (hi : h.get i = some b) (ho : b.own = true) (hl : o < b.cells.length) (kk : K undef (h.set i ⟨b.cells.set o v, b.elem, true⟩)) : AOp P ⟨dst, .store t x y, ty, pos, aft, g⟩ ρ h K :=
 .of_skip fun φ ac w r => by
  obtain ⟨_, _, e1⟩ := (hx ▸ r.ev x (by simp [Op.operands])).ptr_inv
  have hv : VRel φ h.next v (ac.eval y) := hy ▸ r.ev y (by simp [Op.operands])
  have hone := hv.one h1
  have hc : (ac.eval y).cells = #[ac.eval y] := by
   cases hq : ac.eval y <;> first | rfl | (rw [hq] at hone; simp [Value.oneCell'] at hone)
  obtain ⟨w', h3, h4, h5⟩ := r.sim.splice hi ho (o := o) (.cons hv .nil) (by simp; omega) (by simpa using hone)
  rw [splice_one _ _ _ hl] at h4 h5
  have hz : (φ i).o = 0 := by
   obtain ⟨_, _, _, h2, _⟩ := r.sim.owned hi ho
   exact h2.1
  refine ⟨w', φ, _, ?_, kk, h4, h5⟩
  simp [execOp, e1, Instr.storeAt, Instr.sureAddr, storeVar, ti.size, hc, hz, h3]
theorem qbd {t : TypeId} {x y : Operand} {i o sz by_ : Nat} {z : Value} {s : Option Nat} {b : Blk} {vs : Array Value} [ti : TyI P t sz by_ z] (hx : ρ x = .pointer (some ⟨i, o, s⟩)) (hy : ρ y = .agg vs) (h1 : vs.toList.all oneB = true)
  (hsz : vs.size = sz) (hi : h.get i = some b) (ho : b.own = true) (hl : o + sz ≤ b.cells.length) (kk : K undef (h.set i ⟨splice b.cells o vs.toList, b.elem, true⟩)) : AOp P ⟨dst, .store t x y, ty, pos, aft, g⟩ ρ h K :=
 .of_skip fun φ ac w r => by
  obtain ⟨_, _, e1⟩ := (hx ▸ r.ev x (by simp [Op.operands])).ptr_inv
  obtain ⟨cs, e2, h2, h3⟩ := (hy ▸ r.ev y (by simp [Op.operands])).agg_inv
  have hr : VRels φ h.next vs.toList cs.toList := .of (by simpa using h2) (fun j x y hx hy => h3 j x y (by simpa using hx) (by simpa using hy))
  obtain ⟨w', h4, h5, h6⟩ := r.sim.splice hi ho (o := o) hr (by simp; omega) (by
   intro c hc
   obtain ⟨j, hj⟩ := List.getElem?_of_mem hc
   have hjl : j < vs.toList.length := by rw [hr.length]; exact (List.getElem?_eq_some_iff.1 hj).1
   have hx := List.getElem?_eq_getElem hjl
   obtain ⟨c', hc', hv⟩ := hr.get hx
   rw [hj] at hc'; cases hc'
   exact hv.one (List.all_eq_true.1 h1 _ (List.getElem_mem hjl)))
  have hz : (φ i).o = 0 := by
   obtain ⟨_, _, _, h2, _⟩ := r.sim.owned hi ho
   exact h2.1
  refine ⟨w', φ, _, ?_, kk, h5, h6⟩
  have : cs.size = sz := by omega
  simp [execOp, e1, e2, Instr.storeAt, Instr.sureAddr, storeVar, ti.size, Value.cells, hz, h4, this]
end Go.Eng
