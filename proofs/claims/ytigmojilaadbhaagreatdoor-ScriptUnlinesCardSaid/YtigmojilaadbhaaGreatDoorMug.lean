/-
  Texts of one claim, merged: 7 parts.
-/
import Derived.Test.YtigmojilaadbhaaGreatDoorMuf
import Derived.OrdersIn
import Derived.Scope
import Derived.Lib.ItoaMem
import Derived.Lib.AtoiAll
set_option maxHeartbeats 16000000
/- . -/
namespace Go.Eng
open Go
abbrev yieldV (l : Nat) : Value := .func (.yield l) #[] #[]
def YRes {P : Program} (C : Ctx P) (φ : Ren) (h : Heap) (w : World) (K : Value → Heap → Option Code → Prop) : Ending → World → Prop
 | .returned c, w' => ∃ v h' s' φ', K v h' s' ∧ VRel φ' h'.next v c ∧ Sim P φ' h' w' ∧ StepX C.x φ h w φ' h' w' ∧ C.L s' φ' h' w' ∧
   ∀ D : Nat, w.heap[D]? = some (Obj.deferred (some [])) → w'.heap[D]? = some (Obj.deferred (some []))
 | _, _ => False
def YSpec {P : Program} (C : Ctx P) (ro : Option Nat) (l : Nat) (args : List Value) (h : Heap) (s : Option Code) (K : Value → Heap → Option Code → Prop) : Prop :=
 ∀ φ w cargs, C.L s φ h w → Sim P φ h w → VRels φ h.next args cargs → YieldAt (Fc ro) (0 - 1) P l cargs.toArray w (YRes C φ h w K)
def XCalls {P : Program} (C : Ctx P) (f : FuncId) (args : List Value) (h : Heap) (s : Option Code) (K : Value → Heap → Option Code → Prop) : Prop :=
 ∀ φ w cargs, C.L s φ h w → Sim P φ h w → VRels φ h.next args cargs → CallsIn (Fc none) 0 P f cargs.toArray w (YRes C φ h w K)
section
variable {P : Program} {C : Ctx P} {ro : Option Nat} {N : Nat} {ops : Array Oper} {rest : List Oper} {Q : Exit → XQ} {env : Env} {h : Heap} {s : Option Code}
theorem XL.yield {d : Tmp} {x : Operand} {args : Array Operand} {aT : Array TypeId} {l : Nat} {ty : TypeId} {pos : String} {aft : Array Edge} {g : Option (Nat × Bool)} (hd : Nat.blt d N = true)
  (hg : gv ops env ⟨some d, .call ⟨.value x, args, aT⟩, ty, pos, aft, g⟩ = some true) (hx : ev P env x = yieldV l)
  (hy : YSpec C ro l (args.toList.map (ev P env)) h s fun v h' s' => XL C ro N ops rest Q ((d, v) :: env) h' s') : XL C ro N ops (⟨some d, .call ⟨.value x, args, aT⟩, ty, pos, aft, g⟩ :: rest) Q env h s := by
 intro φ a w hl hdf r
 simp only [wpListIn, qbm r hg, if_true]
 have hv := hx ▸ r.ev x
 obtain ⟨f', d', e1, s1, s2, _, _⟩ := hv.func_inv
 have hf0 : f' = #[] := Array.eq_empty_of_size_eq_zero s1.symm
 subst hf0
 have hargs : VRels φ h.next (args.toList.map (ev P env)) (args.toList.map a.eval) := VRels.map fun y _ => r.ev y
 obtain ⟨fn, tmps, assign, body, hrun, hround⟩ := hy φ w _ hl r.sim hargs
 have harr : (args.toList.map a.eval).toArray = args.map a.eval := by apply Array.ext'; simp
 rw [harr] at hrun
 refine ⟨fun _ _ => trivial, ?_⟩
 rw [show (Fc ro).round = ro from rfl, Oper.semAt_eq ro a.eval _ (by intro c e; cases e)]
 have hex : (execOp a.eval ⟨some d, .call ⟨.value x, args, aT⟩, ty, pos, aft, g⟩).run P w = .ok (.round l fn tmps assign body) w := by
  simp only [execOp, resolve, e1, Deferred.ofValue, Sem.run_bind, Sem.run_pure, Result.andThen_ok, invoke]
  simpa using hrun
 rw [hex]
 refine ⟨(fun e => by cases e), RoundIn.mono hround fun e w' hr => ?_⟩
 cases e with
 | returned c =>
  obtain ⟨v, h', s', φ', k, v1, v2, v3, v4, v5⟩ := hr
  have r' : Rel P N φ' env h' a.tmps w' := ⟨v2, r.size, fun t => v3.mono (r.env t)⟩
  exact qbz (fun _ _ _ hp => hp.trans v3) _ _ _ (k φ' _ w' v4 (by rw [qbb]; exact hdf.keep v5) (r'.put (some d) (qbX hd) v1))
 | _ => exact hr.elim
def setPs : List Tmp → List Value → Env → Env
 | t :: ts, v :: vs, e => setPs ts vs ((t, v) :: e)
 | _, _, e => e
theorem qgk {φ : Ren} {w : World} : ∀ {ts : List Tmp} {vs cs : List Value} {env : Env} {tmps : Array Value}, ts.all (fun t => Nat.blt t N) = true → VRels φ h.next vs cs → Rel P N φ env h tmps w →
  Rel P N φ (setPs ts vs env) h ((ts.zip cs).foldl (fun (t : Array Value) (p : Tmp × Value) => t.setIfInBounds p.1 p.2) tmps) w
 | [], _, _, _, _, _, _, r => by simpa [setPs] using r
 | t :: ts, [], _, _, _, _, va, r => by cases va; simpa [setPs] using r
 | t :: ts, v :: vs, _, env, tmps, hb, va, r => by
  cases va with
  | cons hv hvs =>
   simp only [List.all_cons, Bool.and_eq_true] at hb
   simp only [setPs, List.zip_cons_cons, List.foldl_cons]
   refine qgk hb.2 hvs ?_
   have := r.put (a := ⟨tmps, []⟩) (some t) (by rintro x hx; cases hx; simpa [Nat.blt_eq] using hb.1) hv
   exact this
@[reducible] def roundX (T : Heap → Prop) (F : Heap → Code → Prop) : Exit → XQ
 | .normal, _, h, _ => T h
 | .ret, _, h, _ => F h .ret
 | .exit id, _, h, _ => F h (.exit id)
 | _, _, _, _ => False
def YS {P : Program} (C : Ctx P) (l : Nat) {ι : Type} (Pre : ι → Heap → List Value → Prop) (T : ι → Heap → Prop) (F : ι → Heap → Code → Prop) : Prop :=
 ∀ i H args, Pre i H args → YSpec C none l args H none fun v h' s' => (v = .bool true ∧ s' = none ∧ T i h') ∨ (v = .bool false ∧ ∃ j, s' = some j ∧ F i h' j)
def roundCtx (P : Program) (l : Nat) (rec : Loop) (φ0 : Ren) (h0 : Heap) (w0 : World) : Ctx P where
 x := fun k => k = l
 L := fun _ φ h w => StepX (fun k => k = l) φ0 h0 w0 φ h w ∧ w.heap[l]? = some (.loop rec)
 B := fun _ => False
 st := fun s l t => ⟨l.1.trans t.x, t.other s l.2 rfl⟩
def recOf (rec : Loop) : Option Code → Loop
 | none => rec
 | some j => { rec with state := .done, pending := some j }
def seqCtx (P : Program) (l : Nat) (rec : Loop) (φ0 : Ren) (h0 : Heap) (w0 : World) : Ctx P where
 x := fun k => k = l
 L := fun s φ h w => StepX (fun k => k = l) φ0 h0 w0 φ h w ∧ w.heap[l]? = some (.loop (recOf rec s))
 B := fun _ => False
 st := fun s l t => ⟨l.1.trans t.x, t.other s l.2 rfl⟩
theorem qep {ds : List Deferred} {w : World} (m : Marks (fun _ => False) ds w) : ds = [] := by
 obtain ⟨Ds, h1, _, h3⟩ := m
 cases Ds with
 | nil => exact h1
 | cons D Ds => exact ((h3 D (by simp)).1).elim
def Ctx.Quiet {P : Program} (C : Ctx P) : Prop := ∀ (s s' : Option Code) (φ φ' : Ren) (h h' : Heap) (w w' : World), Sim P φ h w → StepX C.x φ h w φ' h' w' → C.L s φ h w → C.L s' φ' h' w' →
 ∀ D : Nat, w.heap[D]? = some (Obj.deferred (some [])) → w'.heap[D]? = some (Obj.deferred (some []))
theorem qfE {P : Program} (l : Nat) (rec : Loop) (φ0 : Ren) (h0 : Heap) (w0 : World) : (seqCtx P l rec φ0 h0 w0).Quiet := by
 intro s s' φ φ' h h' w w' sm st l1 _ D hD
 have hne : ¬ D = l := by rintro rfl; have h2 := l1.2; rw [hD] at h2; cases h2
 rw [st.frame D (qbM hD) (sm.not_owned hD rfl) hne]
 exact hD
theorem YSpec.mono {P : Program} {C : Ctx P} {ro : Option Nat} {l : Nat} {args : List Value} {h : Heap} {s : Option Code} {K K' : Value → Heap → Option Code → Prop} (p : YSpec C ro l args h s K) (hk : ∀ v h' s', WF h' → h.next ≤ h'.next → K v h' s' → K' v h' s') : YSpec C ro l args h s K' := by
 intro φ w cargs hl sm va
 obtain ⟨fn, tmps, assign, body, hrun, hround⟩ := p φ w cargs hl sm va
 refine ⟨fn, tmps, assign, body, hrun, RoundIn.mono hround fun e w' hr => ?_⟩
 cases e with
 | returned c =>
  obtain ⟨v, h', s', φ', k, v1, v2, v3, v4, v5⟩ := hr
  exact ⟨v, h', s', φ', hk v h' s' v2.next v3.next k, v1, v2, v3, v4, v5⟩
 | _ => exact hr
theorem XWp.rangeFunc {gop : Operand} {ps : Array Tmp} {assign body : Code} {gf : FuncId} {fi ca : List Value} [fc : FnC P gf] {ι : Type} (Pre : ι → Heap → List Value → Prop) (T : ι → Heap → Prop) (F : ι → Heap → Code → Prop) (E : Heap → Prop) (J : Heap → Code → Prop)
  (hx : ev P env gop = .func (.func gf) fi.toArray ca.toArray) (_hxC : ∀ k, ¬ C.x k) (hB : ∀ φ w, C.L s φ h w → C.B w.heap.size) (hps : ps.toList.all (fun t => Nat.blt t N) = true)
  (hlen : ∀ i H args, Pre i H args → args.length = ps.size)
  (seq : ∀ (C1 : Ctx P) l, C1.Quiet → YS C1 l Pre T F → XCalls C1 gf (fi ++ (yieldV l :: ca)) h none fun _ h' s' => (s' = none ∧ E h') ∨ ∃ j, s' = some j ∧ J h' j)
  (bod : ∀ (Ca Cb : Ctx P) l i H args, Pre i H args → XWp Ca (some l) N assign (thenX (fun e h' _ => XWp Cb (some l) N body (roundX (T i) (F i)) e h' none) (fun _ _ _ _ => False)) (setPs ps.toList args env) H none)
  (fin : ∀ h', h.next ≤ h'.next → E h' → Q .normal env h' s) (jmp : ∀ h' j, h.next ≤ h'.next → J h' j → XWp C none N j Q env h' s) : XWp C none N (.rangeFunc gop ps assign body) Q env h s := by
 intro φ a w hl hm r
 refine wpIn_rangeFunc fun fnid _ => ?_
 have hv := hx ▸ r.ev gop
 obtain ⟨f', d', e1, s1, s2, q1, q2⟩ := hv.func_inv
 obtain ⟨fn, hf, hb, hn⟩ := fc.ex
 have hbn : fn.body.isNone = false := by
  cases hbb : fn.body with
  | none => rw [hbb] at hb; cases hb
  | some _ => rfl
 obtain ⟨D, hD⟩ : ∃ D, D = w.heap.size := ⟨_, rfl⟩
 obtain ⟨rec, hrec⟩ : ∃ rec : Loop, rec = { state := .ready, pending := none, fn := fnid, tmps := a.tmps, params := ps, assign := assign, body := body, defers := w.heap.size } := ⟨_, rfl⟩
 have henter := run_enterLoop_outer (P := P) (w := w) fnid a.tmps ps assign body
 rw [← hrec] at henter
 obtain ⟨w1, hw1⟩ : ∃ w1, w1 = (w.alloc (.deferred (some []))).alloc (.loop rec) := ⟨_, rfl⟩
 rw [← hw1] at henter
 have hDw : w1.heap[D]? = some (Obj.deferred (some [])) := by
  rw [hw1, hD]
  exact qfi (World.alloc_heap_new _ _)
 have hlw : w1.heap[D + 1]? = some (Obj.loop rec) := by
  have := World.alloc_heap_new (w.alloc (.deferred (some []))) (.loop rec)
  rw [World.size_alloc] at this
  rw [hw1, hD]
  exact this
 have sim1 : Sim P φ h w1 := by rw [hw1]; exact (r.sim.aside (.alloc _ _)).aside (.alloc _ _)
 have st1 : StepX (fun _ => False) φ h w φ h w1 := by rw [hw1]; exact ((StepX.refl _ _ _ _).alloc _).alloc _
 have hst0 : rec.state = .ready := by rw [hrec]
 have hpd0 : rec.pending = none := by rw [hrec]
 have hps0 : rec.params = ps := by rw [hrec]
 have htm0 : rec.tmps = a.tmps := by rw [hrec]
 have has0 : rec.assign = assign := by rw [hrec]
 have hbo0 : rec.body = body := by rw [hrec]
 clear hrec
 obtain ⟨l, hl1⟩ : ∃ l, l = D + 1 := ⟨_, rfl⟩
 rw [← hl1] at hlw
 have hlsz : w.heap.size ≤ l := by omega
 have hev : (resolve a.eval (rangeCall gop l) 0).run P w1 = .ok { target := .fn (.func gf) d', args := f' ++ #[yieldV l] } w1 := by
  have hmap : (#[Operand.const (yieldV l)] : Array Operand).map a.eval = #[yieldV l] := by simp [Act.eval]
  simp only [resolve, hmap, e1, Deferred.ofValue, Sem.run_pure]
 have hinv : (invoke (.fn (.func gf) d') (f' ++ #[yieldV l])).run P w1 = .ok (.enter gf (f'.toList ++ (yieldV l :: d'.toList)).toArray) w1 := by
  have harr : (f' ++ #[yieldV l] ++ d') = (f'.toList ++ (yieldV l :: d'.toList)).toArray := by apply Array.ext'; simp
  simp only [invoke, callFunc, Sem.run_bind, run_program, Result.andThen_ok, hf, hn, hbn, Bool.false_eq_true, if_false, Sem.run_pure]
  rw [harr]
 refine ⟨l, _, w1, _, w1, gf, _, w1, by rw [hl1, hD]; exact henter, hev, fun _ _ => trivial, hinv, (fun e => by cases e), ?_⟩
 have hargs : VRels φ h.next (fi ++ (yieldV l :: ca)) (f'.toList ++ (yieldV l :: d'.toList)) := by
  refine VRels.append (by simpa using VRels.ofArr s1 q1) (.cons (.func _ _ _ _ _ rfl rfl (by simp) (by simp)) (by simpa using VRels.ofArr s2 q2))
 have ys : YS (seqCtx P l rec φ h w1) l Pre T F := by
  intro i H args hpre φ' w' cargs hL sm va
  obtain ⟨hstp, hrecl⟩ := hL
  replace hrecl : w'.heap[l]? = some (.loop rec) := hrecl
  have hcl : cargs.toArray.size = rec.params.size := by
   have := va.length
   rw [hlen i H args hpre] at this
   simp [hps0, this]
  refine ⟨_, _, _, _, run_yield hrecl hcl, ?_⟩
  rw [has0, hbo0, hps0, htm0]
  have hrel : Rel P N φ' env H a.tmps w' := ⟨sm, r.size, fun t => hstp.mono (r.env t)⟩
  have hrel2 := qgk hps va hrel
  have hfold : (ps.zip cargs.toArray).foldl (fun tmps (p : Tmp × Value) => tmps.setIfInBounds p.1 p.2) a.tmps = (ps.toList.zip cargs).foldl (fun (t : Array Value) (p : Tmp × Value) => t.setIfInBounds p.1 p.2) a.tmps := by
   rw [← Array.foldl_toList]
   simp
  refine roundIn_of_wpIn trivial ?_
  rw [hfold]
  have hb1 := bod (roundCtx P l rec φ' H w') (roundCtx P l { rec with state := .busy } φ' H w') l i H args hpre φ' ⟨_, []⟩ w' ⟨StepX.refl _ _ _ _, hrecl⟩ (Marks.nil _ _) hrel2
  refine wpIn_mono hb1 fun ex a1 w2 hp => ?_
  cases ex with
  | normal =>
   obtain ⟨e2, h2, s3, φ2, k2, m2, r2, t2, L2⟩ := hp
   refine ⟨_, run_beginRound L2.2 hst0, ?_⟩
   have sm2 : Sim P φ2 h2 (w2.putObj l (.loop { rec with state := .busy })) := r2.sim.aside (.put L2.2 rfl)
   have hbusy : (w2.putObj l (.loop { rec with state := .busy })).heap[l]? = some (.loop { rec with state := .busy }) := World.putObj_heap_same (qbM L2.2)
   have t2' : StepX (fun k => k = l) φ' H w' φ2 h2 (w2.putObj l (.loop { rec with state := .busy })) := t2.put _ (.inr rfl)
   have hb2 := k2 φ2 a1 _ ⟨t2', hbusy⟩ (by rw [qep m2]; exact Marks.nil _ _) ⟨sm2, r2.size, r2.env⟩
   refine wpIn_mono hb2 fun ex3 a3 w3 hp3 => ?_
   have hrest : ∀ (jump : Option Code) (K : Heap → Prop), (∃ env' h' s' φ3, K h' ∧ Marks (fun _ => False) a3.defers w3 ∧ Rel P N φ3 env' h' a3.tmps w3 ∧ StepX (fun k => k = l) φ2 h2 (w2.putObj l (.loop { rec with state := .busy })) φ3 h' w3 ∧ (roundCtx P l { rec with state := .busy } φ' H w').L s' φ3 h' w3) →
     (∀ h', K h' → (jump = none ∧ T i h') ∨ ∃ j, jump = some j ∧ F i h' j) →
     ∃ v w4, (Instr.endRound l jump).run P w3 = .ok v w4 ∧ YRes (seqCtx P l rec φ h w1) φ' H w' (fun v h' s' => (v = .bool true ∧ s' = none ∧ T i h') ∨ (v = .bool false ∧ ∃ j, s' = some j ∧ F i h' j)) (.returned v) w4 := by
    rintro jump K ⟨e4, h4, s4, φ4, k4, m4, r4, t4, L4⟩ hK
    refine ⟨_, _, run_endRound jump L4.2, ?_⟩
    have hmk : ∀ D' : Nat, w'.heap[D']? = some (Obj.deferred (some [])) → (w3.putObj l (.loop { rec with state := if jump.isNone then .ready else .done, pending := jump })).heap[D']? = some (Obj.deferred (some [])) := by
     intro D' hD'
     have hne : D' ≠ l := by rintro rfl; rw [hrecl] at hD'; cases hD'
     rw [World.putObj_heap_other hne, L4.1.frame D' (qbM hD') (sm.not_owned hD' rfl) hne]
     exact hD'
    have sm4 : Sim P φ4 h4 (w3.putObj l (.loop { rec with state := if jump.isNone then .ready else .done, pending := jump })) := r4.sim.aside (.put L4.2 rfl)
    have st4 : StepX (fun k => k = l) φ' H w' φ4 h4 (w3.putObj l (.loop { rec with state := if jump.isNone then .ready else .done, pending := jump })) := L4.1.put _ (.inr rfl)
    have hat : (w3.putObj l (.loop { rec with state := if jump.isNone then .ready else .done, pending := jump })).heap[l]? = some (.loop { rec with state := if jump.isNone then .ready else .done, pending := jump }) := World.putObj_heap_same (qbM L4.2)
    refine ⟨.bool jump.isNone, h4, jump, φ4, ?_, .bool _, sm4, st4, ⟨hstp.trans st4, ?_⟩, hmk⟩
    ·
     rcases hK h4 k4 with ⟨rfl, ht⟩ | ⟨j, rfl, hF⟩
     ·
      exact .inl ⟨rfl, rfl, ht⟩
     ·
      exact .inr ⟨rfl, j, rfl, hF⟩
    ·
     rw [hat]
     congr 2
     cases jump with
     | none =>
      show ({ rec with state := .ready, pending := none } : Loop) = rec
      cases rec
      simp only at hst0 hpd0
      subst hst0 hpd0
      rfl
     | some j => rfl
   cases ex3 with
   | normal =>
    obtain ⟨v, w4, h1, h2⟩ := hrest none (T i) hp3 (fun h' hk => .inl ⟨rfl, hk⟩)
    exact ⟨v, w4, h1, h2⟩
   | ret =>
    obtain ⟨v, w4, h1, h2⟩ := hrest (some .ret) (fun h' => F i h' .ret) hp3 (fun h' hk => .inr ⟨_, rfl, hk⟩)
    exact ⟨v, w4, h1, h2⟩
   | exit id =>
    obtain ⟨v, w4, h1, h2⟩ := hrest (some (.exit id)) (fun h' => F i h' (.exit id)) hp3 (fun h' hk => .inr ⟨_, rfl, hk⟩)
    exact ⟨v, w4, h1, h2⟩
   | goto g => obtain ⟨_, _, _, _, k, _⟩ := hp3; exact k.elim
   | panic c => obtain ⟨_, _, _, _, k, _⟩ := hp3; exact k.elim
   | outgrown => obtain ⟨_, _, _, _, k, _⟩ := hp3; exact k.elim
  | exit id => obtain ⟨_, _, _, _, k, _⟩ := hp; exact k.elim
  | goto g => obtain ⟨_, _, _, _, k, _⟩ := hp; exact k.elim
  | ret => obtain ⟨_, _, _, _, k, _⟩ := hp; exact k.elim
  | panic c => obtain ⟨_, _, _, _, k, _⟩ := hp; exact k.elim
  | outgrown => obtain ⟨_, _, _, _, k, _⟩ := hp; exact k.elim
 have hcall := seq (seqCtx P l rec φ h w1) l (qfE _ _ _ _ _) ys φ w1 _ ⟨StepX.refl _ _ _ _, hlw⟩ sim1 hargs
 refine CallsIn.mono hcall fun e w3 hr => ?_
 cases e with
 | returned c =>
  obtain ⟨v, h', s', φ', k, v1, v2, v3, v4, v5⟩ := hr
  have hbusy : (recOf rec s').state ≠ .busy := by
   cases s' with
   | none => show rec.state ≠ .busy; rw [hst0]; intro e; cases e
   | some j => intro e; cases e
  have hpend : (recOf rec s').pending = s' := by
   cases s' with
   | none => exact hpd0
   | some j => rfl
  refine ⟨_, _, run_endLoop v4.2 hbusy, ?_⟩
  generalize hw4 : w3.putObj l (.loop { recOf rec s' with state := .exhausted }) = w4
  rw [hpend]
  have sm4 : Sim P φ' h' w4 := by rw [← hw4]; exact v2.aside (.put v4.2 rfl)
  have st4 : Step φ h w φ' h' w4 := by
   have h1 : StepX (fun k => k = l) φ h w φ' h' w3 := (st1.wider (y := fun k => k = l) (fun k _ e => e.elim)).trans v3
   rw [← hw4]
   refine (h1.put (.loop { recOf rec s' with state := .exhausted }) (.inl hlsz)).full fun k hk e => ?_
   omega
  have hDl : D ≠ l := by omega
  have hD4 : w4.heap[D]? = some (Obj.deferred (some [])) := by
   rw [← hw4, World.putObj_heap_other hDl]
   exact v5 D hDw
  have hm4 : Marks C.B ([{ target := .collected w.heap.size, args := #[] }] ++ a.defers) w4 := by
   obtain ⟨Ds, m1, m2, m3⟩ := hm.step r.sim st4
   refine ⟨D :: Ds, by rw [m1, hD]; rfl, List.nodup_cons.2 ⟨fun hin => ?_, m2⟩, fun D' hD' => ?_⟩
   ·
    obtain ⟨Ds', n1, n2, n3⟩ := hm
    have hmap : Ds = Ds' := by
     have := m1.symm.trans n1
     have hinj : ∀ (x y : List Nat), x.map (fun D => ({ target := .collected D, args := #[] } : Deferred)) = y.map (fun D => ({ target := .collected D, args := #[] } : Deferred)) → x = y := by
      intro x
      induction x with
      | nil => intro y e; cases y with | nil => rfl | cons _ _ => simp at e
      | cons a x ih =>
       intro y e
       cases y with
       | nil => simp at e
       | cons b y =>
        simp at e
        rw [e.1, ih y (by simpa using e.2)]
     exact hinj _ _ this
    subst hmap
    have := qbM (n3 D hin).2
    omega
   ·
    rcases List.mem_cons.1 hD' with rfl | hD'
    ·
     exact ⟨by rw [hD]; exact hB φ w hl, hD4⟩
    ·
     exact m3 D' hD'
  have r4 : Rel P N φ' env h' a.tmps w4 := ⟨sm4, r.size, fun t => st4.mono (r.env t)⟩
  have L4 := C.st r.sim hl st4
  rcases k with ⟨rfl, hE⟩ | ⟨j, rfl, hJ⟩
  ·
   exact ⟨env, h', s, φ', fin h' st4.next hE, hm4, r4, st4.x, L4⟩
  ·
   have := jmp h' j st4.next hJ φ' ⟨a.tmps, [{ target := .collected w.heap.size, args := #[] }] ++ a.defers⟩ _ L4 hm4 r4
   exact wpIn_mono this fun _ _ _ hp => hp.trans st4.x
 | _ => exact hr.elim
@[reducible] def endX (K : XQ) : Exit → XQ
 | .normal, e, h, s => K e h s
 | .ret, e, h, s => K e h s
 | _, _, _, _ => False
def freeCtx (P : Program) (b : Nat) : Ctx P where
 x := fun _ => False
 L := fun _ _ _ w => b ≤ w.heap.size
 B := fun D => b ≤ D
 st := fun _ l t => Nat.le_trans l t.size
theorem qf6 {φ : Ren} {w : World} {args cargs : List Value} {n : Nat} (sm : Sim P φ h w) (va : VRels φ h.next args cargs) (hn : cargs.length ≤ n) : Rel P n φ (entry args) h (cargs.toArray ++ Array.replicate (n - cargs.toArray.size) undef) w := by
 refine ⟨sm, by simp; omega, fun t => ?_⟩
 have h1 := va.at t
 rw [show (entry args).get t = args.getD t undef from by unfold entry; rw [qcg]; simp]
 by_cases ht : t < cargs.length
 ·
  have e : (cargs.toArray ++ Array.replicate (n - cargs.toArray.size) undef).getD t undef = cargs.getD t undef := by
   simp [Array.getD_eq_getD_getElem?, Array.getElem?_append, ht]
  rw [e]; exact h1
 ·
  have e : args.getD t undef = undef := by have := va.length; simp [List.getD_eq_getElem?_getD, List.getElem?_eq_none (show args.length ≤ t by omega)]
  rw [e]; exact .und _
theorem leaves {fn : Func} {φ0 : Ren} {h0 : Heap} {w0 : World} {K : Value → Heap → Prop} {env' : Env} {h' : Heap} {φ' : Ren} {v : Value} {tmps : Array Value} (hv : ResV P fn env' h' v) (hK : K v h') : ∀ (Ds : List Nat) (w' : World), Ds.Nodup → (∀ D ∈ Ds, w0.heap.size ≤ D ∧ w'.heap[D]? = some (Obj.deferred (some []))) →
  Rel P fn.ntmps φ' env' h' tmps w' → StepX (fun _ => False) φ0 h0 w0 φ' h' w' →
  LeavesInM (Fc none) 0 P fn tmps (ARes P φ0 h0 w0 K) (Ds.map fun D => { target := .collected D, args := #[] }) .returning w'
 | [], w', _, _, r, t => by
  obtain ⟨c, hc, hr⟩ := hv _ _ _ _ r
  exact ⟨c, hc, v, h', φ', hK, hr, r.sim, t.full (fun _ _ e => e)⟩
 | D :: Ds, w', hnd, hd, r, t => by
  obtain ⟨n1, n2⟩ := List.nodup_cons.1 hnd
  have hD := hd D (by simp)
  refine ⟨(by intro e; cases e), .inl ⟨D, _, rfl, run_takeDeferred hD.2, ?_⟩⟩
  refine leaves hv hK Ds _ n2 (fun D' hD' => ?_) ⟨r.sim.aside (.put hD.2 rfl), r.size, r.env⟩ (t.put _ (.inl hD.1))
  have hne : D' ≠ D := by rintro rfl; exact n1 hD'
  rw [World.putObj_heap_other hne]
  exact hd D' (by simp [hD'])
theorem ACalls.bodyX {f : FuncId} {fn : Func} {c : Code} {args : List Value} {K : Value → Heap → Prop} (hf : P.funcs[f]? = some fn) (hb : fn.body = some c) (hn : args.length ≤ fn.ntmps)
  (p : ∀ b, XWp (freeCtx P b) none fn.ntmps c (endX fun env h' _ => ∃ v, ResV P fn env h' v ∧ K v h') (entry args) h none) : ACalls P f args h K := by
 intro φ w cargs sm va
 refine (callsIn_wide (n := 0)).1 ?_
 have hlen := va.length
 have hw := p w.heap.size φ ⟨cargs.toArray ++ Array.replicate (fn.ntmps - cargs.toArray.size) undef, []⟩ w (Nat.le_refl _) (Marks.nil _ _) (qf6 sm va (by omega))
 refine callsIn_of_wp_marks hf hb trivial (wpIn_mono hw fun ex a' w' hp => ?_)
 have key : (∃ env' h' s' φ', (∃ v, ResV P fn env' h' v ∧ K v h') ∧ Marks (freeCtx P w.heap.size).B a'.defers w' ∧ Rel P fn.ntmps φ' env' h' a'.tmps w' ∧ StepX (fun _ => False) φ h w φ' h' w' ∧ (freeCtx P w.heap.size).L s' φ' h' w') → LeavesInM (Fc none) 0 P fn a'.tmps (ARes P φ h w K) a'.defers .returning w' := by
  rintro ⟨env', h', s', φ', ⟨v, hv, hK⟩, ⟨Ds, m1, m2, m3⟩, r, t, _⟩
  rw [m1]
  exact leaves hv hK Ds w' m2 m3 r t
 cases ex with
 | normal => exact key hp
 | ret => exact key hp
 | exit id => obtain ⟨_, _, _, _, k, _⟩ := hp; exact k.elim
 | goto g => obtain ⟨_, _, _, _, k, _⟩ := hp; exact k.elim
 | panic c => obtain ⟨_, _, _, _, k, _⟩ := hp; exact k.elim
 | outgrown => obtain ⟨_, _, _, _, k, _⟩ := hp; exact k.elim
def Ctx.bare (C : Ctx P) : Ctx P := { C with B := fun _ => False }
theorem XCalls.body {f : FuncId} {fn : Func} {c : Code} {args : List Value} {K : Value → Heap → Option Code → Prop} (hf : P.funcs[f]? = some fn) (hb : fn.body = some c) (hn : args.length ≤ fn.ntmps)
  (p : XWp C.bare none fn.ntmps c (endX fun env h' s' => ∃ v, ResV P fn env h' v ∧ K v h' s') (entry args) h s) (hD : C.Quiet) : XCalls C f args h s K := by
 intro φ w cargs hl sm va
 have hlen := va.length
 have hw := p φ ⟨cargs.toArray ++ Array.replicate (fn.ntmps - cargs.toArray.size) undef, []⟩ w hl (Marks.nil _ _) (qf6 sm va (by omega))
 refine callsIn_of_wp_marks hf hb trivial (wpIn_mono hw fun ex a' w' hp => ?_)
 have key : (∃ env' h' s' φ', (∃ v, ResV P fn env' h' v ∧ K v h' s') ∧ Marks (fun _ => False) a'.defers w' ∧ Rel P fn.ntmps φ' env' h' a'.tmps w' ∧ StepX C.x φ h w φ' h' w' ∧ C.L s' φ' h' w') → LeavesInM (Fc none) 0 P fn a'.tmps (YRes C φ h w K) a'.defers .returning w' := by
  rintro ⟨env', h', s', φ', ⟨v, hv, hK⟩, m, r, t, L⟩
  rw [qep m]
  obtain ⟨c, hc, hr⟩ := hv _ _ _ _ r
  exact ⟨c, hc, v, h', s', φ', hK, hr, r.sim, t, L, hD _ _ _ _ _ _ _ _ sm t hl L⟩
 cases ex with
 | normal => exact key hp
 | ret => exact key hp
 | exit id => obtain ⟨_, _, _, _, k, _⟩ := hp; exact k.elim
 | goto g => obtain ⟨_, _, _, _, k, _⟩ := hp; exact k.elim
 | panic c => obtain ⟨_, _, _, _, k, _⟩ := hp; exact k.elim
 | outgrown => obtain ⟨_, _, _, _, k, _⟩ := hp; exact k.elim
end
inductive KdX where
 | P | R | X | W
def kdWX : KdX → Bool
 | .W => true
 | _ => false
def kdRX : KdX → Bool
 | .R => true
 | _ => false
def kdPX : KdX → Bool
 | .P => true
 | _ => false
def pairX (ops : Array Oper) (A : Array Nat) (p q : Nat × KdX) : Bool :=
 !edgeB ops p.1 q.1 && (ancB A q.1 p.1 || (kdRX p.2 && !kdWX q.2 && apartB ops p.1 q.1) || (kdPX p.2 && apartB ops p.1 q.1))
def pairsX (ops : Array Oper) (A : Array Nat) : List (Nat × KdX) → Bool
 | [] => true
 | p :: σ => !edgeB ops p.1 p.1 && σ.all (fun q => !Nat.beq p.1 q.1 && pairX ops A p q) && pairsX ops A σ
def drawX (ops : Array Oper) (σ : List (Nat × KdX)) : Bool :=
 let A := Region.before ops
 Nat.beq σ.length ops.size && (List.range ops.size).all (fun i => σ.any fun p => Nat.beq p.1 i) && σ.all (fun p => Nat.blt p.1 ops.size) && A.all (fun x => Nat.blt x (2 ^ ops.size)) && rangeB ops && pairsX ops A σ && closeB ops A
theorem qeO {ops : Array Oper} {A : Array Nat} : ∀ {σ1 σ2 : List (Nat × KdX)} {p : Nat × KdX}, pairsX ops A (σ1 ++ p :: σ2) = true → pairsX ops A (σ1 ++ σ2) = true ∧ (∀ s ∈ σ1, pairX ops A s p = true ∧ s.1 ≠ p.1) ∧ (∀ s ∈ σ2, s.1 ≠ p.1)
 | [], σ2, p, hp => by
  simp only [List.nil_append, pairsX, Bool.and_eq_true, List.all_eq_true] at hp
  refine ⟨hp.2, by simp, fun s hs he => ?_⟩
  have := (hp.1.2 s hs).1
  rw [he] at this
  simp at this
 | q :: σ1, σ2, p, hp => by
  simp only [List.cons_append, pairsX, Bool.and_eq_true, List.all_eq_true] at hp
  obtain ⟨⟨h0, h1⟩, h2⟩ := hp
  obtain ⟨g1, g2, g3⟩ := qeO h2
  refine ⟨?_, ?_, g3⟩
  ·
   simp only [List.cons_append, pairsX, Bool.and_eq_true, List.all_eq_true]
   refine ⟨⟨h0, fun s hs => h1 s ?_⟩, g1⟩
   rcases List.mem_append.1 hs with h | h
   ·
    exact List.mem_append_left _ h
   ·
    exact List.mem_append_right _ (by simp [h])
  ·
   intro s hs
   rcases List.mem_cons.1 hs with rfl | hs
   ·
    obtain ⟨u1, u2⟩ := h1 p (List.mem_append_right _ (by simp))
    refine ⟨u2, fun he => ?_⟩
    rw [he] at u1
    simp at u1
   ·
    exact g2 s hs
def XDAL {P : Program} (C : Ctx P) (s : Option Code) (N : Nat) (ops : Array Oper) (Q : Exit → XQ) : List (Nat × KdX) → Env → Heap → Prop
 | [], env, h => ∀ φ a w, C.L s φ h w → Marks C.B a.defers w → Rel P N φ env h a.tmps w → XPost C N φ h w (Q .normal) a w
 | (i, .R) :: σ, env, h => ∃ o, ops[i]? = some o ∧ dstB N o.dst = true ∧ ∃ v, ((gv ops env o = some true ∧ ROp P o (ev P env) h v) ∨ (gv ops env o = some false ∧ v = skipV)) ∧ XDAL C s N ops Q σ (env.put o.dst v) h
 | (i, .P) :: σ, env, h => ∃ o, ops[i]? = some o ∧ dstB N o.dst = true ∧ ∃ v, ((gv ops env o = some true ∧ ∀ h', AOp P o (ev P env) h' fun v' h'' => v' = v ∧ h'' = h') ∨ (gv ops env o = some false ∧ v = skipV)) ∧ XDAL C s N ops Q σ (env.put o.dst v) h
 | (i, .X) :: σ, env, h => ∃ o, ops[i]? = some o ∧ dstB N o.dst = true ∧
   ((gv ops env o = some true ∧ AOp P o (ev P env) h fun v h' => Ext h h' ∧ XDAL C s N ops Q σ (env.put o.dst v) h') ∨ (gv ops env o = some false ∧ XDAL C s N ops Q σ (env.put o.dst skipV) h))
 | (i, .W) :: σ, env, h => ∃ o, ops[i]? = some o ∧ dstB N o.dst = true ∧
   ((gv ops env o = some true ∧ AOp P o (ev P env) h fun v h' => XDAL C s N ops Q σ (env.put o.dst v) h') ∨ (gv ops env o = some false ∧ XDAL C s N ops Q σ (env.put o.dst skipV) h))
section
variable {P : Program} {C : Ctx P} {ro : Option Nat} {s : Option Code} {N : Nat} {ops : Array Oper} {Q : Exit → XQ}
theorem qbL {Qc Qc' : Exit → Act → World → Prop} (hq : ∀ e a w, Qc e a w → Qc' e a w) : ∀ (fuel : Nat) (L : Array Bool) (a : Act) (w : World), wpAnyIn (Fc ro) 0 P .any ops Qc fuel L a w → wpAnyIn (Fc ro) 0 P .any ops Qc' fuel L a w
 | 0, L, a, w, p => ⟨p.1, hq _ _ _ p.2⟩
 | fuel + 1, L, a, w, p => by
  refine ⟨fun hr => hq _ _ _ (p.1 hr), fun i hi => ?_⟩
  have := p.2 i hi
  unfold wpOpIn at this ⊢
  split
  ·
   rename_i ho
   simp only [ho] at this
   exact qbL hq fuel _ a w this
  ·
   rename_i o ho
   simp only [ho] at this
   split
   ·
    rename_i hw
    rw [if_pos hw] at this
    exact ⟨this.1, qeh (qbL hq fuel _) hq _ this.2⟩
   ·
    rename_i hw
    rw [if_neg hw] at this
    exact ⟨this.1, qbL hq fuel _ _ w this.2⟩
section steps
variable {i : Nat} {σ : List (Nat × KdX)} {env : Env} {h : Heap} {d : Tmp} {op : Op} {ty : TypeId} {pos : String} {aft : Array Edge} {g : Option (Nat × Bool)}
end steps
end
section
variable {F : Fence} {n : Nat} {P : Program} {b : Frame} {a : Act} {k : List Item} {cs : List Frame} {w : World} {Q : Exit → Act → World → Prop}
end
section
variable {P : Program} {C : Ctx P} {ro : Option Nat} {N : Nat} {env : Env} {h : Heap} {s : Option Code}
@[reducible] def noGoX (Q : Exit → XQ) : Exit → XQ
 | .goto _, _, _, _ => False
 | ex, e, h, s => Q ex e h s
@[reducible] def noGoQ (Q : Exit → Env → Heap → Prop) : Exit → Env → Heap → Prop
 | .goto _, _, _ => False
 | ex, e, h => Q ex e h
theorem AWp.scope {c : Code} {Q : Exit → Env → Heap → Prop} (p : AWp P N c (noGoQ Q) env h) : AWp P N (.scope c) Q env h := by
 intro φ a w d r
 refine wp_scope_straight (wp_mono (p φ a w d r) fun ex a' w' hp => ?_)
 cases ex with
 | goto g => obtain ⟨_, _, _, k, _⟩ := hp; exact k.elim
 | _ => exact hp
end
end Go.Eng
/- . -/
namespace Go.Pln
open Go Go.Lib
abbrev Bytes := List UInt8
def digB (c : UInt8) : Bool := decide (48 ≤ c.toNat ∧ c.toNat ≤ 57)
theorem qcj {d : Nat} (h : d < 10) : (UInt8.ofNat (48 + d)).toNat = 48 + d := by
 simp
 omega
theorem qhr (u : Nat) (h : ¬ u < 10) : decDigits u = decDigits (u / 10) ++ [UInt8.ofNat (48 + u % 10)] := by
 rw [decDigits, dif_neg h]
theorem qel : ∀ u : Nat, (decDigits u).all digB = true := by
 intro u
 induction u using Nat.strongRecOn with
 | _ u ih =>
  by_cases h : u < 10
  ·
   rw [decDigits_one h]
   simp only [List.all_cons, List.all_nil, Bool.and_true]
   unfold digB
   rw [qcj h]
   exact decide_eq_true (by omega)
  ·
   rw [qhr u h, List.all_append, ih (u / 10) (by omega)]
   simp only [List.all_cons, List.all_nil, Bool.and_true, Bool.true_and]
   unfold digB
   rw [qcj (by omega)]
   exact decide_eq_true (by omega)
theorem qhF (u : Nat) : decDigits u ≠ [] := by
 intro e
 have := decDigits_length u
 rw [e] at this
 have := nDigits_pos u
 simp at *
 omega
def valOf (acc : Nat) (l : Bytes) : Nat := l.foldl (fun a c => a * 10 + (c.toNat - 48)) acc
theorem valOf_app (acc : Nat) (l : Bytes) (c : UInt8) : valOf acc (l ++ [c]) = valOf acc l * 10 + (c.toNat - 48) := by
 unfold valOf
 rw [List.foldl_append]
 rfl
theorem qd4 : ∀ u : Nat, valOf 0 (decDigits u) = u := by
 intro u
 induction u using Nat.strongRecOn with
 | _ u ih =>
  by_cases h : u < 10
  ·
   rw [decDigits_one h]
   show 0 * 10 + ((UInt8.ofNat (48 + u)).toNat - 48) = u
   rw [qcj h]
   omega
  ·
   rw [qhr u h, valOf_app, ih (u / 10) (by omega), qcj (by omega)]
   omega
theorem qhv : ∀ (l : Bytes) (acc : Nat), acc ≤ valOf acc l
 | [], acc => Nat.le_refl _
 | c :: l, acc => by
  have := qhv l (acc * 10 + (c.toNat - 48))
  show acc ≤ valOf (acc * 10 + (c.toNat - 48)) l
  omega
theorem qdu : ∀ (l : Bytes) (acc : Nat), l.all digB = true → valOf acc l < 18446744073709551616 → parseUint10 acc l = .ok (valOf acc l)
 | [], acc, _, _ => rfl
 | c :: l, acc, hd, hv => by
  simp only [List.all_cons, Bool.and_eq_true] at hd
  have h1 : 48 ≤ c.toNat ∧ c.toNat ≤ 57 := of_decide_eq_true hd.1
  have hv' : valOf (acc * 10 + (c.toNat - 48)) l < 18446744073709551616 := hv
  have hge := qhv l (acc * 10 + (c.toNat - 48))
  unfold parseUint10
  rw [if_pos h1, if_neg (by omega), if_neg (by omega)]
  exact qdu l _ hd.2 hv'
theorem qdl {u : Nat} (h : u < 18446744073709551616) : parseMag (decDigits u) = .ok u := by
 unfold parseMag
 rw [if_neg (qhF u), qdu _ 0 (qel u) (by rw [qd4]; exact h), qd4]
theorem dec_head (u : Nat) : ∃ c l, decDigits u = c :: l ∧ 48 ≤ c.toNat ∧ c.toNat ≤ 57 := by
 cases hd : decDigits u with
 | nil => exact absurd hd (qhF u)
 | cons c l =>
  have := qel u
  rw [hd] at this
  simp only [List.all_cons, Bool.and_eq_true] at this
  have h1 : 48 ≤ c.toNat ∧ c.toNat ≤ 57 := of_decide_eq_true this.1
  exact ⟨c, l, rfl, h1.1, h1.2⟩
theorem atoi_itoa {n : Int} (h0 : -9223372036854775808 ≤ n) (h1 : n ≤ 9223372036854775807) : atoiAll (itoa n) = .ok n := by
 by_cases hneg : n < 0
 ·
  obtain ⟨u, rfl⟩ : ∃ u : Nat, n = -(u : Int) := ⟨n.natAbs, by omega⟩
  rw [itoa_neg u (by omega)]
  unfold atoiAll
  have e1 : (45 : UInt8).toNat = 45 := rfl
  simp only [e1]
  rw [if_pos (by decide), qdl (by omega)]
  simp only [not_true_eq_false, false_and, if_false, true_and]
  rw [if_neg (by omega)]
  rfl
 ·
  obtain ⟨u, rfl⟩ : ∃ u : Nat, n = u := ⟨n.toNat, by omega⟩
  rw [itoa_nonneg]
  obtain ⟨c, l, hd, hc1, hc2⟩ := dec_head u
  rw [hd]
  unfold atoiAll
  simp only
  rw [if_neg (by omega), ← hd, qdl (by omega)]
  simp only
  rw [if_neg (by omega), if_neg (by omega), if_neg (by omega)]
theorem qeG {l : Bytes} {n : Int} (h : atoiAll l = .ok n) : -9223372036854775808 ≤ n ∧ n ≤ 9223372036854775807 := by
 unfold atoiAll at h
 split at h
 ·
  cases h
 ·
  rename_i c r
  simp only at h
  split at h
  ·
   cases h
  ·
   cases h
  ·
   rename_i u hu
   split at h
   ·
    cases h
   ·
    split at h
    ·
     cases h
    ·
     injection h with h
     subst h
     split <;> omega
def numP (w : Bytes) : Int := match atoiAll w with
 | .ok n => if itoa n = w then n else -1
 | _ => -1
theorem numP_itoa {n : Int} (h0 : -9223372036854775808 ≤ n) (h1 : n ≤ 9223372036854775807) : numP (itoa n) = n := by
 unfold numP
 rw [atoi_itoa h0 h1]
 simp
def numR (s : Bytes) : Int :=
 if s.length < 1 ∨ 10 < s.length then -1 else if s.all digB then (if 2147483647 < valOf 0 s ∨ itoa (valOf 0 s : Nat) ≠ s then -1 else (valOf 0 s : Nat)) else -1
theorem numR_itoa {u : Nat} (h : u ≤ 2147483647) : numR (itoa (u : Int)) = u := by
 have hl : (decDigits u).length ≤ 10 := by
  rw [decDigits_length]
  have h1 := nDigits_pos u
  rcases Nat.lt_or_ge (nDigits u) 11 with h2 | h2
  ·
   omega
  ·
   exfalso
   have key : ∀ (k u : Nat), k + 1 ≤ nDigits u → 10 ^ k ≤ u ∨ k = 0 := by
    intro k
    induction k with
    | zero => intro u _; exact .inr rfl
    | succ k ih =>
     intro u hu
     by_cases hs : u < 10
     ·
      rw [nDigits_small hs] at hu; omega
     ·
      rw [nDigits_big hs] at hu
      rcases ih (u / 10) (by omega) with h3 | h3
      ·
       left; rw [Nat.pow_succ]; omega
      ·
       subst h3; left; simpa using hs
   rcases key 10 u (by omega) with h3 | h3
   ·
    have : (10 : Nat) ^ 10 = 10000000000 := by decide
    omega
   ·
    omega
 rw [itoa_nonneg]
 unfold numR
 have hne : 1 ≤ (decDigits u).length := by
  have := qhF u
  cases hd : decDigits u with
  | nil => exact absurd hd this
  | cons c l => simp
 rw [if_neg (by omega), qel, if_pos rfl, qd4, itoa_nonneg, if_neg (by simp; omega)]
def hexC (n : Nat) : UInt8 := if n < 10 then UInt8.ofNat (48 + n) else UInt8.ofNat (55 + n)
def plainC (c : UInt8) : Bool := decide (32 < c.toNat ∧ c.toNat < 127 ∧ c.toNat ≠ 37)
def encB (c : UInt8) : Bytes := if plainC c then [c] else [37, hexC (c.toNat / 16), hexC (c.toNat % 16)]
def wordM (b : Bytes) : Bytes := if b = [] then [37] else b.flatMap encB
def digR (c : UInt8) : Nat := if 48 ≤ c.toNat ∧ c.toNat ≤ 57 then c.toNat - 48 else if 65 ≤ c.toNat ∧ c.toNat ≤ 70 then c.toNat - 55 else 16
def digP (c : UInt8) : Nat := if 48 ≤ c.toNat ∧ c.toNat ≤ 57 then c.toNat - 48 else if 65 ≤ c.toNat ∧ c.toNat ≤ 70 then c.toNat - 55 else if 97 ≤ c.toNat ∧ c.toNat ≤ 102 then c.toNat - 87 else 16
theorem qg4 : ∀ n : Fin 16, digR (hexC n.val) = n.val ∧ digP (hexC n.val) = n.val ∧ plainC (hexC n.val) = true := by decide +kernel
theorem qdP {n : Nat} (h : n < 16) : digR (hexC n) = n := (qg4 ⟨n, h⟩).1
theorem qdK {n : Nat} (h : n < 16) : digP (hexC n) = n := (qg4 ⟨n, h⟩).2.1
theorem qfV {n : Nat} (h : n < 16) : plainC (hexC n) = true := (qg4 ⟨n, h⟩).2.2
def hex2 (l : Bytes) : Nat := match l with
 | [a] => if digP a < 16 then digP a else 0
 | [a, b] => if digP a < 16 ∧ digP b < 16 then digP a * 16 + digP b else 0
 | _ => 0
def unwordP : Bytes → Bytes
 | [] => []
 | [c] => if c = 37 then [] else [c]
 | c :: d :: r => if c = 37 then UInt8.ofNat (hex2 ((d :: r).take 2)) :: unwordP ((d :: r).drop 2) else c :: unwordP (d :: r)
termination_by l => l.length
decreasing_by
 ·
  simp; omega
 ·
  simp
def unR : Bytes → Option Bytes
 | [] => some []
 | [c] => if c = 37 then none else some [c]
 | [c, d] => if c = 37 then none else (unR [d]).map (c :: ·)
 | c :: a :: b :: r => if c = 37 then (if digR a < 16 ∧ digR b < 16 then (unR r).map (UInt8.ofNat (digR a * 16 + digR b) :: ·) else none) else (unR (a :: b :: r)).map (c :: ·)
termination_by l => l.length
decreasing_by
 ·
  simp
 ·
  simp; omega
 ·
  simp
theorem qgg {c : UInt8} (h : c ≠ 37) : ∀ l : Bytes, unR (c :: l) = (unR l).map (c :: ·)
 | [] => by
  conv => lhs; rw [unR]
  rw [if_neg h, unR]
  rfl
 | [d] => by
  conv => lhs; rw [unR]
  rw [if_neg h]
 | a :: b :: r => by
  conv => lhs; rw [unR]
  rw [if_neg h]
theorem unR_pct {a b : UInt8} (h : digR a < 16 ∧ digR b < 16) (r : Bytes) : unR (37 :: a :: b :: r) = (unR r).map (UInt8.ofNat (digR a * 16 + digR b) :: ·) := by
 rw [unR, if_pos rfl, if_pos h]
theorem qco {c : UInt8} (h : plainC c = true) : encB c = [c] := by unfold encB; rw [if_pos h]
theorem qdU {c : UInt8} (h : ¬ plainC c = true) : encB c = [37, hexC (c.toNat / 16), hexC (c.toNat % 16)] := by unfold encB; rw [if_neg h]
theorem hex2_two {a b : UInt8} (h : digP a < 16 ∧ digP b < 16) : hex2 [a, b] = digP a * 16 + digP b := by
 show (if digP a < 16 ∧ digP b < 16 then digP a * 16 + digP b else 0) = _
 rw [if_pos h]
def unwordR (s : Bytes) : Option Bytes := if s = [37] then some [] else match unR s with
 | some b => if b ≠ [] ∧ wordM b = s then some b else none
 | none => none
theorem qd8 (c : UInt8) : UInt8.ofNat (c.toNat / 16 * 16 + c.toNat % 16) = c := by
 have : c.toNat / 16 * 16 + c.toNat % 16 = c.toNat := by omega
 rw [this]
 simp
theorem c_lt (c : UInt8) : c.toNat < 256 := c.toNat_lt
theorem qhe : ∀ {b : Bytes}, b ≠ [] → b.flatMap encB ≠ [] ∧ b.flatMap encB ≠ [37]
 | c :: b, _ => by
  rw [List.flatMap_cons]
  by_cases h : plainC c = true
  ·
   rw [qco h]
   refine ⟨by simp, fun e => ?_⟩
   simp at e
   have : plainC 37 = false := by decide
   rw [e.1, this] at h
   cases h
  ·
   rw [qdU h]
   simp
theorem unP_step (c : UInt8) (b : Bytes) (ih : unwordP (b.flatMap encB) = b) : unwordP (encB c ++ b.flatMap encB) = c :: b := by
 by_cases h : plainC c = true
 ·
  rw [qco h]
  have hc : c ≠ 37 := by rintro rfl; exact absurd h (by decide)
  cases hb : b.flatMap encB with
  | nil =>
   have hb2 : b = [] := by
    cases b with
    | nil => rfl
    | cons x y => exact absurd hb (qhe (by simp)).1
   subst hb2
   show unwordP [c] = [c]
   rw [unwordP, if_neg hc]
  | cons d r =>
   rw [hb] at ih
   show unwordP (c :: d :: r) = c :: b
   rw [unwordP, if_neg hc, ih]
 ·
  rw [qdU h]
  have h1 : c.toNat / 16 < 16 := by have := c_lt c; omega
  have h2 : c.toNat % 16 < 16 := by omega
  show unwordP (37 :: hexC (c.toNat / 16) :: hexC (c.toNat % 16) :: b.flatMap encB) = c :: b
  rw [unwordP, if_pos rfl]
  show UInt8.ofNat (hex2 [hexC (c.toNat / 16), hexC (c.toNat % 16)]) :: unwordP (b.flatMap encB) = c :: b
  rw [hex2_two (by rw [qdK h1, qdK h2]; exact ⟨h1, h2⟩), qdK h1, qdK h2, qd8, ih]
theorem qh0 : ∀ b : Bytes, unwordP (b.flatMap encB) = b
 | [] => by simp [unwordP]
 | c :: b => by
  rw [List.flatMap_cons]
  exact unP_step c b (qh0 b)
theorem unP_word (b : Bytes) : unwordP (wordM b) = b := by
 unfold wordM
 split
 ·
  rename_i h
  subst h
  simp [unwordP]
 ·
  exact qh0 b
theorem qff : ∀ b : Bytes, unR (b.flatMap encB) = some b
 | [] => by simp [unR]
 | c :: b => by
  rw [List.flatMap_cons]
  by_cases h : plainC c = true
  ·
   rw [qco h]
   have hc : c ≠ 37 := by rintro rfl; exact absurd h (by decide)
   show unR (c :: b.flatMap encB) = _
   rw [qgg hc, qff b]
   rfl
  ·
   rw [qdU h]
   have h1 : c.toNat / 16 < 16 := by have := c_lt c; omega
   have h2 : c.toNat % 16 < 16 := by omega
   show unR (37 :: hexC (c.toNat / 16) :: hexC (c.toNat % 16) :: b.flatMap encB) = _
   rw [unR_pct (by rw [qdP h1, qdP h2]; exact ⟨h1, h2⟩), qdP h1, qdP h2, qd8, qff b]
   rfl
theorem unR_word (b : Bytes) : unwordR (wordM b) = some b := by
 unfold unwordR
 by_cases hb : b = []
 ·
  subst hb
  rfl
 ·
  have hw : wordM b = b.flatMap encB := by unfold wordM; rw [if_neg hb]
  have hn := qhe hb
  rw [if_neg (by rw [hw]; exact hn.2), hw, qff b]
  simp only
  rw [if_pos ⟨hb, hw⟩]
def okC (c : UInt8) : Bool := decide (32 < c.toNat ∧ c.toNat < 127)
theorem qfe {c : UInt8} (h : plainC c = true) : okC c = true := by
 have : 32 < c.toNat ∧ c.toNat < 127 ∧ c.toNat ≠ 37 := of_decide_eq_true h
 exact decide_eq_true ⟨this.1, this.2.1⟩
theorem enc_ok (c : UInt8) : (encB c).all okC = true := by
 unfold encB
 split
 ·
  rename_i h
  simp [qfe h]
 ·
  have h1 : c.toNat / 16 < 16 := by have := c_lt c; omega
  have h2 : c.toNat % 16 < 16 := by omega
  simp only [List.all_cons, List.all_nil, Bool.and_true, qfe (qfV h1), qfe (qfV h2)]
  decide
theorem qgC (b : Bytes) : (wordM b).all okC = true ∧ wordM b ≠ [] := by
 unfold wordM
 split
 ·
  exact ⟨by decide, by simp⟩
 ·
  rename_i h
  refine ⟨?_, (qhe h).1⟩
  rw [List.all_flatMap]
  exact List.all_eq_true.2 fun c _ => enc_ok c
theorem dig_ok {c : UInt8} (h : digB c = true) : okC c = true := by
 have : 48 ≤ c.toNat ∧ c.toNat ≤ 57 := of_decide_eq_true h
 exact decide_eq_true (by omega)
theorem qcI (n : Int) : (itoa n).all okC = true ∧ itoa n ≠ [] := by
 unfold itoa
 split
 ·
  refine ⟨?_, by simp⟩
  simp only [List.all_cons, Bool.and_eq_true]
  exact ⟨by decide, List.all_eq_true.2 fun c hc => dig_ok (List.all_eq_true.1 (qel _) c hc)⟩
 ·
  exact ⟨List.all_eq_true.2 fun c hc => dig_ok (List.all_eq_true.1 (qel _) c hc), qhF _⟩
def joinW : List Bytes → Bytes
 | [] => []
 | [w] => w
 | w :: v :: ws => w ++ 32 :: joinW (v :: ws)
def cutS : Bytes → Bytes × Bytes
 | [] => ([], [])
 | c :: s => if c = 32 then ([], s) else (c :: (cutS s).1, (cutS s).2)
def okW (w : Bytes) : Prop := w.all okC = true ∧ w ≠ []
theorem ok_nb {c : UInt8} (h : okC c = true) : c ≠ 32 := by
 have h1 : 32 < c.toNat ∧ c.toNat < 127 := of_decide_eq_true h
 rintro rfl
 exact absurd h1.1 (by decide)
theorem cut_app : ∀ {w r : Bytes}, w.all okC = true → cutS (w ++ 32 :: r) = (w, r)
 | [], r, _ => rfl
 | c :: w, r, h => by
  simp only [List.all_cons, Bool.and_eq_true] at h
  show cutS (c :: (w ++ 32 :: r)) = _
  rw [cutS, if_neg (ok_nb h.1), cut_app h.2]
theorem cut_end : ∀ {w : Bytes}, w.all okC = true → cutS w = (w, [])
 | [], _ => rfl
 | c :: w, h => by
  simp only [List.all_cons, Bool.and_eq_true] at h
  rw [cutS, if_neg (ok_nb h.1), cut_end h.2]
theorem qb3 {w : Bytes} {ws : List Bytes} (h : w.all okC = true) : cutS (joinW (w :: ws)) = (w, joinW ws) := by
 cases ws with
 | nil => exact cut_end h
 | cons v ws => exact cut_app h
theorem join_ne {w : Bytes} {ws : List Bytes} (h : w ≠ []) : joinW (w :: ws) ≠ [] := by
 cases ws with
 | nil => exact h
 | cons v ws => simp [joinW]
structure AskM where
 kind : Int
 key : Bytes
 «to» : Bytes
 value : Bytes
 was : Bytes
 none : Bool
 most : Int
 deriving DecidableEq
structure ReqM where
 client : Int
 number : Int
 ask : AskM
 deriving DecidableEq
structure MoveM where
 number : Int
 from_ : Bytes
 «to» : Bytes
 end_ : Bool
 old : Int
 new : Int
 deriving DecidableEq
structure EntM where
 key : Bytes
 seq : Int
 kind : Int
 value : Bytes
 deriving DecidableEq
structure CmdM where
 kind : Int
 req : ReqM
 move : MoveM
 entries : List EntM
 answers : Bytes
 key : Bytes
 group : Int
 deriving DecidableEq
structure ActM where
 kind : Int
 node : Int
 group : Int
 client : Int
 n : Int
 ask : AskM
 cmd : CmdM
 keep : List (Bytes × Int)
 deriving DecidableEq
def ask0 : AskM := ⟨0, [], [], [], [], false, 0⟩
def cmd0 : CmdM := ⟨0, ⟨0, 0, ask0⟩, ⟨0, [], [], false, 0, 0⟩, [], [], [], 0⟩
def act0 : ActM := ⟨0, 0, 0, 0, 0, ask0, cmd0, []⟩
def nameOk (s : Bytes) : Bool := decide (1 ≤ s.length ∧ s.length ≤ 32) && s.all fun c => decide (33 ≤ c.toNat ∧ c.toNat ≤ 126)
def keepOk : List (Bytes × Int) → Bool
 | [] => true
 | x :: l => nameOk x.1 && decide (0 ≤ x.2 ∧ x.2 ≤ 2147483647) && !(l.any fun y => y.1 == x.1) && keepOk l
def mayAsk (a : AskM) : Bool :=
 if a.kind = 1 ∨ a.kind = 3 then decide (1 ≤ a.key.length ∧ a.key.length ≤ 24 ∧ a.to = [] ∧ a.was = [] ∧ a.none = false ∧ a.most = 0 ∧ a.value = [])
 else if a.kind = 2 then decide (1 ≤ a.key.length ∧ a.key.length ≤ 24 ∧ a.to = [] ∧ a.was = [] ∧ a.none = false ∧ a.most = 0 ∧ a.value.length ≤ 40)
 else if a.kind = 4 then decide (1 ≤ a.key.length ∧ a.key.length ≤ 24 ∧ a.value.length ≤ 40 ∧ a.was.length ≤ 40 ∧ ¬ (a.none = true ∧ 0 < a.was.length) ∧ a.to = [] ∧ a.most = 0)
 else if a.kind = 5 then decide (a.key.length ≤ 24 ∧ a.to.length ≤ 24 ∧ 1 ≤ a.most ∧ a.most ≤ 32 ∧ a.value = [] ∧ a.was = [] ∧ a.none = false)
 else false
def mayPlan (c : CmdM) : Bool :=
 if c.kind = 6 ∨ c.kind = 7 then decide (1 ≤ c.key.length ∧ c.key.length ≤ 24 ∧ c = { cmd0 with kind := c.kind, key := c.key })
 else if c.kind = 8 then decide (c.key.length ≤ 24 ∧ 1 ≤ c.group ∧ c.group < 5 ∧ c = { cmd0 with kind := c.kind, key := c.key, group := c.group })
 else false
def mayAct (nodes groups : Int) (a : ActM) : Bool :=
 if a.kind = 1 ∨ a.kind = 2 ∨ a.kind = 6 ∨ a.kind = 7 then decide (0 ≤ a.node ∧ a.node < nodes ∧ 0 ≤ a.group ∧ a.group < groups ∧ a = { act0 with kind := a.kind, node := a.node, group := a.group })
 else if a.kind = 3 ∨ a.kind = 4 ∨ a.kind = 5 then decide (0 ≤ a.n ∧ a.n ≤ 2147483647 ∧ a = { act0 with kind := a.kind, n := a.n })
 else if a.kind = 8 ∨ a.kind = 13 then decide (0 ≤ a.node ∧ a.node < nodes ∧ a = { act0 with kind := a.kind, node := a.node })
 else if a.kind = 9 then decide (0 ≤ a.node ∧ a.node < nodes ∧ mayPlan a.cmd = true ∧ a = { act0 with kind := a.kind, node := a.node, cmd := a.cmd })
 else if a.kind = 10 then decide (1 ≤ a.client ∧ a.client ≤ 4 ∧ 0 ≤ a.node ∧ a.node < nodes ∧ 0 ≤ a.group ∧ a.group < groups ∧ mayAsk a.ask = true ∧ a = { act0 with kind := a.kind, client := a.client, node := a.node, group := a.group, ask := a.ask })
 else if a.kind = 11 then decide (1 ≤ a.client ∧ a.client ≤ 4 ∧ 0 ≤ a.node ∧ a.node < nodes ∧ 0 ≤ a.group ∧ a.group < groups ∧ a = { act0 with kind := a.kind, client := a.client, node := a.node, group := a.group })
 else if a.kind = 12 then decide (0 ≤ a.node ∧ a.node < nodes ∧ a.keep.length ≤ 128 ∧ keepOk a.keep = true ∧ a = { act0 with kind := a.kind, node := a.node, keep := a.keep })
 else false
def kwords : List Bytes := ["timer", "beat", "hear", "drop", "double", "apply", "work", "drive", "plan", "ask", "again", "crash", "start"].map fun s => s.toUTF8.toList
def kword (k : Int) : Bytes := (kwords[(k - 1).toNat]?).getD []
def wGet : Bytes := [103, 101, 116]
def wDelete : Bytes := [100, 101, 108, 101, 116, 101]
def wPut : Bytes := [112, 117, 116]
def wScan : Bytes := [115, 99, 97, 110]
def wFresh : Bytes := [102, 114, 101, 115, 104]
def wSwap : Bytes := [115, 119, 97, 112]
def wSplit : Bytes := [115, 112, 108, 105, 116]
def wUnion : Bytes := [117, 110, 105, 111, 110]
def wMove : Bytes := [109, 111, 118, 101]
def askW (a : AskM) : List Bytes :=
 if a.kind = 1 then [wGet, wordM a.key] else if a.kind = 3 then [wDelete, wordM a.key] else if a.kind = 2 then [wPut, wordM a.key, wordM a.value]
 else if a.kind = 5 then [wScan, wordM a.key, wordM a.to, itoa a.most] else if a.none then [wFresh, wordM a.key, wordM a.value] else [wSwap, wordM a.key, wordM a.value, wordM a.was]
def planW (c : CmdM) : List Bytes := if c.kind = 6 then [wSplit, wordM c.key] else if c.kind = 7 then [wUnion, wordM c.key] else [wMove, wordM c.key, itoa c.group]
def keepW (l : List (Bytes × Int)) : List Bytes := l.flatMap fun x => [x.1, itoa x.2]
def restW (a : ActM) : List Bytes :=
 if a.kind = 3 ∨ a.kind = 4 ∨ a.kind = 5 then [itoa a.n]
 else if a.kind = 8 ∨ a.kind = 13 then [itoa a.node]
 else if a.kind = 9 then itoa a.node :: planW a.cmd
 else if a.kind = 10 then itoa a.client :: itoa a.node :: itoa a.group :: askW a.ask
 else if a.kind = 11 then [itoa a.client, itoa a.node, itoa a.group]
 else if a.kind = 12 then itoa a.node :: keepW a.keep
 else [itoa a.node, itoa a.group]
def lineM (a : ActM) : Bytes := joinW (kword a.kind :: restW a)
def numS (s : Bytes) : Int × Bytes := (numP (cutS s).1, (cutS s).2)
def rawS (s : Bytes) : Bytes × Bytes := (unwordP (cutS s).1, (cutS s).2)
def keepS : Nat → Bytes → List (Bytes × Int)
 | 0, _ => []
 | f + 1, s => if s = [] then [] else ((cutS s).1, (numS (cutS s).2).1) :: keepS f (numS (cutS s).2).2
def planT (w r : Bytes) : CmdM :=
 if w = wSplit then { cmd0 with kind := 6, key := (rawS r).1 } else if w = wUnion then { cmd0 with kind := 7, key := (rawS r).1 }
 else if w = wMove then { cmd0 with kind := 8, key := (rawS r).1, group := (numS (rawS r).2).1 } else cmd0
def planS (s : Bytes) : CmdM := planT (cutS s).1 (cutS s).2
def askT (w r : Bytes) : AskM :=
 if w = wGet then { ask0 with kind := 1, key := (rawS r).1 } else if w = wDelete then { ask0 with kind := 3, key := (rawS r).1 }
 else if w = wPut then { ask0 with kind := 2, key := (rawS r).1, value := (rawS (rawS r).2).1 }
 else if w = wSwap then { ask0 with kind := 4, key := (rawS r).1, value := (rawS (rawS r).2).1, was := (rawS (rawS (rawS r).2).2).1 }
 else if w = wFresh then { ask0 with kind := 4, key := (rawS r).1, value := (rawS (rawS r).2).1, none := true }
 else if w = wScan then { ask0 with kind := 5, key := (rawS r).1, «to» := (rawS (rawS r).2).1, most := (numS (rawS (rawS r).2).2).1 } else ask0
def askS (s : Bytes) : AskM := askT (cutS s).1 (cutS s).2
def readS (k : Int) (s : Bytes) : ActM :=
 if k = 3 ∨ k = 4 ∨ k = 5 then { act0 with kind := k, n := (numS s).1 }
 else
  let c := if k = 10 ∨ k = 11 then numS s else (0, s)
  let n := numS c.2
  let a : ActM := { act0 with kind := k, client := c.1, node := n.1 }
  if k = 9 then { a with cmd := planS n.2 }
  else if k = 12 then { a with keep := keepS 129 n.2 }
  else if k = 8 ∨ k = 13 then a
  else if k = 10 then { a with group := (numS n.2).1, ask := askS (numS n.2).2 }
  else { a with group := (numS n.2).1 }
theorem qa0 {n : Int} (h0 : 0 ≤ n) (h1 : n ≤ 2147483647) (ws : List Bytes) : numS (joinW (itoa n :: ws)) = (n, joinW ws) := by
 unfold numS
 rw [qb3 (qcI n).1, numP_itoa (by omega) (by omega)]
theorem qbh (b : Bytes) (ws : List Bytes) : rawS (joinW (wordM b :: ws)) = (b, joinW ws) := by
 unfold rawS
 rw [qb3 (qgC b).1, unP_word]
theorem name_ok {s : Bytes} (h : nameOk s = true) : s.all okC = true ∧ s ≠ [] := by
 unfold nameOk at h
 simp only [Bool.and_eq_true, decide_eq_true_iff] at h
 refine ⟨List.all_eq_true.2 fun c hc => ?_, by rintro rfl; simp at h⟩
 have : 33 ≤ c.toNat ∧ c.toNat ≤ 126 := of_decide_eq_true (List.all_eq_true.1 h.2 c hc)
 exact decide_eq_true (by omega)
theorem qe3 : ∀ (f : Nat) (l : List (Bytes × Int)), l.length ≤ f → keepOk l = true → keepS f (joinW (keepW l)) = l
 | 0, [], _, _ => rfl
 | f + 1, [], _, _ => by simp [keepW, joinW, keepS]
 | f + 1, x :: l, hl, hk => by
  simp only [keepOk, Bool.and_eq_true, decide_eq_true_iff] at hk
  obtain ⟨⟨⟨h1, h2⟩, _⟩, h4⟩ := hk
  have hn := name_ok h1
  show keepS (f + 1) (joinW (x.1 :: itoa x.2 :: keepW l)) = _
  have hne : joinW (x.1 :: itoa x.2 :: keepW l) ≠ [] := join_ne hn.2
  rw [keepS, if_neg hne, qb3 hn.1]
  simp only
  rw [qa0 h2.1 h2.2]
  simp only
  rw [qe3 f l (by simp at hl; omega) h4]
theorem qc9 {w : Bytes} (h : w.all okC = true) (ws : List Bytes) : planS (joinW (w :: ws)) = planT w (joinW ws) := by unfold planS; rw [qb3 h]
theorem qb7 {w : Bytes} (h : w.all okC = true) (ws : List Bytes) : askS (joinW (w :: ws)) = askT w (joinW ws) := by unfold askS; rw [qb3 h]
theorem planS_join {c : CmdM} (h : mayPlan c = true) : planS (joinW (planW c)) = c := by
 unfold mayPlan at h
 split at h
 ·
  rename_i hk
  obtain ⟨_, _, hc⟩ := of_decide_eq_true h
  rcases hk with hk | hk
  ·
   have e : planW c = [wSplit, wordM c.key] := by unfold planW; rw [if_pos hk]
   rw [e]
   rw [qc9 (by decide)]
   unfold planT
   rw [if_pos rfl]
   simp only
   rw [qbh]
   rw [hk] at hc
   exact hc.symm
  ·
   have e : planW c = [wUnion, wordM c.key] := by unfold planW; rw [if_neg (by omega), if_pos hk]
   rw [e]
   rw [qc9 (by decide)]
   unfold planT
   rw [if_neg (by decide), if_pos rfl]
   simp only
   rw [qbh]
   rw [hk] at hc
   exact hc.symm
 ·
  split at h
  ·
   rename_i hk
   obtain ⟨_, h1, h2, hc⟩ := of_decide_eq_true h
   have e : planW c = [wMove, wordM c.key, itoa c.group] := by unfold planW; rw [if_neg (by omega), if_neg (by omega)]
   rw [e]
   rw [qc9 (by decide)]
   unfold planT
   rw [if_neg (by decide), if_neg (by decide), if_pos rfl]
   simp only
   rw [qbh]
   simp only
   rw [qa0 (by omega) (by omega)]
   rw [hk] at hc
   exact hc.symm
  ·
   cases h
theorem askS_join {a : AskM} (h : mayAsk a = true) : askS (joinW (askW a)) = a := by
 obtain ⟨kind, key, «to», value, was, none, most⟩ := a
 unfold mayAsk at h
 simp only at h
 split at h
 ·
  rename_i hk
  obtain ⟨_, _, rfl, rfl, rfl, rfl, rfl⟩ := of_decide_eq_true h
  rcases hk with rfl | rfl
  ·
   show askS (joinW [wGet, wordM key]) = _
   rw [qb7 (by decide)]
   unfold askT
   rw [if_pos rfl]
   simp only
   rw [qbh]
   rfl
  ·
   show askS (joinW [wDelete, wordM key]) = _
   rw [qb7 (by decide)]
   unfold askT
   rw [if_neg (by decide), if_pos rfl]
   simp only
   rw [qbh]
   rfl
 ·
  split at h
  ·
   rename_i hk
   subst hk
   obtain ⟨_, _, rfl, rfl, rfl, rfl, _⟩ := of_decide_eq_true h
   show askS (joinW [wPut, wordM key, wordM value]) = _
   rw [qb7 (by decide)]
   unfold askT
   rw [if_neg (by decide), if_neg (by decide), if_pos rfl]
   simp only
   rw [qbh]
   simp only
   rw [qbh]
   rfl
  ·
   split at h
   ·
    rename_i hk
    subst hk
    obtain ⟨_, _, _, _, hnw, rfl, rfl⟩ := of_decide_eq_true h
    cases none with
    | true =>
     obtain rfl : was = [] := by
      cases was with
      | nil => rfl
      | cons x y => exact absurd ⟨rfl, by simp⟩ hnw
     show askS (joinW [wFresh, wordM key, wordM value]) = _
     rw [qb7 (by decide)]
     unfold askT
     rw [if_neg (by decide), if_neg (by decide), if_neg (by decide), if_neg (by decide), if_pos rfl]
     simp only
     rw [qbh]
     simp only
     rw [qbh]
     rfl
    | false =>
     show askS (joinW [wSwap, wordM key, wordM value, wordM was]) = _
     rw [qb7 (by decide)]
     unfold askT
     rw [if_neg (by decide), if_neg (by decide), if_neg (by decide), if_pos rfl]
     simp only
     rw [qbh]
     simp only
     rw [qbh]
     simp only
     rw [qbh]
     rfl
   ·
    split at h
    ·
     rename_i hk
     subst hk
     obtain ⟨_, _, h1, h2, rfl, rfl, rfl⟩ := of_decide_eq_true h
     show askS (joinW [wScan, wordM key, wordM «to», itoa most]) = _
     rw [qb7 (by decide)]
     unfold askT
     rw [if_neg (by decide), if_neg (by decide), if_neg (by decide), if_neg (by decide), if_neg (by decide), if_pos rfl]
     simp only
     rw [qbh]
     simp only
     rw [qbh]
     simp only
     rw [qa0 (by omega) (by omega)]
     rfl
    ·
     cases h
set_option maxRecDepth 2000 in
/-- The program's reader reads what is written. -/
theorem readS_line {nodes groups : Int} (hn : nodes ≤ 2147483648) (hg : groups ≤ 2147483648) {a : ActM} (h : mayAct nodes groups a = true) : readS a.kind (joinW (restW a)) = a := by
 obtain ⟨kind, node, group, client, n, ask, cmd, keep⟩ := a
 unfold mayAct at h
 simp only at h
 split at h
 ·
  rename_i hk
  obtain ⟨h1, h2, h3, h4, e⟩ := of_decide_eq_true h
  have hr : restW ⟨kind, node, group, client, n, ask, cmd, keep⟩ = [itoa node, itoa group] := by
   unfold restW
   simp only
   rw [if_neg (by omega), if_neg (by omega), if_neg (by omega), if_neg (by omega), if_neg (by omega), if_neg (by omega)]
  rw [hr]
  unfold readS
  simp only
  rw [if_neg (by omega), if_neg (by omega), if_neg (by omega), if_neg (by omega), if_neg (by omega), if_neg (by omega)]
  simp only
  rw [qa0 (by omega) (by omega)]
  simp only
  rw [qa0 (by omega) (by omega)]
  exact e.symm
 split at h
 ·
  rename_i hk
  obtain ⟨h1, h2, e⟩ := of_decide_eq_true h
  have hr : restW ⟨kind, node, group, client, n, ask, cmd, keep⟩ = [itoa n] := by
   unfold restW
   simp only
   rw [if_pos hk]
  rw [hr]
  unfold readS
  simp only
  rw [if_pos hk, qa0 h1 h2]
  exact e.symm
 split at h
 ·
  rename_i hk
  obtain ⟨h1, h2, e⟩ := of_decide_eq_true h
  have hr : restW ⟨kind, node, group, client, n, ask, cmd, keep⟩ = [itoa node] := by
   unfold restW
   simp only
   rw [if_neg (by omega), if_pos hk]
  rw [hr]
  unfold readS
  simp only
  rw [if_neg (show ¬ (kind = 3 ∨ kind = 4 ∨ kind = 5) by omega), if_neg (show ¬ (kind = 10 ∨ kind = 11) by omega), if_neg (show ¬ kind = 9 by omega), if_neg (show ¬ kind = 12 by omega), if_pos hk]
  simp only
  rw [qa0 (by omega) (by omega)]
  exact e.symm
 split at h
 ·
  rename_i hk
  obtain ⟨h1, h2, h3, e⟩ := of_decide_eq_true h
  have hr : restW ⟨kind, node, group, client, n, ask, cmd, keep⟩ = itoa node :: planW cmd := by
   unfold restW
   simp only
   rw [if_neg (by omega), if_neg (by omega), if_pos hk]
  rw [hr]
  unfold readS
  simp only
  rw [if_neg (show ¬ (kind = 3 ∨ kind = 4 ∨ kind = 5) by omega), if_neg (show ¬ (kind = 10 ∨ kind = 11) by omega), if_pos hk]
  simp only
  rw [qa0 (by omega) (by omega)]
  simp only
  rw [planS_join h3]
  exact e.symm
 split at h
 ·
  rename_i hk
  obtain ⟨h1, h2, h3, h4, h5, h6, h7, e⟩ := of_decide_eq_true h
  have hr : restW ⟨kind, node, group, client, n, ask, cmd, keep⟩ = itoa client :: itoa node :: itoa group :: askW ask := by
   unfold restW
   simp only
   rw [if_neg (by omega), if_neg (by omega), if_neg (by omega), if_pos hk]
  rw [hr]
  unfold readS
  simp only
  rw [if_neg (by omega), if_pos (by omega : kind = 10 ∨ kind = 11), if_neg (by omega), if_neg (by omega), if_neg (by omega), if_pos hk]
  rw [qa0 (by omega) (by omega)]
  simp only
  rw [qa0 (by omega) (by omega)]
  simp only
  rw [qa0 (by omega) (by omega)]
  simp only
  rw [askS_join h7]
  exact e.symm
 split at h
 ·
  rename_i hk
  obtain ⟨h1, h2, h3, h4, h5, h6, e⟩ := of_decide_eq_true h
  have hr : restW ⟨kind, node, group, client, n, ask, cmd, keep⟩ = [itoa client, itoa node, itoa group] := by
   unfold restW
   simp only
   rw [if_neg (by omega), if_neg (by omega), if_neg (by omega), if_neg (by omega), if_pos hk]
  rw [hr]
  unfold readS
  simp only
  rw [if_neg (by omega), if_pos (by omega : kind = 10 ∨ kind = 11), if_neg (by omega), if_neg (by omega), if_neg (by omega), if_neg (by omega)]
  rw [qa0 (by omega) (by omega)]
  simp only
  rw [qa0 (by omega) (by omega)]
  simp only
  rw [qa0 (by omega) (by omega)]
  exact e.symm
 split at h
 ·
  rename_i hk
  obtain ⟨h1, h2, h3, h4, e⟩ := of_decide_eq_true h
  have hr : restW ⟨kind, node, group, client, n, ask, cmd, keep⟩ = itoa node :: keepW keep := by
   unfold restW
   simp only
   rw [if_neg (by omega), if_neg (by omega), if_neg (by omega), if_neg (by omega), if_neg (by omega), if_pos hk]
  rw [hr]
  unfold readS
  simp only
  rw [if_neg (show ¬ (kind = 3 ∨ kind = 4 ∨ kind = 5) by omega), if_neg (show ¬ (kind = 10 ∨ kind = 11) by omega), if_neg (show ¬ kind = 9 by omega), if_pos hk]
  simp only
  rw [qa0 (by omega) (by omega)]
  simp only
  rw [qe3 129 keep (by omega) h4]
  exact e.symm
 ·
  cases h
def wordsS : Bytes → List Bytes
 | [] => [[]]
 | c :: s => if c = 32 then [] :: wordsS s else match wordsS s with
  | w :: ws => (c :: w) :: ws
  | [] => [[c]]
theorem qgu : ∀ {w : Bytes}, w.all okC = true → wordsS w = [w]
 | [], _ => rfl
 | c :: w, h => by
  simp only [List.all_cons, Bool.and_eq_true] at h
  rw [wordsS, if_neg (ok_nb h.1), qgu h.2]
theorem qf2 : ∀ {w : Bytes} (r : Bytes), w.all okC = true → wordsS (w ++ 32 :: r) = w :: wordsS r
 | [], r, _ => by
  show wordsS (32 :: r) = _
  rw [wordsS, if_pos rfl]
 | c :: w, r, h => by
  simp only [List.all_cons, Bool.and_eq_true] at h
  show wordsS (c :: (w ++ 32 :: r)) = _
  rw [wordsS, if_neg (ok_nb h.1), qf2 r h.2]
theorem qcv : ∀ {ws : List Bytes}, ws ≠ [] → (∀ w ∈ ws, w.all okC = true) → wordsS (joinW ws) = ws
 | [w], _, h => qgu (h w (by simp))
 | w :: v :: ws, _, h => by
  show wordsS (w ++ 32 :: joinW (v :: ws)) = _
  rw [qf2 _ (h w (by simp)), qcv (by simp) fun x hx => h x (List.mem_cons_of_mem _ hx)]
def numI (w : List Bytes) (i : Nat) : Int := match w[i]? with
 | some x => numR x
 | none => -1
def wordI (w : List Bytes) (i : Nat) : Option Bytes := match w[i]? with
 | some x => unwordR x
 | none => none
def keepI : Nat → List Bytes → List (Bytes × Int)
 | f + 1, x :: y :: w => (x, numR y) :: keepI f w
 | _, _ => []
def planI (w : List Bytes) : CmdM × Bool :=
 if w.length < 4 then (cmd0, false) else
  let k := wordI w 3
  let c := { cmd0 with key := k.getD [] }
  let x := (w[2]?).getD []
  (if x = wSplit then { c with kind := 6 } else if x = wUnion then { c with kind := 7 } else if x = wMove then { c with kind := 8, group := numI w 4 } else c, k.isSome)
def askI (w : List Bytes) (i : Nat) : AskM × Bool :=
 if w.length ≤ i then (ask0, false) else
  let k := wordI w (i + 1)
  let a := { ask0 with key := k.getD [] }
  let x := (w[i]?).getD []
  if x = wGet then ({ a with kind := 1 }, k.isSome)
  else if x = wDelete then ({ a with kind := 3 }, k.isSome)
  else if x = wPut ∨ x = wFresh ∨ x = wSwap then
   let v := wordI w (i + 2)
   let a2 := { a with kind := if x = wPut then 2 else 4, none := decide (x = wFresh), value := v.getD [] }
   if x = wSwap then ({ a2 with was := (wordI w (i + 3)).getD [] }, k.isSome && v.isSome && (wordI w (i + 3)).isSome) else (a2, k.isSome && v.isSome)
  else if x = wScan then
   let t := wordI w (i + 2)
   ({ a with kind := 5, «to» := t.getD [], most := numI w (i + 3) }, k.isSome && t.isSome)
  else (a, k.isSome)
def readI (k : Int) (w : List Bytes) : ActM × Bool :=
 let a := { act0 with kind := k }
 if k = 3 ∨ k = 4 ∨ k = 5 then ({ a with n := numI w 1 }, true)
 else if k = 9 then ({ a with node := numI w 1, cmd := (planI w).1 }, (planI w).2)
 else if k = 10 then ({ a with client := numI w 1, node := numI w 2, group := numI w 3, ask := (askI w 4).1 }, (askI w 4).2)
 else if k = 11 then ({ a with client := numI w 1, node := numI w 2, group := numI w 3 }, true)
 else if k = 12 then ({ a with node := numI w 1, keep := keepI 129 (w.drop 2) }, true)
 else if k = 8 ∨ k = 13 then ({ a with node := numI w 1 }, true)
 else ({ a with node := numI w 1, group := numI w 2 }, decide (0 < k))
theorem qe5 {n : Int} (h0 : 0 ≤ n) (h1 : n ≤ 2147483647) : numR (itoa n) = n := by
 obtain ⟨u, rfl⟩ : ∃ u : Nat, n = u := ⟨n.toNat, by omega⟩
 exact numR_itoa (by omega)
theorem qen : ∀ (f : Nat) (l : List (Bytes × Int)), l.length ≤ f → keepOk l = true → keepI f (keepW l) = l
 | 0, [], _, _ => rfl
 | f + 1, [], _, _ => rfl
 | f + 1, x :: l, hl, hk => by
  simp only [keepOk, Bool.and_eq_true, decide_eq_true_iff] at hk
  obtain ⟨⟨⟨h1, h2⟩, _⟩, h4⟩ := hk
  show (x.1, numR (itoa x.2)) :: keepI f (keepW l) = _
  rw [qe5 h2.1 h2.2, qen f l (by simp at hl; omega) h4]
end Go.Pln
