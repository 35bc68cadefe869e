/-
  The engine, part Q: arrays by value, a slice against nil, results of two kinds.
-/
import Derived.Test.YtdfehmmhlplhlaaEngP
namespace Go.Eng
open Go

variable {P : Program} {ρ : Operand → Value} {h : Heap} {K : Value → Heap → Prop} {dst : Option Tmp} {ty : TypeId} {pos : String} {aft : Array Edge} {g : Option (Nat × Bool)}

/-- Two arrays of whole numbers. -/
theorem run_part_int {e : TypeId} {k : IntKind} [te : TyD P e (.int k)] (w : World) (cs : Array Value) (o : Nat) (v : Value) (hv : cs[o]? = some v) : (part e cs o).run P w = .ok v w := by
  simp [part, te.isAgg, aggB, hv]
theorem run_equalIn_int' {e : TypeId} {k : IntKind} [te : TyD P e (.int k)] (w : World) (d : Nat) (a b : Int) : (Op.equalIn (d + 1) e (.int k a) (.int k b)).run P w = .ok (decide (a = b)) w := by
  simp [Op.equalIn, te.run]
  by_cases h : a = b <;> simp [h]
theorem run_eqRowIn {t e : TypeId} {k : IntKind} {by_ : Nat} {z : Value} {n : Nat} [td : TyD P t (.array n e)] [te : TyD P e (.int k)] [ti : TyI P e 1 by_ z] (w : World) (d : Nat) (hd : ∀ a b, (Op.equalIn d e (.int k a) (.int k b)).run P w = .ok (decide (a = b)) w) (xs ys : List Int) (hx : xs.length = n) (hy : ys.length = n) :
    (Op.equalIn (d + 1) t (.agg (iv k xs).toArray) (.agg (iv k ys).toArray)).run P w = .ok (decide (xs = ys)) w := by
  simp only [Op.equalIn, Sem.run_bind, td.run, Result.andThen_ok, ti.size]
  rw [Std.Legacy.Range.forIn_eq_forIn_range']
  have key : ∀ m s, s + m = n → (xs.take s = ys.take s) →
      ((forIn (List.range' s m 1) ((none, ()) : Option Bool × Unit) fun i _ => do
        let a ← part e (iv k xs).toArray (i * 1)
        let b ← part e (iv k ys).toArray (i * 1)
        let r ← Op.equalIn d e a b
        if (!r) = true then pure (ForInStep.done (some false, ())) else pure (ForInStep.yield (none, ()))) : Sem _).run P w = .ok (if xs = ys then none else some false, ()) w := by
    intro m
    induction m with
    | zero =>
      intro s hs ht
      have : xs = ys := by
        rw [List.take_of_length_le (by omega), List.take_of_length_le (by omega)] at ht
        exact ht
      simp [this]
    | succ m ih =>
      intro s hs ht
      have hxs : xs[s]? = some xs[s] := List.getElem?_eq_getElem (by omega)
      have hys : ys[s]? = some ys[s] := List.getElem?_eq_getElem (by omega)
      have p1 := run_part_int (P := P) (e := e) w (iv k xs).toArray (s * 1) (.int k xs[s]) (by simp [iv, hxs])
      have p2 := run_part_int (P := P) (e := e) w (iv k ys).toArray (s * 1) (.int k ys[s]) (by simp [iv, hys])
      simp only [List.range'_succ, List.forIn_cons, Sem.run_bind, p1, p2, Result.andThen_ok, hd]
      by_cases he : xs[s] = ys[s]
      · simp only [he, decide_true, Bool.not_true, Bool.false_eq_true, if_false, Sem.run_pure, Result.andThen_ok]
        exact ih (s + 1) (by omega) (by rw [List.take_add_one, List.take_add_one, ht, hxs, hys, he])
      · have hne : ¬ xs = ys := by
          intro e
          subst e
          exact he rfl
        simp [he, hne]
  have h1 := key n 0 (by omega) rfl
  simp only [Std.Legacy.Range.size, Nat.sub_zero, Nat.add_one_sub_one, Nat.div_one]
  rw [h1]
  by_cases he : xs = ys <;> simp [he]
theorem run_eqRow {t e : TypeId} {k : IntKind} {by_ : Nat} {z : Value} {n : Nat} [td : TyD P t (.array n e)] [te : TyD P e (.int k)] [ti : TyI P e 1 by_ z] (w : World) (xs ys : List Int) (hx : xs.length = n) (hy : ys.length = n) :
    (Op.equal t (.agg (iv k xs).toArray) (.agg (iv k ys).toArray)).run P w = .ok (decide (xs = ys)) w :=
  run_eqRowIn (P := P) w 9999 (fun a b => run_equalIn_int' (P := P) w 9998 a b) xs ys hx hy
theorem op_eqRow {t t' e : TypeId} {x y : Operand} {k : IntKind} {by_ : Nat} {z : Value} {n : Nat} (xs ys : List Int) [td : TyD P t (.array n e)] [te : TyD P e (.int k)] [ti : TyI P e 1 by_ z] (hg : P.eqGuardType P.depth t = false)
    (hx : ρ x = .agg (iv k xs).toArray) (hy : ρ y = .agg (iv k ys).toArray) (h1 : xs.length = n) (h2 : ys.length = n) (kk : K (.bool (decide (xs = ys))) h) : AOp P ⟨dst, .binOp .eql t x y t', ty, pos, aft, g⟩ ρ h K :=
  .of_pure kk fun φ ac w r => by
    have hone : ∀ (zs : List Int) (c : Value), VRel φ h.next (.agg (iv k zs).toArray) c → c = .agg (iv k zs).toArray := by
      intro zs c hc
      obtain ⟨cs, e1, hs, hr⟩ := hc.agg_inv
      rw [e1]
      congr 1
      apply Array.ext
      · exact hs.symm
      · intro i hi1 hi2
        have hv := hr i _ _ (Array.getElem?_eq_getElem hi2) (Array.getElem?_eq_getElem hi1)
        have : (iv k zs).toArray[i] = .int k (zs[i]'(by simpa [iv] using hi2)) := by simp [iv]
        rw [this] at hv ⊢
        exact hv.int_inv
    have e1 := hone xs _ (hx ▸ r.ev x (by simp [Op.operands]))
    have e2 := hone ys _ (hy ▸ r.ev y (by simp [Op.operands]))
    refine ⟨_, ?_, .bool _⟩
    have hgd : (eqGuard .eql t x y (.agg (iv k xs).toArray) (.agg (iv k ys).toArray)).run P w = .ok () w := by
      simp [eqGuard, hg]
    simp [execOp, e1, e2, hgd, binOp, run_eqRow (P := P) (k := k) w xs ys h1 h2]
/-- A slice against nil. -/
theorem op_eqNil {t t' e : TypeId} {x : Operand} {y : Operand} {a : Option Addr} {n c : Nat} [td : TyD P t (.slice e)] (hx : ρ x = .slice a n c) (hy : ρ y = .slice none 0 0) (kk : K (.bool a.isNone) h) : AOp P ⟨dst, .binOp .eql t x y t', ty, pos, aft, g⟩ ρ h K :=
  .of_pure kk fun φ ac w r => by
    have hv := hx ▸ r.ev x (by simp [Op.operands])
    have h2 := hy ▸ r.ev y (by simp [Op.operands])
    obtain ⟨_, _, e2⟩ := h2.nilSlice_inv
    have he : ∃ a' n' c', ac.eval x = .slice a' n' c' ∧ a'.isNone = a.isNone := by
      cases a with
      | none => obtain ⟨e1, e2, e3⟩ := hv.nilSlice_inv; exact ⟨none, _, _, e3, rfl⟩
      | some a =>
        obtain ⟨i, o, s⟩ := a
        obtain ⟨cap', a', e1, _⟩ := hv.slice_inv
        exact ⟨some a', _, _, e1, rfl⟩
    obtain ⟨a', n', c', e1, e3⟩ := he
    refine ⟨.bool a.isNone, ?_, .bool _⟩
    simp [execOp, e1, e2, eqGuard, binOp, run_equal_slice_nil (P := P) w t e a' n' c' td.eq, e3]
/-- An array's zero, as a literal. -/
theorem op_buildZ {t e sz by_ n : Nat} {z : Value} [td : TyD P t (.array n e)] [ti : TyI P t sz by_ z] {vs : List Value} {es eb : Nat} {ez : Value} [te : TyI P e es eb ez] (hz : z = .agg vs.toArray) (kk : K (.agg vs.toArray) h) : AOp P ⟨dst, .build t #[], ty, pos, aft, g⟩ ρ h K :=
  .of_pure kk fun φ ac w r => by
    have hv := VRels.scalars (φ := φ) (n := h.next) ti.plain
    subst hz
    refine ⟨.agg vs.toArray, ?_, .agg _ _ rfl (fun k x y hx hy => ?_)⟩
    · have hrun : (Instr.build t (#[] : Array (Nat × Value))).run P w = .ok (.agg vs.toArray) w := by
        simp [Instr.build, ti.zero, td.run, te.size, Instr.fill, Value.cells]
      simp [execOp, hrun]
    · obtain ⟨c, hc, hr⟩ := hv.get (j := k) (x := x) (by simpa [Value.cells] using hx)
      have : y = c := by
        simp [Value.cells] at hc hy
        simpa [hc] using hy.symm
      exact this ▸ hr
/-- Results: one in memory, one in a slot. -/
theorem ResV.cell2 {fn : Func} {env : Env} {a u : Tmp} {t : TypeId} {i o sz by_ : Nat} {z : Value} {s : Option Nat} {b : Blk} {d : TypeDesc} [td : TyD P t d] [ti : TyI P t sz by_ z] (hr : fn.results = #[.cell a t, .tmp u]) (hx : env.get a = .pointer (some ⟨i, o, s⟩)) (ha : aggB d = true)
    (hi : h.get i = some b) (hl : o + sz ≤ b.cells.length) : ResV P fn env h (.tuple #[.agg ((b.cells.drop o).take sz).toArray, env.get u]) := by
  intro N φ tmps w r
  obtain ⟨v, h1, h2⟩ := load_run (P := P) (t := t) r.sim (hx ▸ r.env a) ha hi hl
  refine ⟨.tuple #[v, tmps.getD u undef], ?_, .tuple2 h2 (r.env u)⟩
  have h3 : (results fn tmps).run P w = (do let x ← loadVar t (← asAddr (tmps.getD a undef)); pure (.tuple #[x, tmps.getD u undef]) : Sem Value).run P w := by
    simp only [results, hr]
    simp only [List.mapM_toArray, List.mapM_cons, List.mapM_nil, Sem.run_bind, Sem.run_map, Sem.run_pure]
    cases (asAddr (tmps.getD a undef)).run P w with
    | halt x w1 => rfl
    | ok x w1 =>
      simp only [Result.andThen_ok]
      cases (loadVar t x).run P w1 with
      | halt y w2 => rfl
      | ok y w2 => rfl
  rw [h3]
  simp only [Sem.run_bind] at h1 ⊢
  cases h4 : (asAddr (tmps.getD a undef)).run P w with
  | halt x w1 => rw [h4] at h1; cases h1
  | ok x w1 =>
    rw [h4] at h1
    simp only [Result.andThen_ok] at h1 ⊢
    rw [h1]
    simp
/-- A call that leaves nothing behind, whose result speaks of elder blocks alone. -/
theorem ACalls.resetB {f : FuncId} {args : List Value} {Q : Value → Heap → Prop} (p : ACalls P f args h fun v h' => Bdd h.next v ∧ Ext h h' ∧ Q v h) : ACalls P f args h Q :=
  fun φ w cargs s va => (p φ w cargs s va).mono fun e w' hr => by
    cases e with
    | returned c =>
      obtain ⟨v, h', φ', ⟨⟨φ0, c0, hb⟩, hx, q⟩, r1, r2, r3⟩ := hr
      exact ⟨v, h, φ', q, r1.lower hb, s.reset r2 r3.agree hx, r3.reset hx⟩
    | _ => exact hr
theorem Bdd.plain {n : Nat} {v : Value} (h : plainV v = true) : Bdd n v := ⟨fun _ => ⟨0, 0, 0⟩, v, .of_plain h⟩
theorem Bdd.pair {n : Nat} {a b : Value} (_ha : Bdd n a) (_hb : Bdd n b) (hp : plainV a = true) (hq : plainV b = true) : Bdd n (.tuple #[a, b]) :=
  ⟨fun _ => ⟨0, 0, 0⟩, .tuple #[a, b], .tuple2 (.of_plain hp) (.of_plain hq)⟩
theorem plain_iv (k : IntKind) (zs : List Int) : plainV (.agg (iv k zs).toArray) = true := by
  show (iv k zs).toArray.all scalar = true
  rw [List.all_toArray]
  refine List.all_eq_true.2 fun v hv => ?_
  obtain ⟨z, _, rfl⟩ := List.mem_map.1 hv
  rfl
end Go.Eng
