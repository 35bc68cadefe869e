/-
  The engine, part F: operations on memory.
-/
import Derived.Test.YtdfehmmhlplhlaaEngE
namespace Go.Eng
open Go

variable {P : Program} {ρ : Operand → Value} {h : Heap} {K : Value → Heap → Prop} {dst : Option Tmp} {ty : TypeId} {pos : String} {aft : Array Edge} {g : Option (Nat × Bool)}

theorem VRels.get {φ : Ren} {n : Nat} {xs cs : List Value} (r : VRels φ n xs cs) : ∀ {j : Nat} {x : Value}, xs[j]? = some x → ∃ c, cs[j]? = some c ∧ VRel φ n x c := by
  induction r with
  | nil => intro j x hj; simp at hj
  | cons hv _ ih =>
    intro j x hj
    cases j with
    | zero => simp at hj; subst hj; exact ⟨_, by simp, hv⟩
    | succ j => simpa using ih (by simpa using hj)
theorem VRels.of {φ : Ren} {n : Nat} : ∀ {xs : List Value} {cs : List Value}, xs.length = cs.length → (∀ (j : Nat) x y, xs[j]? = some x → cs[j]? = some y → VRel φ n x y) → VRels φ n xs cs
  | [], [], _, _ => .nil
  | x :: xs, c :: cs, hl, hr => .cons (hr 0 x c (by simp) (by simp)) (VRels.of (by simpa using hl) fun j a b ha hb => hr (j + 1) a b (by simpa using ha) (by simpa using hb))
  | [], c :: cs, hl, _ => by simp at hl
  | x :: xs, [], hl, _ => by simp at hl
theorem VRels.arr {φ : Ren} {n : Nat} {xs cs : List Value} (r : VRels φ n xs cs) : ∀ (k : Nat) x y, xs.toArray[k]? = some x → cs.toArray[k]? = some y → VRel φ n x y := by
  intro k x y hx hy
  obtain ⟨c, hc, hv⟩ := r.get (j := k) (x := x) (by simpa using hx)
  have : c = y := by simpa [hc] using hy
  exact this ▸ hv
theorem VRels.append {φ : Ren} {n : Nat} {xs cs ys ds : List Value} (a : VRels φ n xs cs) (b : VRels φ n ys ds) : VRels φ n (xs ++ ys) (cs ++ ds) := by
  induction a with
  | nil => exact b
  | cons hv _ ih => exact .cons hv ih
theorem VRels.scalars {φ : Ren} {n : Nat} : ∀ {xs : List Value}, xs.all scalar = true → VRels φ n xs xs
  | [], _ => .nil
  | x :: xs, hs => by
    simp only [List.all_cons, Bool.and_eq_true] at hs
    exact .cons (.of_scalar hs.1) (VRels.scalars hs.2)
theorem VRels.mono {φ φ' : Ren} {n n' : Nat} (ha : ∀ i, i < n → φ' i = φ i) (hn : n ≤ n') {xs cs : List Value} (r : VRels φ n xs cs) : VRels φ' n' xs cs := by
  induction r with
  | nil => exact .nil
  | cons hv _ ih => exact .cons (hv.mono ha hn) ih

/-- The cells of a known block, read in a row. -/
theorem Sim.row {φ : Ren} {w : World} (s : Sim P φ h w) {i : Nat} {b : Blk} (hi : h.get i = some b) (p k : Nat) (hp : p + k ≤ b.cells.length) :
    ∃ cs, VRels φ h.next ((b.cells.drop p).take k) cs ∧ cs.length = k ∧ ∀ (j : Nat) v, cs[j]? = some v → w.cell? ((⟨(φ i).b, (φ i).o + p, none⟩ : Addr).add j) = some v := by
  induction k generalizing p with
  | zero => exact ⟨[], by simp; exact .nil, rfl, by simp⟩
  | succ k ih =>
    obtain ⟨cs, h1, h2, h3⟩ := ih (p + 1) (by omega)
    have hb : b.cells[p]? = some b.cells[p] := List.getElem?_eq_getElem (by omega)
    obtain ⟨c, hc, hv⟩ := s.cell hi hb
    refine ⟨c :: cs, ?_, by simp [h2], ?_⟩
    · rw [List.drop_eq_getElem_cons (by omega), List.take_succ_cons]
      exact .cons hv h1
    · intro j v hj
      cases j with
      | zero => simp at hj; subst hj; simpa [Addr.add] using hc
      | succ j =>
        have := h3 j v (by simpa using hj)
        rw [Addr.add_lit] at this ⊢
        rw [← this]
        congr 2
        omega

/-- Read a single cell. -/
theorem op_load {t : TypeId} {x : Operand} {i o : Nat} {s : Option Nat} {b : Blk} {v : Value} {d : TypeDesc} [td : TyD P t d] (hx : ρ x = .pointer (some ⟨i, o, s⟩)) (ha : aggB d = false)
    (hi : h.get i = some b) (hv : b.cells[o]? = some v) (kk : K v h) : AOp P ⟨dst, .load t x, ty, pos, aft, g⟩ ρ h K :=
  .of_pure kk fun φ ac w r => by
    obtain ⟨_, _, e1⟩ := (hx ▸ r.ev x (by simp [Op.operands])).ptr_inv
    obtain ⟨c, hc, hr⟩ := r.sim.cell hi hv
    refine ⟨c, ?_, hr⟩
    simp [execOp, e1, Instr.loadAt, Instr.sureAddr, loadVar, td.isAgg, ha, hc]
/-- Read a struct or an array. -/
theorem op_loadA {t : TypeId} {x : Operand} {i o sz by_ : Nat} {z : Value} {s : Option Nat} {b : Blk} {d : TypeDesc} [td : TyD P t d] [ti : TyI P t sz by_ z] (hx : ρ x = .pointer (some ⟨i, o, s⟩)) (ha : aggB d = true)
    (hi : h.get i = some b) (hl : o + sz ≤ b.cells.length) (kk : K (.agg ((b.cells.drop o).take sz).toArray) h) : AOp P ⟨dst, .load t x, ty, pos, aft, g⟩ ρ h K :=
  .of_pure kk fun φ ac w r => by
    obtain ⟨_, _, e1⟩ := (hx ▸ r.ev x (by simp [Op.operands])).ptr_inv
    obtain ⟨cs, h1, h2, h3⟩ := r.sim.row hi o sz hl
    have hr := run_loadCells_list (P := P) w _ cs h3
    rw [h2] at hr
    refine ⟨.agg cs.toArray, ?_, .agg _ _ (by simp [h1.length]) h1.arr⟩
    simp [execOp, e1, Instr.loadAt, Instr.sureAddr, loadVar, td.isAgg, ha, ti.size, hr]

theorem load_run {φ : Ren} {w : World} (sm : Sim P φ h w) {t : TypeId} {i o sz by_ : Nat} {z : Value} {s : Option Nat} {b : Blk} {d : TypeDesc} {c : Value} [td : TyD P t d] [ti : TyI P t sz by_ z] (hv : VRel φ h.next (.pointer (some ⟨i, o, s⟩)) c) (ha : aggB d = true)
    (hi : h.get i = some b) (hl : o + sz ≤ b.cells.length) : ∃ u, (do loadVar t (← asAddr c) : Sem Value).run P w = .ok u w ∧ VRel φ h.next (.agg ((b.cells.drop o).take sz).toArray) u := by
  obtain ⟨_, _, e1⟩ := hv.ptr_inv
  obtain ⟨cs, h1, h2, h3⟩ := sm.row hi o sz hl
  have hr := run_loadCells_list (P := P) w _ cs h3
  rw [h2] at hr
  refine ⟨.agg cs.toArray, ?_, .agg _ _ (by simp [h1.length]) h1.arr⟩
  simp [e1, asAddr, loadVar, td.isAgg, ha, ti.size, hr]
/-- A result that lies in memory. -/
theorem ResV.cellA {fn : Func} {env : Env} {a : Tmp} {t : TypeId} {i o sz by_ : Nat} {z : Value} {s : Option Nat} {b : Blk} {d : TypeDesc} [td : TyD P t d] [ti : TyI P t sz by_ z] (hr : fn.results = #[.cell a t]) (hx : env.get a = .pointer (some ⟨i, o, s⟩)) (ha : aggB d = true)
    (hi : h.get i = some b) (hl : o + sz ≤ b.cells.length) : ResV P fn env h (.agg ((b.cells.drop o).take sz).toArray) := by
  intro N φ tmps w r
  obtain ⟨u, h1, h2⟩ := load_run (P := P) (t := t) r.sim (hx ▸ r.env a) ha hi hl
  refine ⟨u, ?_, h2⟩
  have h3 : (results fn tmps).run P w = (do loadVar t (← asAddr (tmps.getD a undef)) : Sem Value).run P w := by
    simp only [results, hr]
    simp only [List.mapM_toArray, List.mapM_cons, List.mapM_nil, Sem.run_bind, Sem.run_map, Sem.run_pure]
    cases (asAddr (tmps.getD a undef)).run P w with
    | halt x w1 => rfl
    | ok x w1 =>
      simp only [Result.andThen_ok]
      cases (loadVar t x).run P w1 with
      | halt y w2 => rfl
      | ok y w2 => rfl
  rw [h3, h1]
theorem run_alloc {t : TypeId} {sz by_ : Nat} {z : Value} [ti : TyI P t sz by_ z] (w : World) :
    (Instr.alloc t true (.tuple #[])).run P w = .ok (.pointer (some ⟨w.heap.size, 0, none⟩)) (w.alloc (.cells z.cells t)) := by
  simp [Instr.alloc, ti.zero, newVar, newRow]
/-- A new variable, zero. -/
theorem op_alloc {t : TypeId} {sz by_ : Nat} {z : Value} [ti : TyI P t sz by_ z] (kk : K (.pointer (some ⟨h.next, 0, none⟩)) (h.alloc ⟨z.cells.toList, t, true⟩)) :
    AOp P ⟨dst, .alloc t, ty, pos, aft, g⟩ ρ h K :=
  .of_run fun φ ac w r => by
    have hv := VRels.scalars (φ := φ) (n := h.next) ti.plain
    obtain ⟨s1, s2⟩ := r.sim.alloc z.cells.toList z.cells t (0, 0) (.inl rfl) (by simp) (fun k v hk => by
      have := hv.get hk
      simpa using this)
    refine ⟨.pointer (some ⟨w.heap.size, 0, none⟩), _, _, _, _, by simp [execOp, run_alloc], kk, ?_, s1, s2⟩
    have := VRel.ptr (φ := Ren.put φ h.next ⟨w.heap.size, 0, z.cells.size⟩) (n := h.next + 1) h.next 0 (by omega)
    rw [Ren.put_at] at this
    exact this

theorem VRel.cells {φ : Ren} {n : Nat} {v c : Value} (r : VRel φ n v c) (hu : v ≠ undef) : VRels φ n v.cells.toList c.cells.toList := by
  cases r with
  | und => exact absurd rfl hu
  | agg c c' h1 h2 => exact .of (by simpa [Value.cells] using h1) (fun j x y hx hy => h2 j x y (by simpa [Value.cells] using hx) (by simpa [Value.cells] using hy))
  | tuple c c' h1 h2 => exact .cons (.tuple c c' h1 h2) .nil
  | bool b => exact .cons (.bool b) .nil
  | int k a => exact .cons (.int k a) .nil
  | float k a => exact .cons (.float k a) .nil
  | complex k a b => exact .cons (.complex k a b) .nil
  | string s => exact .cons (.string s) .nil
  | nilPtr => exact .cons .nilPtr .nil
  | ptr i o hi => exact .cons (.ptr i o hi) .nil
  | nilSlice => exact .cons .nilSlice .nil
  | slice i o len cap cap' s a' hi h1 h2 h3 h4 h5 h6 => exact .cons (.slice i o len cap cap' s a' hi h1 h2 h3 h4 h5 h6) .nil
  | func fn f c f' c' h1 h2 h3 h4 => exact .cons (.func fn f c f' c' h1 h2 h3 h4) .nil
  | nilFunc => exact .cons .nilFunc .nil
  | iface t v v' h => exact .cons (.iface t v v' h) .nil
  | nilIface => exact .cons .nilIface .nil
  | nilMap => exact .cons .nilMap .nil
  | map i hi => exact .cons (.map i hi) .nil

theorem VRels.toArr {φ : Ren} {n : Nat} {xs : List Value} {c : Array Value} (r : VRels φ n xs c.toList) : ∀ (k : Nat) v, xs[k]? = some v → ∃ d, c[k]? = some d ∧ VRel φ n v d := by
  intro k v hk
  have := r.get hk
  simpa using this

/-- A new variable with a value. -/
theorem op_box {t : TypeId} {x : Operand} {v : Value} (hx : ρ x = v) (hu : v ≠ undef) (kk : K (.pointer (some ⟨h.next, 0, none⟩)) (h.alloc ⟨v.cells.toList, t, true⟩)) :
    AOp P ⟨dst, .box t x, ty, pos, aft, g⟩ ρ h K :=
  .of_run fun φ ac w r => by
    have hv := ((hx ▸ r.ev x (by simp [Op.operands])) : VRel φ h.next v (ac.eval x)).cells hu
    obtain ⟨s1, s2⟩ := r.sim.alloc v.cells.toList (ac.eval x).cells t (0, 0) (.inl rfl) (by have := hv.length; simp at this; simp; omega) hv.toArr
    refine ⟨.pointer (some ⟨w.heap.size, 0, none⟩), w.alloc (.cells (ac.eval x).cells t), _, _, _, by simp [execOp, Instr.box, newVar, newRow], kk, ?_, s1, s2⟩
    have := VRel.ptr (φ := Ren.put φ h.next ⟨w.heap.size, 0, (ac.eval x).cells.size⟩) (n := h.next + 1) h.next 0 (by omega)
    rw [Ren.put_at] at this
    exact this

def oneB : Value → Bool
  | .agg _ | .tuple _ => false
  | _ => true
theorem VRel.one {φ : Ren} {n : Nat} {v c : Value} (r : VRel φ n v c) (ho : oneB v = true) : c.oneCell' = true := by
  cases r <;> first | rfl | (simp [oneB] at ho; done) | (exfalso; simp [oneB, undef] at ho)

/-- Cells written in a row, in a block that may be written. -/
theorem run_storeRow (P : Program) (k : Nat) (e : TypeId) (fr : Nat × Nat) : ∀ (vs : List Value) (o i : Nat) (arr : Array Value) (w : World), w.heap[k]? = some (.cells arr e fr) →
    (fr.1 = fr.2 ∨ arr.size ≤ fr.1) → o + i + vs.length ≤ arr.size → (∀ v ∈ vs, v.oneCell' = true) →
    ∃ w', (storeCells ⟨k, o, none⟩ vs i).run P w = .ok () w' ∧ w'.os = w.os ∧ w'.tape = w.tape ∧ w'.output = w.output ∧
      ∀ j : Nat, w'.heap[j]? = if j = k then some (.cells (arr.toList.take (o + i) ++ vs ++ arr.toList.drop (o + i + vs.length)).toArray e fr) else w.heap[j]?
  | [], o, i, arr, w, hk, _, _, _ => ⟨w, rfl, rfl, rfl, rfl, fun j => by
      simp only [List.append_nil, List.length_nil, Nat.add_zero, List.take_append_drop]
      split
      · rename_i hj; subst hj; exact hk
      · rfl⟩
  | v :: vs, o, i, arr, w, hk, hfr, hl, h1 => by
    simp only [List.length_cons] at hl
    have hcell : w.cell? ⟨k, o + i, none⟩ = some arr[o + i] := by
      simp [World.cell?, hk]
    have hfz : w.frozen? ⟨k, o + i, none⟩ = false := by
      simp only [World.frozen?, hk]
      rcases hfr with hfr | hfr
      · rw [Bool.and_eq_false_iff, decide_eq_false_iff_not, decide_eq_false_iff_not]; omega
      · rw [Bool.and_eq_false_iff, decide_eq_false_iff_not]; exact .inl (by omega)
    have hst := run_store P w ⟨k, o + i, none⟩ v .plain (h1 v (by simp))
    simp only [hcell, hfz, Bool.false_eq_true, if_false] at hst
    have hheap : ∀ j : Nat, (w.setCell ⟨k, o + i, none⟩ v).heap[j]? = if j = k then some (.cells (arr.setIfInBounds (o + i) v) e fr) else w.heap[j]? := by
      intro j
      simp only [World.setCell, Array.getElem?_modify]
      by_cases hj : j = k
      · subst hj; simp [hk]
      · rw [if_neg (fun e => hj e.symm), if_neg hj]
    obtain ⟨w', hr, e1, e2, e3, e4⟩ := run_storeRow P k e fr vs o (i + 1) (arr.setIfInBounds (o + i) v) (w.setCell ⟨k, o + i, none⟩ v) (by rw [hheap]; simp) (by simpa using hfr) (by simp; omega) (fun u hu => h1 u (by simp [hu]))
    refine ⟨w', ?_, e1, e2, e3, fun j => ?_⟩
    · simp [storeCells, Addr.add_lit, hst, hr]
    · rw [e4 j]
      split
      · have hL : (arr.setIfInBounds (o + i) v).toList = arr.toList.take (o + i) ++ v :: arr.toList.drop (o + i + 1) := by
          rw [Array.toList_setIfInBounds, List.set_eq_take_append_cons_drop]
          rw [if_pos (by simp; omega)]
        have hlen : (arr.toList.take (o + i)).length = o + i := by simp; omega
        rw [hL]
        congr 3
        have t1 : (arr.toList.take (o + i) ++ v :: arr.toList.drop (o + i + 1)).take (o + (i + 1)) = arr.toList.take (o + i) ++ [v] := by
          rw [show o + (i + 1) = (arr.toList.take (o + i)).length + 1 from by omega, List.take_length_add_append]
          simp
        have t2 : (arr.toList.take (o + i) ++ v :: arr.toList.drop (o + i + 1)).drop (o + (i + 1) + vs.length) = arr.toList.drop (o + i + (v :: vs).length) := by
          rw [show o + (i + 1) + vs.length = (arr.toList.take (o + i)).length + (vs.length + 1) from by omega, List.drop_length_add_append]
          simp only [List.drop_succ_cons, List.drop_drop, List.length_cons]
          congr 1
          omega
        rw [t1, t2]
        simp
      · rename_i hj
        rw [hheap, if_neg hj]

/-- A row of cells, some of them written. -/
def splice (L : List Value) (o : Nat) (vs : List Value) : List Value := L.take o ++ vs ++ L.drop (o + vs.length)
theorem length_splice {L : List Value} {o : Nat} {vs : List Value} (hl : o + vs.length ≤ L.length) : (splice L o vs).length = L.length := by simp [splice]; omega
theorem splice_one (L : List Value) (o : Nat) (v : Value) (ho : o < L.length) : splice L o [v] = L.set o v := by
  rw [List.set_eq_take_append_cons_drop, if_pos ho]
  simp [splice]
theorem splice_get (L : List Value) (o : Nat) (vs : List Value) (hl : o + vs.length ≤ L.length) (k : Nat) : (splice L o vs)[k]? = if o ≤ k ∧ k < o + vs.length then vs[k - o]? else L[k]? := by
  unfold splice
  by_cases h1 : k < o
  · rw [List.append_assoc, List.getElem?_append_left (by simp; omega), List.getElem?_take_of_lt h1, if_neg (by omega)]
  · by_cases h2 : k < o + vs.length
    · rw [if_pos (by omega), List.getElem?_append_left (by simp; omega), List.getElem?_append_right (by simp; omega)]
      congr 1
      simp; omega
    · rw [if_neg (by omega), List.getElem?_append_right (by simp; omega), List.getElem?_drop]
      congr 1
      simp; omega

theorem Sim.splice {φ : Ren} {w : World} (s : Sim P φ h w) {i : Nat} {b : Blk} (hi : h.get i = some b) (ho : b.own = true) {o : Nat} {vs cs : List Value} (hr : VRels φ h.next vs cs) (hl : o + vs.length ≤ b.cells.length)
    (h1 : ∀ c ∈ cs, c.oneCell' = true) : ∃ w', (storeCells ⟨(φ i).b, o, none⟩ cs).run P w = .ok () w' ∧ Sim P φ (h.set i ⟨splice b.cells o vs, b.elem, true⟩) w' ∧ Step φ h w φ (h.set i ⟨splice b.cells o vs, b.elem, true⟩) w' := by
  obtain ⟨arr, fr, a1, a2, a3, a4, a5⟩ := s.owned hi ho
  have hlen := hr.length
  obtain ⟨w', hrun, e1, e2, e3, e4⟩ := run_storeRow P (φ i).b b.elem fr cs o 0 arr w a1 a3 (by omega) h1
  simp only [Nat.add_zero] at e4
  have hsl : (Eng.splice arr.toList o cs).length = arr.size := by rw [length_splice (by simp; omega)]; simp
  obtain ⟨s1, s2⟩ := s.write hi ho a1 (w' := w') (arr' := (Eng.splice arr.toList o cs).toArray) (by simpa using hsl) (by simpa [hsl] using a3) e4 e1 e2 e3 (Eng.splice b.cells o vs) (by rw [length_splice hl]; simp [hsl]; omega) (by
    intro k v hk
    rw [splice_get _ _ _ hl] at hk
    simp only [List.getElem?_toArray]
    rw [splice_get _ _ _ (by simp; omega)]
    by_cases hin : o ≤ k ∧ k < o + vs.length
    · rw [if_pos hin] at hk
      rw [if_pos (by omega)]
      exact hr.get hk
    · rw [if_neg hin] at hk
      rw [if_neg (by omega)]
      simpa using a5 k v hk)
  exact ⟨w', hrun, s1, s2⟩

/-- Write a single cell. -/
theorem op_store {t : TypeId} {x y : Operand} {i o by_ : Nat} {z : Value} {s : Option Nat} {b : Blk} {v : Value} [ti : TyI P t 1 by_ z] (hx : ρ x = .pointer (some ⟨i, o, s⟩)) (hy : ρ y = v) (h1 : oneB v = true)
    (hi : h.get i = some b) (ho : b.own = true) (hl : o < b.cells.length) (kk : K undef (h.set i ⟨b.cells.set o v, b.elem, true⟩)) : AOp P ⟨dst, .store t x y, ty, pos, aft, g⟩ ρ h K :=
  .of_skip fun φ ac w r => by
    obtain ⟨_, _, e1⟩ := (hx ▸ r.ev x (by simp [Op.operands])).ptr_inv
    have hv : VRel φ h.next v (ac.eval y) := hy ▸ r.ev y (by simp [Op.operands])
    have hone := hv.one h1
    have hc : (ac.eval y).cells = #[ac.eval y] := by
      cases hq : ac.eval y <;> first | rfl | (rw [hq] at hone; simp [Value.oneCell'] at hone)
    obtain ⟨w', h3, h4, h5⟩ := r.sim.splice hi ho (o := o) (.cons hv .nil) (by simp; omega) (by simpa using hone)
    rw [splice_one _ _ _ hl] at h4 h5
    have hz : (φ i).o = 0 := by
      obtain ⟨_, _, _, h2, _⟩ := r.sim.owned hi ho
      exact h2.1
    refine ⟨w', φ, _, ?_, kk, h4, h5⟩
    simp [execOp, e1, Instr.storeAt, Instr.sureAddr, storeVar, ti.size, hc, hz, h3]
/-- Write a struct or an array. -/
theorem op_storeA {t : TypeId} {x y : Operand} {i o sz by_ : Nat} {z : Value} {s : Option Nat} {b : Blk} {vs : Array Value} [ti : TyI P t sz by_ z] (hx : ρ x = .pointer (some ⟨i, o, s⟩)) (hy : ρ y = .agg vs) (h1 : vs.toList.all oneB = true)
    (hsz : vs.size = sz) (hi : h.get i = some b) (ho : b.own = true) (hl : o + sz ≤ b.cells.length) (kk : K undef (h.set i ⟨splice b.cells o vs.toList, b.elem, true⟩)) : AOp P ⟨dst, .store t x y, ty, pos, aft, g⟩ ρ h K :=
  .of_skip fun φ ac w r => by
    obtain ⟨_, _, e1⟩ := (hx ▸ r.ev x (by simp [Op.operands])).ptr_inv
    obtain ⟨cs, e2, h2, h3⟩ := (hy ▸ r.ev y (by simp [Op.operands])).agg_inv
    have hr : VRels φ h.next vs.toList cs.toList := .of (by simpa using h2) (fun j x y hx hy => h3 j x y (by simpa using hx) (by simpa using hy))
    obtain ⟨w', h4, h5, h6⟩ := r.sim.splice hi ho (o := o) hr (by simp; omega) (by
      intro c hc
      obtain ⟨j, hj⟩ := List.getElem?_of_mem hc
      have hjl : j < vs.toList.length := by rw [hr.length]; exact (List.getElem?_eq_some_iff.1 hj).1
      have hx := List.getElem?_eq_getElem hjl
      obtain ⟨c', hc', hv⟩ := hr.get hx
      rw [hj] at hc'; cases hc'
      exact hv.one (List.all_eq_true.1 h1 _ (List.getElem_mem hjl)))
    have hz : (φ i).o = 0 := by
      obtain ⟨_, _, _, h2, _⟩ := r.sim.owned hi ho
      exact h2.1
    refine ⟨w', φ, _, ?_, kk, h5, h6⟩
    have : cs.size = sz := by omega
    simp [execOp, e1, e2, Instr.storeAt, Instr.sureAddr, storeVar, ti.size, Value.cells, hz, h4, this]

end Go.Eng
