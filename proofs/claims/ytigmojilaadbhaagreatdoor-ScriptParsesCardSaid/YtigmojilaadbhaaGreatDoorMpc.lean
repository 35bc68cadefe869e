/-
  Texts of one claim, merged: 4 parts.
-/
import Derived.Test.YtigmojilaadbhaaGreatDoorMpb
import Derived.Laws.IdiomStrings
set_option maxHeartbeats 16000000
/- . -/
namespace Go.Eng
open Go
variable {P : Program} {ρ : Operand → Value} {h : Heap} {K : Value → Heap → Prop} {dst : Option Tmp} {ty : TypeId} {pos : String} {aft : Array Edge} {g : Option (Nat × Bool)}
theorem VRels.get {φ : Ren} {n : Nat} {xs cs : List Value} (r : VRels φ n xs cs) : ∀ {j : Nat} {x : Value}, xs[j]? = some x → ∃ c, cs[j]? = some c ∧ VRel φ n x c := by
 induction r with
 | nil => intro j x hj; simp at hj
 | cons hv _ ih =>
  intro j x hj
  cases j with
  | zero => simp at hj; subst hj; exact ⟨_, by simp, hv⟩
  | succ j => simpa using ih (by simpa using hj)
theorem VRels.of {φ : Ren} {n : Nat} : ∀ {xs : List Value} {cs : List Value}, xs.length = cs.length → (∀ (j : Nat) x y, xs[j]? = some x → cs[j]? = some y → VRel φ n x y) → VRels φ n xs cs
 | [], [], _, _ => .nil
 | x :: xs, c :: cs, hl, hr => .cons (hr 0 x c (by simp) (by simp)) (VRels.of (by simpa using hl) fun j a b ha hb => hr (j + 1) a b (by simpa using ha) (by simpa using hb))
 | [], c :: cs, hl, _ => by simp at hl
 | x :: xs, [], hl, _ => by simp at hl
theorem VRels.arr {φ : Ren} {n : Nat} {xs cs : List Value} (r : VRels φ n xs cs) : ∀ (k : Nat) x y, xs.toArray[k]? = some x → cs.toArray[k]? = some y → VRel φ n x y := by
 intro k x y hx hy
 obtain ⟨c, hc, hv⟩ := r.get (j := k) (x := x) (by simpa using hx)
 have : c = y := by simpa [hc] using hy
 exact this ▸ hv
theorem VRels.append {φ : Ren} {n : Nat} {xs cs ys ds : List Value} (a : VRels φ n xs cs) (b : VRels φ n ys ds) : VRels φ n (xs ++ ys) (cs ++ ds) := by
 induction a with
 | nil => exact b
 | cons hv _ ih => exact .cons hv ih
theorem VRels.scalars {φ : Ren} {n : Nat} : ∀ {xs : List Value}, xs.all scalar = true → VRels φ n xs xs
 | [], _ => .nil
 | x :: xs, hs => by
  simp only [Bc, Ae] at hs
  exact .cons (.of_scalar hs.1) (VRels.scalars hs.2)
abbrev cI := @VRels.scalars
theorem Sim.row {φ : Ren} {w : World} (s : Sim P φ h w) {i : Nat} {b : Blk} (hi : h.get i = some b) (p k : Nat) (hp : p + k ≤ b.cells.length) :
  ∃ cs, VRels φ h.next ((b.cells.drop p).take k) cs ∧ cs.length = k ∧ ∀ (j : Nat) v, cs[j]? = some v → w.cell? ((⟨(φ i).b, (φ i).o + p, none⟩ : Addr).add j) = some v := by
 induction k generalizing p with
 | zero => exact ⟨[], by simp; exact .nil, rfl, by simp⟩
 | succ k ih =>
  obtain ⟨cs, h1, h2, h3⟩ := ih (p + 1) (by omega)
  have hb : b.cells[p]? = some b.cells[p] := At (by omega)
  obtain ⟨c, hc, hv⟩ := s.cell hi hb
  refine ⟨c :: cs, ?_, by simp [h2], ?_⟩
  ·
   rw [Dz (by omega), Dg]
   exact .cons hv h1
  ·
   intro j v hj
   cases j with
   | zero => simp at hj; subst hj; simpa [Addr.add] using hc
   | succ j =>
    have := h3 j v (by simpa using hj)
    rw [Addr.add_lit] at this ⊢
    rw [← this]
    congr 2
    omega
theorem qaf {t : TypeId} {x : Operand} {i o : Nat} {s : Option Nat} {b : Blk} {v : Value} {d : TypeDesc} [td : TyD P t d] (hx : ρ x = .pointer (some ⟨i, o, s⟩)) (ha : aggB d = false)
  (hi : h.get i = some b) (hv : b.cells[o]? = some v) (kk : K v h) : AOp P ⟨dst, .load t x, ty, pos, aft, g⟩ ρ h K :=
 .of_pure kk fun φ ac w r => by
  obtain ⟨_, _, e1⟩ := (hx ▸ r.ev x (by simp [Op.operands])).ptr_inv
  obtain ⟨c, hc, hr⟩ := r.sim.cell hi hv
  refine ⟨c, ?_, hr⟩
  simp [execOp, e1, Instr.loadAt, Instr.sureAddr, loadVar, td.isAgg, ha, hc]
theorem qam {t : TypeId} {x : Operand} {i o sz by_ : Nat} {z : Value} {s : Option Nat} {b : Blk} {d : TypeDesc} [td : TyD P t d] [ti : TyI P t sz by_ z] (hx : ρ x = .pointer (some ⟨i, o, s⟩)) (ha : aggB d = true)
  (hi : h.get i = some b) (hl : o + sz ≤ b.cells.length) (kk : K (.agg ((b.cells.drop o).take sz).toArray) h) : AOp P ⟨dst, .load t x, ty, pos, aft, g⟩ ρ h K :=
 .of_pure kk fun φ ac w r => by
  obtain ⟨_, _, e1⟩ := (hx ▸ r.ev x (by simp [Op.operands])).ptr_inv
  obtain ⟨cs, h1, h2, h3⟩ := r.sim.row hi o sz hl
  have hr := run_loadCells_list (P := P) w _ cs h3
  rw [h2] at hr
  refine ⟨.agg cs.toArray, ?_, .agg _ _ (by simp [h1.length]) h1.arr⟩
  simp [execOp, e1, Instr.loadAt, Instr.sureAddr, loadVar, td.isAgg, ha, ti.size, hr]
theorem qdO {φ : Ren} {w : World} (sm : Sim P φ h w) {t : TypeId} {i o sz by_ : Nat} {z : Value} {s : Option Nat} {b : Blk} {d : TypeDesc} {c : Value} [td : TyD P t d] [ti : TyI P t sz by_ z] (hv : VRel φ h.next (.pointer (some ⟨i, o, s⟩)) c) (ha : aggB d = true)
  (hi : h.get i = some b) (hl : o + sz ≤ b.cells.length) : ∃ u, (do loadVar t (← asAddr c) : Sem Value).run P w = .ok u w ∧ VRel φ h.next (.agg ((b.cells.drop o).take sz).toArray) u := by
 obtain ⟨_, _, e1⟩ := hv.ptr_inv
 obtain ⟨cs, h1, h2, h3⟩ := sm.row hi o sz hl
 have hr := run_loadCells_list (P := P) w _ cs h3
 rw [h2] at hr
 refine ⟨.agg cs.toArray, ?_, .agg _ _ (by simp [h1.length]) h1.arr⟩
 simp [e1, asAddr, loadVar, td.isAgg, ha, ti.size, hr]
theorem ResV.cellA {fn : Func} {env : Env} {a : Tmp} {t : TypeId} {i o sz by_ : Nat} {z : Value} {s : Option Nat} {b : Blk} {d : TypeDesc} [td : TyD P t d] [ti : TyI P t sz by_ z] (hr : fn.results = #[.cell a t]) (hx : env.get a = .pointer (some ⟨i, o, s⟩)) (ha : aggB d = true)
  (hi : h.get i = some b) (hl : o + sz ≤ b.cells.length) : ResV P fn env h (.agg ((b.cells.drop o).take sz).toArray) := by
 intro N φ tmps w r
 obtain ⟨u, h1, h2⟩ := qdO (P := P) (t := t) r.sim (hx ▸ r.env a) ha hi hl
 refine ⟨u, ?_, h2⟩
 have h3 : (results fn tmps).run P w = (do loadVar t (← asAddr (tmps.getD a undef)) : Sem Value).run P w := by
  simp only [results, hr]
  simp only [De, Dr, El, Sem.run_bind, Sem.run_map, Sem.run_pure]
  cases (asAddr (tmps.getD a undef)).run P w with
  | halt x w1 => rfl
  | ok x w1 =>
   simp only [Result.andThen_ok]
   cases (loadVar t x).run P w1 with
   | halt y w2 => rfl
   | ok y w2 => rfl
 rw [h3, h1]
abbrev bI := @ResV.cellA
theorem run_alloc {t : TypeId} {sz by_ : Nat} {z : Value} [ti : TyI P t sz by_ z] (w : World) :
  (Instr.alloc t true (.tuple #[])).run P w = .ok (.pointer (some ⟨w.heap.size, 0, none⟩)) (w.alloc (.cells z.cells t)) := by
 simp [Instr.alloc, ti.zero, newVar, newRow]
theorem qax {t : TypeId} {sz by_ : Nat} {z : Value} [ti : TyI P t sz by_ z] (kk : K (.pointer (some ⟨h.next, 0, none⟩)) (h.alloc ⟨z.cells.toList, t, true⟩)) :
  AOp P ⟨dst, .alloc t, ty, pos, aft, g⟩ ρ h K :=
 .of_run fun φ ac w r => by
  have hv := cI (φ := φ) (n := h.next) ti.plain
  obtain ⟨s1, s2⟩ := r.sim.alloc z.cells.toList z.cells t (0, 0) (.inl rfl) (by simp) (fun k v hk => by
   have := hv.get hk
   simpa using this)
  refine ⟨.pointer (some ⟨w.heap.size, 0, none⟩), _, _, _, _, by simp [execOp, run_alloc], kk, ?_, s1, s2⟩
  have := VRel.ptr (φ := Ren.put φ h.next ⟨w.heap.size, 0, z.cells.size⟩) (n := h.next + 1) h.next 0 (by omega)
  rw [bM] at this
  exact this
theorem VRel.cells {φ : Ren} {n : Nat} {v c : Value} (r : VRel φ n v c) (hu : v ≠ undef) : VRels φ n v.cells.toList c.cells.toList := by
 cases r with
 | und => exact absurd rfl hu
 | skip => exact .cons .skip .nil
 | agg c c' h1 h2 => exact .of (by simpa [Value.cells] using h1) (fun j x y hx hy => h2 j x y (by simpa [Value.cells] using hx) (by simpa [Value.cells] using hy))
 | tuple c c' h1 h2 => exact .cons (.tuple c c' h1 h2) .nil
 | bool b => exact .cons (.bool b) .nil
 | int k a => exact .cons (.int k a) .nil
 | float k a => exact .cons (.float k a) .nil
 | complex k a b => exact .cons (.complex k a b) .nil
 | string s => exact .cons (.string s) .nil
 | nilPtr => exact .cons .nilPtr .nil
 | ptr i o hi => exact .cons (.ptr i o hi) .nil
 | nilSlice => exact .cons .nilSlice .nil
 | slice i o len cap cap' s a' hi h1 h2 h3 h4 h5 h6 => exact .cons (.slice i o len cap cap' s a' hi h1 h2 h3 h4 h5 h6) .nil
 | func fn f c f' c' h1 h2 h3 h4 => exact .cons (.func fn f c f' c' h1 h2 h3 h4) .nil
 | nilFunc => exact .cons .nilFunc .nil
 | iface t v v' h => exact .cons (.iface t v v' h) .nil
 | nilIface => exact .cons .nilIface .nil
 | nilMap => exact .cons .nilMap .nil
 | map i hi => exact .cons (.map i hi) .nil
theorem VRels.toArr {φ : Ren} {n : Nat} {xs : List Value} {c : Array Value} (r : VRels φ n xs c.toList) : ∀ (k : Nat) v, xs[k]? = some v → ∃ d, c[k]? = some d ∧ VRel φ n v d := by
 intro k v hk
 have := r.get hk
 simpa using this
theorem qaS {t : TypeId} {x : Operand} {v : Value} (hx : ρ x = v) (hu : v ≠ undef) (kk : K (.pointer (some ⟨h.next, 0, none⟩)) (h.alloc ⟨v.cells.toList, t, true⟩)) :
  AOp P ⟨dst, .box t x, ty, pos, aft, g⟩ ρ h K :=
 .of_run fun φ ac w r => by
  have hv := ((hx ▸ r.ev x (by simp [Op.operands])) : VRel φ h.next v (ac.eval x)).cells hu
  obtain ⟨s1, s2⟩ := r.sim.alloc v.cells.toList (ac.eval x).cells t (0, 0) (.inl rfl) (by have := hv.length; simp at this; simp; omega) hv.toArr
  refine ⟨.pointer (some ⟨w.heap.size, 0, none⟩), w.alloc (.cells (ac.eval x).cells t), _, _, _, by simp [execOp, Instr.box, newVar, newRow], kk, ?_, s1, s2⟩
  have := VRel.ptr (φ := Ren.put φ h.next ⟨w.heap.size, 0, (ac.eval x).cells.size⟩) (n := h.next + 1) h.next 0 (by omega)
  rw [bM] at this
  exact this
def oneB : Value → Bool
 | .agg _ | .tuple _ | .chan _ => false
 | _ => true
theorem VRel.one {φ : Ren} {n : Nat} {v c : Value} (r : VRel φ n v c) (ho : oneB v = true) : c.oneCell' = true := by
 cases r <;> first | rfl | (simp [oneB] at ho; done) | (exfalso; simp [oneB, undef] at ho)
theorem qco (P : Program) (k : Nat) (e : TypeId) (fr : Nat × Nat) : ∀ (vs : List Value) (o i : Nat) (arr : Array Value) (w : World), w.heap[k]? = some (.cells arr e fr) →
  (fr.1 = fr.2 ∨ arr.size ≤ fr.1) → o + i + vs.length ≤ arr.size → (∀ v ∈ vs, v.oneCell' = true) →
  ∃ w', (storeCells ⟨k, o, none⟩ vs i).run P w = .ok () w' ∧ w'.os = w.os ∧ w'.tape = w.tape ∧ w'.output = w.output ∧
   ∀ j : Nat, w'.heap[j]? = if j = k then some (.cells (arr.toList.take (o + i) ++ vs ++ arr.toList.drop (o + i + vs.length)).toArray e fr) else w.heap[j]?
 | [], o, i, arr, w, hk, _, _, _ => ⟨w, rfl, rfl, rfl, rfl, fun j => by
   simp only [Ck, Ag, Dw, Dc]
   split
   ·
    rename_i hj; subst hj; exact hk
   ·
    rfl⟩
 | v :: vs, o, i, arr, w, hk, hfr, hl, h1 => by
  simp only [Ad] at hl
  have hcell : w.cell? ⟨k, o + i, none⟩ = some arr[o + i] := by
   simp [World.cell?, hk]
  have hfz : w.frozen? ⟨k, o + i, none⟩ = false := by
   simp only [World.frozen?, hk]
   rcases hfr with hfr | hfr
   ·
    rw [Bool.and_eq_false_iff, decide_eq_false_iff_not, decide_eq_false_iff_not]; omega
   ·
    rw [Bool.and_eq_false_iff, decide_eq_false_iff_not]; exact .inl (by omega)
  have hst := run_store P w ⟨k, o + i, none⟩ v .plain (h1 v (by simp))
  simp only [hcell, hfz, Bk, if_false] at hst
  have hheap : ∀ j : Nat, (w.setCell ⟨k, o + i, none⟩ v).heap[j]? = if j = k then some (.cells (arr.setIfInBounds (o + i) v) e fr) else w.heap[j]? := by
   intro j
   simp only [World.setCell, Array.getElem?_modify]
   by_cases hj : j = k
   ·
    subst hj; simp [hk]
   ·
    rw [Ac (fun e => hj e.symm), Ac hj]
  obtain ⟨w', hr, e1, e2, e3, e4⟩ := qco P k e fr vs o (i + 1) (arr.setIfInBounds (o + i) v) (w.setCell ⟨k, o + i, none⟩ v) (by rw [hheap]; simp) (by simpa using hfr) (by simp; omega) (fun u hu => h1 u (by simp [hu]))
  refine ⟨w', ?_, e1, e2, e3, fun j => ?_⟩
  ·
   simp [storeCells, Addr.add_lit, hst, hr]
  ·
   rw [e4 j]
   split
   ·
    have hL : (arr.setIfInBounds (o + i) v).toList = arr.toList.take (o + i) ++ v :: arr.toList.drop (o + i + 1) := by
     rw [Array.toList_setIfInBounds, List.set_eq_take_append_cons_drop]
     rw [Ah (by simp; omega)]
    have hlen : (arr.toList.take (o + i)).length = o + i := by simp; omega
    rw [hL]
    congr 3
    have t1 : (arr.toList.take (o + i) ++ v :: arr.toList.drop (o + i + 1)).take (o + (i + 1)) = arr.toList.take (o + i) ++ [v] := by
     rw [show o + (i + 1) = (arr.toList.take (o + i)).length + 1 from by omega, List.take_length_add_append]
     simp
    have t2 : (arr.toList.take (o + i) ++ v :: arr.toList.drop (o + i + 1)).drop (o + (i + 1) + vs.length) = arr.toList.drop (o + i + (v :: vs).length) := by
     rw [show o + (i + 1) + vs.length = (arr.toList.take (o + i)).length + (vs.length + 1) from by omega, List.drop_length_add_append]
     simp only [List.drop_succ_cons, List.drop_drop, Ad]
     congr 1
     omega
    rw [t1, t2]
    simp
   ·
    rename_i hj
    rw [hheap, Ac hj]
def splice (L : List Value) (o : Nat) (vs : List Value) : List Value := L.take o ++ vs ++ L.drop (o + vs.length)
theorem qbc {L : List Value} {o : Nat} {vs : List Value} (hl : o + vs.length ≤ L.length) : (splice L o vs).length = L.length := by simp [splice]; omega
theorem splice_one (L : List Value) (o : Nat) (v : Value) (ho : o < L.length) : splice L o [v] = L.set o v := by
 rw [List.set_eq_take_append_cons_drop, Ah ho]
 simp [splice]
theorem qbo (L : List Value) (o : Nat) (vs : List Value) (hl : o + vs.length ≤ L.length) (k : Nat) : (splice L o vs)[k]? = if o ≤ k ∧ k < o + vs.length then vs[k - o]? else L[k]? := by
 unfold splice
 by_cases h1 : k < o
 ·
  rw [List.append_assoc, Bs (by simp; omega), Bt h1, Ac (by omega)]
 ·
  by_cases h2 : k < o + vs.length
  ·
   rw [Ah (by omega), Bs (by simp; omega), Bn (by simp; omega)]
   congr 1
   simp; omega
  ·
   rw [Ac (by omega), Bn (by simp; omega), Db]
   congr 1
   simp; omega
theorem Sim.splice {φ : Ren} {w : World} (s : Sim P φ h w) {i : Nat} {b : Blk} (hi : h.get i = some b) (ho : b.own = true) {o : Nat} {vs cs : List Value} (hr : VRels φ h.next vs cs) (hl : o + vs.length ≤ b.cells.length)
  (h1 : ∀ c ∈ cs, c.oneCell' = true) : ∃ w', (storeCells ⟨(φ i).b, o, none⟩ cs).run P w = .ok () w' ∧ Sim P φ (h.set i ⟨splice b.cells o vs, b.elem, true⟩) w' ∧ Step φ h w φ (h.set i ⟨splice b.cells o vs, b.elem, true⟩) w' := by
 obtain ⟨arr, fr, a1, a2, a3, a4, a5⟩ := s.owned hi ho
 have hlen := hr.length
 obtain ⟨w', hrun, e1, e2, e3, e4⟩ := qco P (φ i).b b.elem fr cs o 0 arr w a1 (a3.imp id And.left) (by omega) h1
 simp only [Dw] at e4
 have hsl : (Eng.splice arr.toList o cs).length = arr.size := by rw [qbc (by simp; omega)]; simp
 obtain ⟨s1, s2⟩ := s.write hi ho a1 (w' := w') (arr' := (Eng.splice arr.toList o cs).toArray) (by simpa using hsl) (by simpa [hsl] using a3) e4 e1 e2 e3 (Eng.splice b.cells o vs) (by rw [qbc hl]; simp [hsl]; omega) (by
  intro k v hk
  rw [qbo _ _ _ hl] at hk
  simp only [Cy]
  rw [qbo _ _ _ (by simp; omega)]
  by_cases hin : o ≤ k ∧ k < o + vs.length
  ·
   rw [Ah hin] at hk
   rw [Ah (by omega)]
   exact hr.get hk
  ·
   rw [Ac hin] at hk
   rw [Ac (by omega)]
   simpa using a5 k v hk)
 exact ⟨w', hrun, s1, s2⟩
theorem qaw {t : TypeId} {x y : Operand} {i o by_ : Nat} {z : Value} {s : Option Nat} {b : Blk} {v : Value} [ti : TyI P t 1 by_ z] (hx : ρ x = .pointer (some ⟨i, o, s⟩)) (hy : ρ y = v) (h1 : oneB v = true)
  (hi : h.get i = some b) (ho : b.own = true) (hl : o < b.cells.length) (kk : K undef (h.set i ⟨b.cells.set o v, b.elem, true⟩)) : AOp P ⟨dst, .store t x y, ty, pos, aft, g⟩ ρ h K :=
 .of_skip fun φ ac w r => by
  obtain ⟨_, _, e1⟩ := (hx ▸ r.ev x (by simp [Op.operands])).ptr_inv
  have hv : VRel φ h.next v (ac.eval y) := hy ▸ r.ev y (by simp [Op.operands])
  have hone := hv.one h1
  have hc : (ac.eval y).cells = #[ac.eval y] := by
   cases hq : ac.eval y <;> first | rfl | (rw [hq] at hone; simp [Value.oneCell'] at hone)
  obtain ⟨w', h3, h4, h5⟩ := r.sim.splice hi ho (o := o) (.cons hv .nil) (by simp; omega) (by simpa using hone)
  rw [splice_one _ _ _ hl] at h4 h5
  have hz : (φ i).o = 0 := by
   obtain ⟨_, _, _, h2, _⟩ := r.sim.owned hi ho
   exact h2.1
  refine ⟨w', φ, _, ?_, kk, h4, h5⟩
  simp [execOp, e1, Instr.storeAt, Instr.sureAddr, storeVar, ti.size, hc, hz, h3]
theorem qbt {t : TypeId} {x y : Operand} {i o sz by_ : Nat} {z : Value} {s : Option Nat} {b : Blk} {vs : Array Value} [ti : TyI P t sz by_ z] (hx : ρ x = .pointer (some ⟨i, o, s⟩)) (hy : ρ y = .agg vs) (h1 : vs.toList.all oneB = true)
  (hsz : vs.size = sz) (hi : h.get i = some b) (ho : b.own = true) (hl : o + sz ≤ b.cells.length) (kk : K undef (h.set i ⟨splice b.cells o vs.toList, b.elem, true⟩)) : AOp P ⟨dst, .store t x y, ty, pos, aft, g⟩ ρ h K :=
 .of_skip fun φ ac w r => by
  obtain ⟨_, _, e1⟩ := (hx ▸ r.ev x (by simp [Op.operands])).ptr_inv
  obtain ⟨cs, e2, h2, h3⟩ := (hy ▸ r.ev y (by simp [Op.operands])).agg_inv
  have hr : VRels φ h.next vs.toList cs.toList := .of (by simpa using h2) (fun j x y hx hy => h3 j x y (by simpa using hx) (by simpa using hy))
  obtain ⟨w', h4, h5, h6⟩ := r.sim.splice hi ho (o := o) hr (by simp; omega) (by
   intro c hc
   obtain ⟨j, hj⟩ := Dt hc
   have hjl : j < vs.toList.length := by rw [hr.length]; exact (Av.1 hj).1
   have hx := At hjl
   obtain ⟨c', hc', hv⟩ := hr.get hx
   rw [hj] at hc'; cases hc'
   exact hv.one (Ai.1 h1 _ (Ej hjl)))
  have hz : (φ i).o = 0 := by
   obtain ⟨_, _, _, h2, _⟩ := r.sim.owned hi ho
   exact h2.1
  refine ⟨w', φ, _, ?_, kk, h5, h6⟩
  have : cs.size = sz := by omega
  simp [execOp, e1, e2, Instr.storeAt, Instr.sureAddr, storeVar, ti.size, Value.cells, hz, h4, this]
variable {P : Program} {ρ : Operand → Value} {h : Heap} {K : Value → Heap → Prop} {dst : Option Tmp} {ty : TypeId} {pos : String} {aft : Array Edge} {g : Option (Nat × Bool)}
theorem qgk {t : TypeId} {x : Operand} {f i o sz by_ : Nat} {z : Value} {s : Option Nat} {fs : Array Field} {fld : Field} [td : TyD P t (.struct fs)] (hf : fs[f]? = some fld) [ti : TyI P fld.type sz by_ z]
  (hz : (sz == 0) = false) (hx : ρ x = .pointer (some ⟨i, o, s⟩)) (kk : K (.pointer (some ⟨i, o + fld.offset, none⟩)) h) : AOp P ⟨dst, .fieldAddr t x f, ty, pos, aft, g⟩ ρ h K :=
 .of_pure kk fun φ ac w r => by
  obtain ⟨_, hlt, e1⟩ := (hx ▸ r.ev x (by simp [Op.operands])).ptr_inv
  have hz' : ¬ sz = 0 := by simpa using hz
  refine ⟨.pointer (some ⟨(φ i).b, (φ i).o + (o + fld.offset), none⟩), ?_, .ptr _ _ hlt⟩
  simp [execOp, e1, Instr.fieldAt, Instr.sureAddr, td.run, hf, fieldPlace, ti.size, hz', Addr.add_lit, Nat.add_assoc]
theorem qeI {t e : TypeId} {x y : Operand} {i o len cap sz by_ : Nat} {z : Value} {s : Option Nat} {k : IntKind} {a : Int} [td : TyD P t (.slice e)] [ti : TyI P e sz by_ z]
  (hx : ρ x = .slice (some ⟨i, o, s⟩) len cap) (hy : ρ y = .int k a) (h0 : 0 ≤ a) (h1 : a < len) (kk : K (.pointer (some ⟨i, o + a.toNat * sz, none⟩)) h) : AOp P ⟨dst, .indexAddr t x y, ty, pos, aft, g⟩ ρ h K :=
 .of_pure kk fun φ ac w r => by
  obtain ⟨cap', a', e1, hlt, q1, q2, q3, q4, q5, q6⟩ := (hx ▸ r.ev x (by simp [Op.operands])).slice_inv
  have e2 := (hy ▸ r.ev y (by simp [Op.operands])).int_inv
  have e3 : a' = ⟨(φ i).b, (φ i).o + o, none⟩ := q4.resolve_right (by omega)
  refine ⟨.pointer (some ⟨(φ i).b, (φ i).o + (o + a.toNat * sz), none⟩), ?_, .ptr _ _ hlt⟩
  simp [execOp, e1, e2, e3, Instr.indexAt, asIntOf, td.run, h0, h1, ti.size, Addr.add_lit, Nat.add_assoc]
theorem qaK {t : TypeId} {x y : Operand} {k : IntKind} {a : Int} {st : ByteArray} {b : UInt8} [td : TyD P t .string]
  (hx : ρ x = .string st) (hy : ρ y = .int k a) (h0 : 0 ≤ a) (hb : st[a.toNat]? = some b) (kk : K (.int .u8 b.toNat) h) : AOp P ⟨dst, .index t x y, ty, pos, aft, g⟩ ρ h K :=
 .of_pure kk fun φ ac w r => by
  have e1 := (hx ▸ r.ev x (by simp [Op.operands])).string_inv
  have e2 := (hy ▸ r.ev y (by simp [Op.operands])).int_inv
  refine ⟨_, ?_, .int _ _⟩
  simp [execOp, e1, e2, Instr.index, asIntOf, td.run, h0, hb]
theorem qdY {t : TypeId} {x : Operand} {f : Nat} {fs : Array Field} {fld : Field} {d : TypeDesc} {vs : Array Value} {v : Value} [td : TyD P t (.struct fs)] (hf : fs[f]? = some fld) [te : TyD P fld.type d] (ha : aggB d = false)
  (hx : ρ x = .agg vs) (hv : vs[fld.offset]? = some v) (kk : K v h) : AOp P ⟨dst, .field t x f, ty, pos, aft, g⟩ ρ h K :=
 .of_pure kk fun φ ac w r => by
  obtain ⟨cs, e1, hs, hr⟩ := (hx ▸ r.ev x (by simp [Op.operands])).agg_inv
  have hl : fld.offset < cs.size := by rw [← hs]; exact (Az.1 hv).1
  have hc := Ar hl
  refine ⟨cs[fld.offset], ?_, hr _ _ _ hv hc⟩
  simp [execOp, e1, Instr.field, asAgg, td.run, hf, part, te.isAgg, ha, hc]
def bnd (ρ : Operand → Value) (x : Option Operand) (d : Int) : Option Int :=
 match x with
 | none => some d
 | some x => match ρ x with
  | .int _ n => some n
  | _ => none
theorem bnd_run {x : Option Operand} {d n : Int} {φ : Ren} {ac : Act} (r : ∀ y, x = some y → VRel φ h.next (ρ y) (ac.eval y)) (hb : bnd ρ x d = some n) : (x = none ∧ n = d) ∨ ∃ y k, x = some y ∧ ac.eval y = .int k n := by
 cases x with
 | none => simp [bnd] at hb; exact .inl ⟨rfl, hb.symm⟩
 | some y =>
  simp only [bnd] at hb
  split at hb
  ·
   rename_i k m he
   cases hb
   exact .inr ⟨y, k, rfl, (he ▸ r y rfl).int_inv⟩
  ·
   cases hb
theorem qbL {k : IntKind} {n : Int} {y : Nat} {c : BoundsCode} (w : World) (h0 : 0 ≤ n) (h1 : n ≤ y) : (Instr.sliceBound (.int k n) y c).run P w = .ok n.toNat w := by
 simp [Instr.sliceBound, asIntOf, h0, h1]
theorem qb0 {isS : Bool} {len cap : Nat} {lo hi : Option Operand} {l m : Int} {φ : Ren} {ac : Act} {w : World} (rl : ∀ y, lo = some y → VRel φ h.next (ρ y) (ac.eval y)) (rh : ∀ y, hi = some y → VRel φ h.next (ρ y) (ac.eval y)) (hl : bnd ρ lo 0 = some l) (hm : bnd ρ hi len = some m)
  (h0 : 0 ≤ l) (h1 : l ≤ m) (h2 : m ≤ len) (h3 : len ≤ cap) : (Instr.sliceBounds isS len cap (lo.map ac.eval) (hi.map ac.eval) none).run P w = .ok (l.toNat, m.toNat, cap) w := by
 rcases bnd_run rl hl with ⟨rfl, rfl⟩ | ⟨y, k, rfl, e1⟩ <;> rcases bnd_run rh hm with ⟨rfl, rfl⟩ | ⟨y', k', rfl, e2⟩
 ·
  simp [Instr.sliceBounds]
 ·
  simp only [Instr.sliceBounds, Option.map_none, Dm, e2]
  have : m ≤ (cap : Int) := by omega
  simp [qbL w (by omega : 0 ≤ m) this]
 ·
  simp only [Instr.sliceBounds, Option.map_none, Dm, e1]
  simp [qbL w h0 h1]
 ·
  simp only [Instr.sliceBounds, Dm, e1, e2]
  have h4 : m ≤ (cap : Int) := by omega
  have h5 : l ≤ (m.toNat : Int) := by omega
  simp [qbL w (by omega : 0 ≤ m) h4, qbL w h0 h5]
theorem op_slice {t e : TypeId} {x : Operand} {lo hi : Option Operand} {i o len cap sz by_ : Nat} {z : Value} {s : Option Nat} {l m : Int} [td : TyD P t (.slice e)] [ti : TyI P e sz by_ z]
  (hx : ρ x = .slice (some ⟨i, o, s⟩) len cap) (hl : bnd ρ lo 0 = some l) (hm : bnd ρ hi len = some m) (h0 : 0 ≤ l) (h1 : l ≤ m) (h2 : m ≤ len) (hs : s = none ∨ s = some sz)
  (kk : K (.slice (some ⟨i, o + l.toNat * sz, s⟩) (m - l).toNat (cap - l.toNat)) h) : AOp P ⟨dst, .slice t x lo hi none, ty, pos, aft, g⟩ ρ h K :=
 .of_pure kk fun φ ac w r => by
  obtain ⟨cap', a', e1, hlt, q1, q2, q3, q4, q5, q6⟩ := (hx ▸ r.ev x (by simp [Op.operands])).slice_inv
  have hb := qb0 (P := P) (w := w) (isS := true) (cap := cap') (fun y hy => r.ev y (by subst hy; simp [Op.operands])) (fun y hy => r.ev y (by subst hy; simp [Op.operands])) hl hm h0 h1 h2 q2
  refine ⟨.slice (some (if cap' = l.toNat then a' else a'.add (l.toNat * sz))) (m - l).toNat (cap' - l.toNat), ?_, ?_⟩
  ·
   have e5 : m.toNat - l.toNat = (m - l).toNat := by omega
   by_cases hc : cap' = l.toNat
   ·
    subst hc; simp [execOp, e1, Instr.sliceAt, td.run, Instr.slice, hb, ti.size, e5]
   ·
    simp [execOp, e1, Instr.sliceAt, td.run, Instr.slice, hb, ti.size, hc, e5]
  ·
   refine .slice _ _ _ _ _ _ _ hlt (by omega) (by omega) (by omega) ?_ (by omega) ?_
   ·
    by_cases hc : cap' = l.toNat
    ·
     exact .inr (by omega)
    ·
     rw [Ac hc]
     rcases q4 with q4 | q4
     ·
      subst q4; exact .inl (by rw [Addr.add_lit, Eb])
     ·
      exact .inr (by omega)
   ·
    intro t ht
    have h6 := q6 t ht
    rcases hs with hs | hs
    ·
     rw [hs] at ht; cases ht
    ·
     rw [hs] at ht; cases ht
     have : l.toNat * sz + (cap' - l.toNat) * sz = cap' * sz := by rw [← Dk]; congr 1; omega
     omega
theorem qhs {t e : TypeId} {x : Operand} {lo hi : Option Operand} {sz by_ : Nat} {z : Value} {k m : Nat} [td : TyD P t (.slice e)] [ti : TyI P e sz by_ z]
  (hx : ρ x = .slice none k m) (hl : bnd ρ lo 0 = some 0) (hm : bnd ρ hi 0 = some 0) (kk : K (.slice none 0 0) h) : AOp P ⟨dst, .slice t x lo hi none, ty, pos, aft, g⟩ ρ h K :=
 .of_pure kk fun φ ac w r => by
  obtain ⟨_, _, e1⟩ := (hx ▸ r.ev x (by simp [Op.operands])).nilSlice_inv
  have hb := qb0 (P := P) (w := w) (isS := true) (len := 0) (cap := 0) (fun y hy => r.ev y (by subst hy; simp [Op.operands])) (fun y hy => r.ev y (by subst hy; simp [Op.operands])) hl hm (Int.le_refl _) (Int.le_refl _) (Int.le_refl _) (Aa _)
  refine ⟨.slice none 0 0, ?_, .nilSlice⟩
  simp [execOp, e1, Instr.sliceAt, td.run, Instr.slice, hb, ti.size]
theorem qhU {t : TypeId} {x : Operand} {lo hi : Option Operand} {st : ByteArray} {l m : Int} [td : TyD P t .string]
  (hx : ρ x = .string st) (hl : bnd ρ lo 0 = some l) (hm : bnd ρ hi st.size = some m) (h0 : 0 ≤ l) (h1 : l ≤ m) (h2 : m ≤ st.size)
  (kk : K (.string (st.extract l.toNat m.toNat)) h) : AOp P ⟨dst, .slice t x lo hi none, ty, pos, aft, g⟩ ρ h K :=
 .of_pure kk fun φ ac w r => by
  have e1 := (hx ▸ r.ev x (by simp [Op.operands])).string_inv
  have hb := qb0 (P := P) (w := w) (isS := false) (cap := st.size) (fun y hy => r.ev y (by subst hy; simp [Op.operands])) (fun y hy => r.ev y (by subst hy; simp [Op.operands])) hl hm h0 h1 h2 (Aa _)
  refine ⟨_, ?_, .string _⟩
  simp [execOp, e1, Instr.sliceAt, td.run, Instr.slice, hb]
theorem qch {x : Operand} {t e : TypeId} {a : Option Addr} {n c : Nat} [td : TyD P t (.slice e)] (hx : ρ x = .slice a n c) (kk : K (.int .i64 n) h) :
  AOp P ⟨dst, .call ⟨.builtin .len, #[x], #[t]⟩, ty, pos, aft, g⟩ ρ h K :=
 .of_pure kk fun φ ac w r => by
  have hv := hx ▸ r.ev x (by simp [Op.operands, Call.operands])
  refine ⟨_, ?_, .int _ _⟩
  have he : ∃ a', ac.eval x = .slice a' n (match ac.eval x with | .slice _ _ c => c | _ => 0) := by
   cases a with
   | none => obtain ⟨e1, e2, e3⟩ := hv.nilSlice_inv; exact ⟨none, by rw [e3]; simp [e1]⟩
   | some a =>
    obtain ⟨i, o, s⟩ := a
    obtain ⟨cap', a', e1, _⟩ := hv.slice_inv
    exact ⟨some a', by rw [e1]⟩
  obtain ⟨a', he⟩ := he
  simp only [execOp, resolve, Sem.run_bind, Sem.run_pure, Result.andThen_ok, invoke, builtin]
  generalize (match ac.eval x with | .slice _ _ c => c | _ => 0) = c' at he
  simp [he, Builtin.len_, td.run, goInt]
theorem qgq {x : Operand} {t : TypeId} {st : ByteArray} [td : TyD P t .string] (hx : ρ x = .string st) (kk : K (.int .i64 st.size) h) :
  AOp P ⟨dst, .call ⟨.builtin .len, #[x], #[t]⟩, ty, pos, aft, g⟩ ρ h K :=
 .of_pure kk fun φ ac w r => by
  have e1 := (hx ▸ r.ev x (by simp [Op.operands, Call.operands])).string_inv
  refine ⟨_, ?_, .int _ _⟩
  simp [execOp, resolve, invoke, builtin, e1, Builtin.len_, td.run, goInt]
theorem op_min2 {x y : Operand} {k k' : IntKind} {a b : Int} {aT : Array TypeId} (hx : ρ x = .int k a) (hy : ρ y = .int k' b) (kk : K (.int k (if b < a then b else a)) h) :
  AOp P ⟨dst, .call ⟨.builtin .min, #[x, y], aT⟩, ty, pos, aft, g⟩ ρ h K :=
 .of_pure kk fun φ ac w r => by
  have e1 := (hx ▸ r.ev x (by simp [Op.operands, Call.operands])).int_inv
  have e2 := (hy ▸ r.ev y (by simp [Op.operands, Call.operands])).int_inv
  refine ⟨_, ?_, .int _ _⟩
  simp [execOp, resolve, invoke, builtin, e1, e2, Builtin.min_, Builtin.min2]
variable {P : Program} {ρ : Operand → Value} {h : Heap} {K : Value → Heap → Prop} {dst : Option Tmp} {ty : TypeId} {pos : String} {aft : Array Edge} {g : Option (Nat × Bool)}
theorem VRel.newSlice {φ : Ren} {h : Heap} {b l len cap cap' : Nat} {s : Option Nat} (h1 : len ≤ cap) (h2 : len ≤ cap') (h3 : (cap = len → cap' = len) ∧ (18446744073709551616 ≤ cap → cap' + 18446744073709551616 = cap)) (h5 : cap' ≤ maxLen) (h6 : ∀ t, s = some t → cap' * t ≤ l) :
  VRel (Ren.put φ h.next ⟨b, 0, l⟩) (h.next + 1) (.slice (some ⟨h.next, 0, s⟩) len cap) (.slice (some ⟨b, 0, none⟩) len cap') :=
 .slice _ _ _ _ _ _ _ (by omega) h1 h2 h3 (.inl (by rw [bM])) h5 (by rw [bM]; intro t ht; simpa using h6 t ht)
theorem qdb (z : Value) (n : Nat) (hz : z.cells = #[z]) : madeCells z.cells n = Array.replicate n z := by
 apply Array.ext
 ·
  simp [madeCells]
 ·
  intro i h1 h2
  have e1 : i % 1 = 0 := by omega
  simp [madeCells, hz, e1]
theorem op_make {t e : TypeId} {x y : Operand} {by_ : Nat} {z : Value} {k k' : IntKind} {l c : Int} [td : TyD P t (.slice e)] [ti : TyI P e 1 by_ z] (hx : ρ x = .int k l) (hy : ρ y = .int k' c)
  (h0 : 0 ≤ l) (h1 : l ≤ c) (h2 : (by_ : Int) * c ≤ 281474976710656) (h3 : c ≤ 9223372036854775807) (hz : oneB z = true)
  (kk : K (.slice (some ⟨h.next, 0, some 1⟩) l.toNat c.toNat) (h.alloc ⟨List.replicate l.toNat z, e, true⟩)) : AOp P ⟨dst, .makeSlice t x y, ty, pos, aft, g⟩ ρ h K :=
 .of_run fun φ ac w r => by
  have e1 := (hx ▸ r.ev x (by simp [Op.operands])).int_inv
  have e2 := (hy ▸ r.ev y (by simp [Op.operands])).int_inv
  obtain ⟨i, i1, i2, i3, i4⟩ := ti.ex
  subst i3
  have hr := run_make (P := P) w t e i z td.eq i1 i4 k k' l c h0 h1 h2 h3
  have hzc : z.cells = #[z] := by cases z <;> first | rfl | (simp [oneB] at hz)
  have hzs : scalar z = true := by
   have := ti.plain
   rw [hzc] at this
   simpa using this
  rw [i2, Ed, qdb z _ hzc] at hr
  obtain ⟨s1, s2⟩ := r.sim.alloc (List.replicate l.toNat z) (Array.replicate c.toNat z) e (0, 0) (.inl rfl) (by simp; omega) (fun j v hj => by
   have hj' := List.getElem?_replicate (n := l.toNat) (a := z) (i := j)
   rw [hj'] at hj
   split at hj
   ·
    cases hj
    exact ⟨z, by simp [Array.getElem?_replicate]; omega, .of_scalar hzs⟩
   ·
    cases hj)
  refine ⟨_, _, _, _, _, by simp [execOp, e1, e2, hr]; rfl, kk, ?_, s1, s2⟩
  refine .newSlice (by omega) (by omega) (by omega) (by simp only [maxLen]; omega) ?_
  intro t ht
  cases ht
  simp
inductive Src (h : Heap) (sz : Nat) : Value → Nat → List Value → Prop
 | nil : Src h sz (.slice none 0 0) 0 []
 | empty (a : Addr) (c : Nat) : Src h sz (.slice (some a) 0 c) 0 []
 | slice (i o : Nat) (s : Option Nat) (m c : Nat) (b : Blk) (hi : h.get i = some b) (hl : o + m * sz ≤ b.cells.length) : Src h sz (.slice (some ⟨i, o, s⟩) m c) m ((b.cells.drop o).take (m * sz))
 | str (st : ByteArray) (h1 : sz = 1) : Src h sz (.string st) st.size (st.data.toList.map fun b => .int .u8 b.toNat)
theorem Src.run {sz : Nat} {v : Value} {m : Nat} {news : List Value} (s : Src h sz v m news) {φ : Ren} {w : World} (sm : Sim P φ h w) {c : Value} (hv : VRel φ h.next v c) :
  ∃ cs, VRels φ h.next news cs ∧ cs.length = m * sz ∧ (∀ w2 : World, (Builtin.lenOf c).run P w2 = .ok m w2) ∧ ∀ w2 : World, w2.heap = w.heap → (Builtin.firstCells sz m c).run P w2 = .ok cs.toArray w2 := by
 cases s with
 | nil =>
  obtain ⟨_, _, rfl⟩ := hv.nilSlice_inv
  exact ⟨[], .nil, by simp, fun _ => rfl, fun _ _ => rfl⟩
 | empty a cc =>
  obtain ⟨i, o, s⟩ := a
  obtain ⟨cap', a', rfl, _⟩ := hv.slice_inv
  refine ⟨[], .nil, by simp, fun _ => rfl, fun w2 _ => ?_⟩
  simp only [Builtin.firstCells, Nat.zero_mul]
  rfl
 | slice i o s _ cc b hi hl =>
  obtain ⟨cap', a', rfl, hlt, q1, q2, q3, q4, q5, q6⟩ := hv.slice_inv
  by_cases hm : m = 0
  ·
   subst hm
   refine ⟨[], by simp; exact .nil, by simp, fun _ => rfl, fun w2 _ => ?_⟩
   simp only [Builtin.firstCells, Nat.zero_mul]
   rfl
  ·
   obtain rfl := q4.resolve_right (by omega)
   obtain ⟨cs, h1, h2, h3⟩ := sm.row hi o (m * sz) hl
   refine ⟨cs, h1, h2, fun _ => rfl, fun w2 hw => ?_⟩
   have := run_loadCells_list (P := P) w2 _ cs (fun j v hj => by
    have := h3 j v hj
    rw [World.cell?_of_block (w := w) (by rw [hw])]
    exact this)
   rw [h2] at this
   exact this
 | str st h1 =>
  obtain rfl := hv.string_inv
  subst h1
  refine ⟨st.data.toList.map fun b => .int .u8 b.toNat, cI (Ai.2 (by intro v hv; obtain ⟨b, _, rfl⟩ := Bp.1 hv; rfl)), by simp, fun _ => rfl, fun w2 _ => ?_⟩
  simp only [Builtin.firstCells, Sem.run_pure]
  congr 1
  have : (st.extract 0 st.size) = st := by
   apply ByteArray.ext
   simp
  rw [this]
  apply Array.ext'
  simp
def appB : TypeDesc → Bool
 | .slice _ => true
 | .string => true
 | _ => false
theorem qe9 {d : TypeDesc} (h : appB d = true) : (∃ e, d = .slice e) ∨ d = .string := by
 cases d <;> first | exact .inl ⟨_, rfl⟩ | exact .inr rfl | (simp [appB] at h)
theorem qfw {t t2 e : TypeId} {d2 : TypeDesc} {ty : TypeId} {sz by_ : Nat} {z : Value} [td : TyD P t (.slice e)] [t2d : TyD P t2 d2] [ti : TyI P e sz by_ z] (hd2 : appB d2 = true) (w : World)
  (base : Option Addr) (n cap m : Nat) (x : Value) (olds news : List Value) (hln : ∀ w2 : World, (Builtin.lenOf x).run P w2 = .ok m w2) (hnews : ∀ w2 : World, w2.heap = w.heap → (Builtin.firstCells sz m x).run P w2 = .ok news.toArray w2)
  (_ : news.length = m * sz) (holds : ∀ w2 : World, w2.heap = w.heap → (Builtin.firstCells sz n (.slice base n cap)).run P w2 = .ok olds.toArray w2)
  (h1 : n + m ≤ maxLen) (h2 : (n + m) * by_ ≤ 140737488355328) :
  (Builtin.append_ #[t, t2] ty #[.slice base n cap, x]).run P w =
   if n + m ≤ cap then (match base with | some a => (storeCells (a.add (n * sz)) news).run P w | none => .ok () w).andThen fun _ w' => .ok (.slice base (n + m) cap) w'
   else .ok (.slice (some ⟨w.heap.size, 0, none⟩) (n + m) (grownCap w (n + m) cap e)) (w.drew.alloc (.cells ((olds ++ news).toArray ++ Builtin.zeroCells z.cells (grownCap w (n + m) cap e - (n + m))) e)) := by
 obtain ⟨i, i1, i2, i3, i4⟩ := ti.ex
 have ht : ∀ w2 : World, (underlying t).run P w2 = .ok (.slice e) w2 := fun w2 => td.run w2
 have ht2 : ∀ w2 : World, (underlying t2).run P w2 = .ok d2 w2 := fun w2 => t2d.run w2
 have hsz : ∀ w2 : World, (sizeOf e).run P w2 = .ok sz w2 := fun w2 => ti.size w2
 have hn1 := hnews w rfl
 have hnd := hnews w.drew rfl
 have hod := holds w.drew rfl
 by_cases hc : n + m ≤ cap
 ·
  rw [Ah hc]
  rcases qe9 hd2 with ⟨e2, rfl⟩ | rfl <;> cases base <;> simp [Builtin.append_, ht, ht2, hsz, hln, hc, hn1]
 ·
  rw [Ac hc]
  have hfit : Builtin.nextslicecap (n + m) cap * i.bytes ≤ 281474976710656 := by rw [i3]; exact growslice_fits (by omega) h2
  have h63 : ¬ (9223372036854775807 < ((n : Int) + (m : Int))) := by simp only [maxLen] at h1; omega
  have h48 : ¬ (281474976710656 < Builtin.nextslicecap (n + m) cap * i.bytes) := by omega
  rcases qe9 hd2 with ⟨e2, rfl⟩ | rfl <;> simp [Builtin.append_, ht, ht2, hsz, hln, hc, h63, h48, typeInfo, i1, zeroValue, i4, Question.forced, hod, hnd, newRow, grownCap] <;> (congr 2; apply Array.ext'; simp)
theorem qgD {φ : Ren} {w : World} (sm : Sim P φ h w) {e : TypeId} {sz by_ : Nat} {z : Value} [ti : TyI P e sz by_ z] {xs cs : List Value} (hr : VRels φ h.next xs cs) {n cap : Nat} (hl : cs.length = n * sz) (h1 : n ≤ maxLen) (w1 : World) (hw : w1 = w.drew.alloc (.cells (cs.toArray ++ Builtin.zeroCells z.cells (grownCap w n cap e - n)) e)) :
  ∃ φ', VRel φ' (h.next + 1) (.slice (some ⟨h.next, 0, some sz⟩) n (n + 1)) (.slice (some ⟨w.heap.size, 0, none⟩) n (grownCap w n cap e)) ∧ Sim P φ' (h.alloc ⟨xs, e, true⟩) w1 ∧ Step φ h w φ' (h.alloc ⟨xs, e, true⟩) w1 := by
 subst hw
 have hge := grownCap_ge w n cap e
 have hle := grownCap_le_maxLen w n cap e h1
 have hsz : (cs.toArray ++ Builtin.zeroCells z.cells (grownCap w n cap e - n)).size = grownCap w n cap e * sz := by
  simp only [Array.size_append, Ef, size_zeroCells, ti.sz, hl, ← Dk]
  congr 1
  omega
 obtain ⟨s1, s2⟩ := sm.drew.alloc xs (cs.toArray ++ Builtin.zeroCells z.cells (grownCap w n cap e - n)) e (0, 0) (.inl rfl) (by simp [hr.length]) (fun k v hk => by
  obtain ⟨c, hc, hv⟩ := hr.get hk
  refine ⟨c, ?_, hv⟩
  rw [Array.getElem?_append_left (by simpa using (Av.1 hc).1)]
  simpa using hc)
 refine ⟨_, ?_, s1, Step.drew.trans s2⟩
 refine .newSlice (by omega) hge (by simp only [maxLen] at *; omega) hle ?_
 intro t ht
 cases ht
 rw [hsz]
 exact Aa _
variable {t t2 e : TypeId} {d2 : TypeDesc} {x y : Operand} {sz by_ : Nat} {z : Value}
theorem qbY (ac : Act) (aT : Array TypeId) (w : World) {c : Value} {w' : World} (hr : (Builtin.append_ aT ty #[ac.eval x, ac.eval y]).run P w = .ok c w') :
  (execOp ac.eval ⟨dst, .call ⟨.builtin .append, #[x, y], aT⟩, ty, pos, aft, g⟩).run P w = .ok (.value c) w' := by
 simp [execOp, resolve, invoke, builtin, hr]
theorem qdG {v : Value} {m : Nat} {news : List Value} [td : TyD P t (.slice e)] [t2d : TyD P t2 d2] [ti : TyI P e sz by_ z] (hd2 : appB d2 = true) (hx : ρ x = .slice none 0 0) (hy : ρ y = v) (hs : Src h sz v m news)
  (h1 : m ≤ maxLen) (h2 : m * by_ ≤ 140737488355328) (k0 : m = 0 → K (.slice none 0 0) h) (k1 : 0 < m → K (.slice (some ⟨h.next, 0, some sz⟩) m (m + 1)) (h.alloc ⟨news, e, true⟩)) :
  AOp P ⟨dst, .call ⟨.builtin .append, #[x, y], #[t, t2]⟩, ty, pos, aft, g⟩ ρ h K :=
 .of_run fun φ ac w r => by
  obtain ⟨_, _, e1⟩ := (hx ▸ r.ev x (by simp [Op.operands, Call.operands])).nilSlice_inv
  obtain ⟨cs, q1, q2, q3, q4⟩ := hs.run r.sim (hy ▸ r.ev y (by simp [Op.operands, Call.operands]))
  have hr := qfw (P := P) (ty := ty) (t := t) (t2 := t2) (z := z) hd2 w none 0 0 m (ac.eval y) [] cs q3 q4 q2 (fun _ _ => rfl) (by omega) (by simpa using h2)
  rw [← e1] at hr
  by_cases hm : m = 0
  ·
   subst hm
   simp only [Dw, Aa, if_true, Result.andThen_ok] at hr
   exact ⟨_, w, φ, h, _, qbY ac _ w hr, k0 rfl, .nilSlice, r.sim, Step.refl _ _ _⟩
  ·
   rw [Ac (by omega)] at hr
   simp only [Dx, Ct] at hr
   obtain ⟨φ', v1, v2, v3⟩ := qgD (P := P) r.sim (e := e) (cap := 0) q1 q2 h1 _ rfl
   refine ⟨_, _, φ', _, _, qbY ac _ w hr, k1 (by omega), v1, ?_, ?_⟩
   ·
    simpa using v2
   ·
    simpa using v3
theorem qgx {i n cap : Nat} {b : Blk} {v : Value} {m : Nat} {news : List Value} [td : TyD P t (.slice e)] [t2d : TyD P t2 d2] [ti : TyI P e sz by_ z] (hd2 : appB d2 = true)
  (hx : ρ x = .slice (some ⟨i, 0, some sz⟩) n cap) (hy : ρ y = v) (hi : h.get i = some b) (ho : b.own = true) (he : b.elem = e) (hn : b.cells.length = n * sz) (hs : Src h sz v m news) (hone : news.all oneB = true)
  (h1 : n + m ≤ maxLen) (h2 : (n + m) * by_ ≤ 140737488355328) (kk : K (.slice (some ⟨h.next, 0, some sz⟩) (n + m) (n + m + 1)) ((h.kill i).alloc ⟨b.cells ++ news, e, true⟩)) :
  AOp P ⟨dst, .call ⟨.builtin .append, #[x, y], #[t, t2]⟩, ty, pos, aft, g⟩ ρ h K :=
 .of_run fun φ ac w r => by
  obtain ⟨cap', a', e1, hlt, p1, p2, p3, p4, p5, p6⟩ := (hx ▸ r.ev x (by simp [Op.operands, Call.operands])).slice_inv
  obtain ⟨cs, q1, q2, q3, q4⟩ := hs.run r.sim (hy ▸ r.ev y (by simp [Op.operands, Call.operands]))
  obtain ⟨arr, fr, a1, ⟨a2, a2'⟩, a3, a4, a5⟩ := r.sim.owned hi ho
  have hlim := p6 sz rfl
  have hsrc : Src h sz (.slice (some ⟨i, 0, some sz⟩) n cap) n b.cells := by
   have := Src.slice (h := h) (sz := sz) i 0 (some sz) n cap b hi (by omega)
   rwa [Du, Cr (by omega)] at this
  obtain ⟨os, o1, o2, _, o4⟩ := hsrc.run r.sim (hx ▸ r.ev x (by simp [Op.operands, Call.operands]))
  rw [e1] at o4
  have hr := qfw (P := P) (ty := ty) (t := t) (t2 := t2) (z := z) hd2 w (some a') n cap' m (ac.eval y) os cs q3 q4 q2 o4 (by omega) h2
  rw [← e1] at hr
  by_cases hm : n + m ≤ cap'
  ·
   rw [Ah hm] at hr
   have hmm : (n + m) * sz ≤ cap' * sz := Bo _ hm
   rw [Dk] at hmm
   have hone' : ∀ c ∈ cs, c.oneCell' = true := by
    intro c hc
    obtain ⟨j, hj⟩ := Dt hc
    have hjl : j < news.length := by rw [q1.length]; exact (Av.1 hj).1
    have hx := At hjl
    obtain ⟨c', hc', hv⟩ := q1.get hx
    rw [hj] at hc'; cases hc'
    exact hv.one (Ai.1 hone _ (Ej hjl))
   by_cases hcs : cs = []
   ·
    subst hcs
    have hm0 : news = [] := by have := q1.length; simpa using this
    subst hm0
    have hst : (match some a' with | some a => (storeCells (a.add (n * sz)) []).run P w | none => .ok () w) = (.ok () w : Result Unit) := rfl
    simp only [storeCells, Sem.run_pure, Result.andThen_ok] at hr
    obtain ⟨s1, s2⟩ := r.sim.renumber hi ho
    have hb : (⟨b.cells ++ [], e, true⟩ : Blk) = b := by
     cases b
     simp_all
    refine ⟨_, w, Ren.put φ h.next (φ i), _, _, qbY ac _ w hr, kk, ?_, by rw [hb]; exact s1, by rw [hb]; exact s2⟩
    ·
     refine .slice _ _ _ _ _ _ _ (by simp [Heap.alloc, Heap.kill]) (by omega) hm (by simp only [maxLen] at *; omega) ?_ p5 (by rw [bM]; exact p6)
     rw [bM]; exact p4
   ·
    have hapos : cap' ≠ 0 := by
     intro hc0
     have : m = 0 := by omega
     rw [this] at q2
     exact hcs (Bu (by simpa using q2))
    obtain rfl := p4.resolve_right hapos
    simp only [a2, Dx, Addr.add_lit] at hr
    obtain ⟨w', hst, c1, c2, c3, c4⟩ := qco P (φ i).b b.elem fr cs (n * sz) 0 arr w a1 (a3.imp id And.left) (by omega) hone'
    rw [hst] at hr
    simp only [Result.andThen_ok] at hr
    simp only [Dw] at c4
    have hsl : (Eng.splice arr.toList (n * sz) cs).length = arr.size := by rw [qbc (by simp; omega)]; simp
    have hnl := q1.length
    obtain ⟨s1, s2⟩ := r.sim.write hi ho a1 (w' := w') (arr' := (Eng.splice arr.toList (n * sz) cs).toArray) (by simpa using hsl) (by simpa [hsl] using a3) c4 c1 c2 c3 (b.cells ++ news) (by simp [hsl]; omega) (by
     intro k v hk
     simp only [Cy]
     rw [qbo _ _ _ (by simp; omega)]
     by_cases hk1 : k < b.cells.length
     ·
      rw [Bs hk1] at hk
      rw [Ac (by omega)]
      simpa using a5 k v hk
     ·
      rw [Bn (by omega)] at hk
      have hlt := (Av.1 hk).1
      rw [Ah (by omega)]
      have := q1.get hk
      rwa [hn] at this)
    obtain ⟨s3, s4⟩ := s1.renumber (i := i) (b := ⟨b.cells ++ news, b.elem, true⟩) (by simp [Heap.set]) rfl
    have hh : ((h.set i ⟨b.cells ++ news, b.elem, true⟩).kill i).alloc ⟨b.cells ++ news, b.elem, true⟩ = (h.kill i).alloc ⟨b.cells ++ news, e, true⟩ := by
     simp only [Heap.alloc, Heap.kill, Heap.set, he, Heap.mk.injEq, and_true]
     funext j
     by_cases h1 : j = h.next
     ·
      simp [h1]
     ·
      by_cases h2 : j = i <;> simp [h1, h2]
    rw [hh] at s3 s4
    refine ⟨_, w', Ren.put φ h.next (φ i), _, _, qbY ac _ w hr, kk, ?_, s3, s2.trans s4⟩
    refine .slice _ _ _ _ _ _ _ (by simp [Heap.alloc, Heap.kill]) (by omega) hm (by simp only [maxLen] at *; omega) ?_ p5 ?_
    ·
     left
     show _ = (⟨(Ren.put φ h.next (φ i) h.next).b, (Ren.put φ h.next (φ i) h.next).o + 0, none⟩ : Addr)
     rw [bM, a2]
    ·
     show ∀ t, _ → _ ≤ (Ren.put φ h.next (φ i) h.next).l
     rw [bM]; exact p6
  ·
   rw [Ac hm] at hr
   have hall : VRels φ h.next (b.cells ++ news) (os ++ cs) := o1.append q1
   obtain ⟨φ', v1, v2, v3⟩ := qgD (P := P) r.sim (e := e) (cap := cap') hall (n := n + m) (by rw [An, o2, q2, Dk]) h1 _ rfl
   have hx' : ∀ j c, ((h.kill i).alloc ⟨b.cells ++ news, e, true⟩).get j = some c → (h.alloc ⟨b.cells ++ news, e, true⟩).get j = some c := by
    intro j c hj
    have : (if j = h.next then some ⟨b.cells ++ news, e, true⟩ else if j = i then none else h.get j) = some c := hj
    show (if j = h.next then some ⟨b.cells ++ news, e, true⟩ else h.get j) = some c
    split at this
    ·
     rename_i hjn; rw [Ah hjn]; exact this
    ·
     rename_i hjn
     rw [Ac hjn]
     split at this
     ·
      cases this
     ·
      exact this
   have v2' : Sim P φ' (h.alloc ⟨b.cells ++ news, e, true⟩) (w.drew.alloc (.cells ((os ++ cs).toArray ++ Builtin.zeroCells z.cells (grownCap w (n + m) cap' e - (n + m))) e)) := by simpa using v2
   have v3' : Step φ h w φ' (h.alloc ⟨b.cells ++ news, e, true⟩) (w.drew.alloc (.cells ((os ++ cs).toArray ++ Builtin.zeroCells z.cells (grownCap w (n + m) cap' e - (n + m))) e)) := by simpa using v3
   refine ⟨_, _, φ', _, _, qbY ac _ w ?_, kk, v1, v2'.forget rfl ⟨hx', fun _ _ hj => hj⟩, v3'.trans (dB rfl ⟨hx', fun _ _ hj => hj⟩)⟩
   simpa using hr
variable {P : Program} {ρ : Operand → Value} {h : Heap} {K : Value → Heap → Prop} {dst : Option Tmp} {ty : TypeId} {pos : String} {aft : Array Edge} {g : Option (Nat × Bool)}
def bv (l : List UInt8) : List Value := l.map fun b => .int .u8 (b.toNat : Int)
theorem qaE (l : List UInt8) : (bv l).length = l.length := by simp [bv]
theorem qbQ (a b : List UInt8) : bv (a ++ b) = bv a ++ bv b := by simp [bv]
theorem bv_scalar (l : List UInt8) : (bv l).all scalar = true := Ai.2 (by intro v hv; obtain ⟨b, _, rfl⟩ := Bp.1 hv; rfl)
theorem qcG (l : List UInt8) : (bv l).all oneB = true := Ai.2 (by intro v hv; obtain ⟨b, _, rfl⟩ := Bp.1 hv; rfl)
theorem qgJ (l : List UInt8) (i : Nat) (b : UInt8) (hb : l[i]? = some b) : (bv l)[i]? = some (.int .u8 (b.toNat : Int)) := by simp [bv, hb]
def bstr (l : List UInt8) : ByteArray := ⟨l.toArray⟩
theorem VRels.bytes {φ : Ren} {n : Nat} : ∀ {l : List UInt8} {cs : List Value}, VRels φ n (bv l) cs → cs = bv l
 | [], cs, r => by cases r; rfl
 | b :: l, cs, r => by
  cases r with
  | cons hv t => rw [hv.int_inv, VRels.bytes t]; rfl
theorem qhf {sT dT e : TypeId} {x : Operand} {i o m c : Nat} {s : Option Nat} {b : Blk} {l : List UInt8} [ts : TyD P sT (.slice e)] [te : TyD P e (.int .u8)] [td : TyD P dT .string] (hx : ρ x = .slice (some ⟨i, o, s⟩) m c)
  (hi : h.get i = some b) (hl : o + m ≤ b.cells.length) (hb : (b.cells.drop o).take m = bv l) (kk : K (.string (bstr l)) h) : AOp P ⟨dst, .convert sT dT x, ty, pos, aft, g⟩ ρ h K :=
 .of_pure kk fun φ ac w r => by
  obtain ⟨cap', a', e1, hlt, q1, q2, q3, q4, q5, q6⟩ := (hx ▸ r.ev x (by simp [Op.operands])).slice_inv
  have hll : l.length = m := by
   have := congrArg List.length hb
   simp [bv] at this
   omega
  refine ⟨.string (bstr l), ?_, .string _⟩
  have hcells : ∀ j (hj : j < l.length), w.cell? (a'.add j) = some (.int .u8 (l[j].toNat : Int)) := by
   intro j hj
   obtain rfl := q4.resolve_right (by omega)
   obtain ⟨cs, h1, h2, h3⟩ := r.sim.row hi o m hl
   rw [hb] at h1
   have hcs := h1.bytes
   refine h3 j _ ?_
   rw [hcs]
   exact qgJ l j _ (At hj)
  have hr := run_convert_bytes_back (P := P) w sT dT e a' cap' l ts.eq te.eq td.eq hcells
  rw [hll] at hr
  simp [execOp, e1, hr, bstr]
theorem op_nilStr {sT dT e : TypeId} {x : Operand} {m c : Nat} [ts : TyD P sT (.slice e)] [te : TyD P e (.int .u8)] [td : TyD P dT .string] (hx : ρ x = .slice none m c)
  (kk : K (.string ByteArray.empty) h) : AOp P ⟨dst, .convert sT dT x, ty, pos, aft, g⟩ ρ h K :=
 .of_pure kk fun φ ac w r => by
  obtain ⟨_, _, e1⟩ := (hx ▸ r.ev x (by simp [Op.operands])).nilSlice_inv
  exact ⟨_, by simp [execOp, e1, convert, ts.run, te.run, td.run, Conv.bytesToString], .string _⟩
theorem qhq {sT dT e : TypeId} {x : Operand} {st : ByteArray} [ts : TyD P sT .string] [te : TyD P e (.int .u8)] [td : TyD P dT (.slice e)] (hx : ρ x = .string st) (hs : st.size ≤ maxLen)
  (kk : K (.slice (some ⟨h.next, 0, some 1⟩) st.size (st.size + 1)) (h.alloc ⟨bv st.data.toList, e, true⟩)) : AOp P ⟨dst, .convert sT dT x, ty, pos, aft, g⟩ ρ h K :=
 .of_run fun φ ac w r => by
  have e1 := (hx ▸ r.ev x (by simp [Op.operands])).string_inv
  have hge := grownCap_ge w st.size 0 e
  have hle := grownCap_le_maxLen w st.size 0 e hs
  have hr := run_bytes_of_string (P := P) w sT dT e st ts.eq td.eq te.eq
  have hds : st.data.size = st.size := rfl
  have hsz : (bytesRow st (grownCap w st.size 0 e)).size = grownCap w st.size 0 e := by simp [bytesRow, hds]; omega
  obtain ⟨s1, s2⟩ := r.sim.drew.alloc (bv st.data.toList) (bytesRow st (grownCap w st.size 0 e)) e ((bytesRow st (grownCap w st.size 0 e)).size, (bytesRow st (grownCap w st.size 0 e)).size + 1)
   (.inr ⟨Aa _, te.eq⟩) (by rw [hsz]; simp [qaE, hds]; omega) (by
    intro k v hk
    refine ⟨v, ?_, ?_⟩
    ·
     have hkl : k < st.data.size := by simpa [bv] using (Av.1 hk).1
     rw [← hk]
     simp only [bytesRow, bv]
     rw [Array.getElem?_append_left (by simpa using hkl)]
     simp
    ·
     have := Ai.1 (bv_scalar st.data.toList) v (Aw hk)
     exact .of_scalar this)
  refine ⟨_, _, _, _, _, by simp [execOp, e1, hr]; rfl, kk, ?_, s1, Step.drew.trans s2⟩
  refine .newSlice (by omega) hge (by simp only [maxLen] at *; omega) hle ?_
  intro t ht
  cases ht
  rw [hsz]
  omega
theorem op_copyT {dT e : TypeId} {x y : Operand} {i o n c m by_ : Nat} {s : Option Nat} {z v : Value} {b : Blk} {news : List Value} {sT : TypeId} [td : TyD P dT (.slice e)] [ti : TyI P e 1 by_ z]
  (hx : ρ x = .slice (some ⟨i, o, s⟩) n c) (hy : ρ y = v) (hs : Src h 1 v m news) (hi : h.get i = some b) (ho : b.own = true) (hl : o + min m n ≤ b.cells.length) (hone : (news.take (min m n)).all oneB = true)
  (kk : K (.int .i64 (min m n : Nat)) (h.set i ⟨splice b.cells o (news.take (min m n)), b.elem, true⟩)) : AOp P ⟨dst, .call ⟨.builtin .copy, #[x, y], #[dT, sT]⟩, ty, pos, aft, g⟩ ρ h K :=
 .of_run fun φ ac w r => by
  obtain ⟨cap', a', e1, hlt, q1, q2, q3, q4, q5, q6⟩ := (hx ▸ r.ev x (by simp [Op.operands, Call.operands])).slice_inv
  obtain ⟨cs, p1, p2, p3, p4⟩ := hs.run r.sim (hy ▸ r.ev y (by simp [Op.operands, Call.operands]))
  have hml : news.length = m := by rw [p1.length, p2]; omega
  have hfirst : (Builtin.firstCells 1 (min m n) (ac.eval y)).run P w = .ok (cs.take (min m n)).toArray w := by
   have hv : VRel φ h.next v (ac.eval y) := hy ▸ r.ev y (by simp [Op.operands, Call.operands])
   cases hs with
   | nil => obtain ⟨_, _, e⟩ := hv.nilSlice_inv; rw [e]; simp at p2; subst p2; simp [Builtin.firstCells]
   | empty a cc =>
    obtain ⟨i', o', s'⟩ := a
    obtain ⟨cap'', a'', e, _⟩ := hv.slice_inv
    rw [e]; simp at p2; subst p2
    simp [Builtin.firstCells, loadCells, loadCellsFrom]
   | slice j p s' _ cc bj hj hlj =>
    obtain ⟨cap'', a'', e, hlt', u1, u2, u3, u4, u5, u6⟩ := hv.slice_inv
    rw [e]
    by_cases hm : min m n = 0
    ·
     rw [hm]; simp [Builtin.firstCells, loadCells, loadCellsFrom]
    ·
     obtain rfl := u4.resolve_right (by omega)
     obtain ⟨ds, d1, d2, d3⟩ := r.sim.row hj p (min m n) (by omega)
     have hfc := run_loadCells_list (P := P) w _ ds d3
     rw [d2] at hfc
     have hds : ds = cs.take (min m n) := by
      obtain ⟨es, f1, f2, f3⟩ := r.sim.row hj p (m * 1) (by omega)
      have hcs : cs = es := by
       have := run_loadCells_list (P := P) w _ es f3
       have h4 := p4 w rfl
       rw [e] at h4
       simp only [Builtin.firstCells] at h4
       rw [f2] at this
       rw [this] at h4
       simp at h4
       exact h4.symm
      rw [hcs]
      apply Eg
      intro k
      by_cases hk : k < min m n
      ·
       rw [Bt hk]
       have h5 := d3 k ds[k] (At (by omega))
       have h6 := f3 k es[k] (At (by omega))
       rw [h5] at h6
       rw [At (show k < ds.length by omega), At (show k < es.length by omega)]
       exact h6
      ·
       rw [Cc (by omega), Cc (by simp; omega)]
     rw [← hds]
     simpa [Builtin.firstCells] using hfc
   | str st h1 =>
    rw [hv.string_inv]
    have h4 := p4 w rfl
    rw [hv.string_inv] at h4
    simp only [Builtin.firstCells, Sem.run_pure] at h4 ⊢
    have h5 : (st.extract 0 st.size) = st := by
     apply ByteArray.ext
     simp
    rw [h5] at h4
    simp only [Result.ok.injEq, and_true] at h4 ⊢
    have h6 : cs = (st.data.map fun b => Value.int .u8 (b.toNat : Int)).toList := by rw [h4]
    rw [h6]
    apply Array.ext'
    simp
  have hr1 : VRels φ h.next (news.take (min m n)) (cs.take (min m n)) := .of (by simp [p1.length]) (fun j a b ha hb => by
   have hj : j < min m n := by have := (Av.1 ha).1; simp at this; omega
   rw [Bt hj] at ha hb
   obtain ⟨c', hc', hv⟩ := p1.get ha
   rw [hb] at hc'; cases hc'
   exact hv)
  have hone' : ∀ c ∈ cs.take (min m n), c.oneCell' = true := by
   intro c hc
   obtain ⟨j, hj⟩ := Dt hc
   have hjl : j < (news.take (min m n)).length := by rw [hr1.length]; exact (Av.1 hj).1
   obtain ⟨c', hc', hv⟩ := hr1.get (At hjl)
   rw [hj] at hc'; cases hc'
   exact hv.one (Ai.1 hone _ (Ej hjl))
  obtain ⟨w', h3, h4, h5⟩ := r.sim.splice hi ho (o := o) hr1 (by simp; omega) hone'
  have hz : (φ i).o = 0 := by
   obtain ⟨_, _, _, h2, _⟩ := r.sim.owned hi ho
   exact h2.1
  have hst : (storeCells a' (cs.take (min m n))).run P w = .ok () w' := by
   by_cases hc0 : cap' = 0
   ·
    have : min m n = 0 := by omega
    rw [this] at h3 ⊢
    exact h3
   ·
    obtain rfl := q4.resolve_right hc0
    rw [hz, Dx]
    exact h3
  refine ⟨_, w', φ, _, _, ?_, kk, .int _ _, h4, h5⟩
  have hmin : Nat.min m n = min m n := rfl
  simp [execOp, resolve, invoke, builtin, Builtin.copy_, td.run, p3, ti.size, e1, hmin, hfirst, hst, goInt]
theorem op_copy {dT e : TypeId} {x y : Operand} {i o n c m by_ : Nat} {s : Option Nat} {z v : Value} {b : Blk} {news : List Value} {sT : TypeId} [td : TyD P dT (.slice e)] [ti : TyI P e 1 by_ z]
  (hx : ρ x = .slice (some ⟨i, o, s⟩) n c) (hy : ρ y = v) (hs : Src h 1 v m news) (hi : h.get i = some b) (ho : b.own = true) (hl : o + min m n ≤ b.cells.length) (hone : news.all oneB = true)
  (kk : K (.int .i64 (min m n : Nat)) (h.set i ⟨splice b.cells o (news.take (min m n)), b.elem, true⟩)) : AOp P ⟨dst, .call ⟨.builtin .copy, #[x, y], #[dT, sT]⟩, ty, pos, aft, g⟩ ρ h K :=
 op_copyT hx hy hs hi ho hl (Ai.2 fun v hv => Ai.1 hone v (Cg hv)) kk
end Go.Eng
