/-
  Texts of one claim, merged: 3 parts.
-/
import Derived.Test.YtigmojilaadbhaaGreatDoorMdc
import Derived.Laws.IdiomStrings
set_option maxHeartbeats 16000000
/- . -/
namespace Go.Eng
open Go
variable {P : Program} {ρ : Operand → Value} {h : Heap} {K : Value → Heap → Prop} {dst : Option Tmp} {ty : TypeId} {pos : String} {aft : Array Edge} {g : Option (Nat × Bool)}
def bv (l : List UInt8) : List Value := l.map fun b => .int .u8 (b.toNat : Int)
theorem qaH (l : List UInt8) : (bv l).length = l.length := by simp [bv]
theorem qc4 (a b : List UInt8) : bv (a ++ b) = bv a ++ bv b := by simp [bv]
theorem bv_scalar (l : List UInt8) : (bv l).all scalar = true := List.all_eq_true.2 (by intro v hv; obtain ⟨b, _, rfl⟩ := List.mem_map.1 hv; rfl)
theorem qdS (l : List UInt8) : (bv l).all oneB = true := List.all_eq_true.2 (by intro v hv; obtain ⟨b, _, rfl⟩ := List.mem_map.1 hv; rfl)
theorem qgz (l : List UInt8) (i : Nat) (b : UInt8) (hb : l[i]? = some b) : (bv l)[i]? = some (.int .u8 (b.toNat : Int)) := by simp [bv, hb]
def bstr (l : List UInt8) : ByteArray := ⟨l.toArray⟩
theorem VRels.bytes {φ : Ren} {n : Nat} : ∀ {l : List UInt8} {cs : List Value}, VRels φ n (bv l) cs → cs = bv l
 | [], cs, r => by cases r; rfl
 | b :: l, cs, r => by
  cases r with
  | cons hv t => rw [hv.int_inv, VRels.bytes t]; rfl
theorem qhf {sT dT e : TypeId} {x : Operand} {i o m c : Nat} {s : Option Nat} {b : Blk} {l : List UInt8} [ts : TyD P sT (.slice e)] [te : TyD P e (.int .u8)] [td : TyD P dT .string] (hx : ρ x = .slice (some ⟨i, o, s⟩) m c)
  (hi : h.get i = some b) (hl : o + m ≤ b.cells.length) (hb : (b.cells.drop o).take m = bv l) (kk : K (.string (bstr l)) h) : AOp P ⟨dst, .convert sT dT x, ty, pos, aft, g⟩ ρ h K :=
 .of_pure kk fun φ ac w r => by
  obtain ⟨cap', a', e1, hlt, q1, q2, q3, q4, q5, q6⟩ := (hx ▸ r.ev x (by simp [Op.operands])).slice_inv
  have hll : l.length = m := by
   have := congrArg List.length hb
   simp [bv] at this
   omega
  refine ⟨.string (bstr l), ?_, .string _⟩
  have hcells : ∀ j (hj : j < l.length), w.cell? (a'.add j) = some (.int .u8 (l[j].toNat : Int)) := by
   intro j hj
   obtain rfl := q4.resolve_right (by omega)
   obtain ⟨cs, h1, h2, h3⟩ := r.sim.row hi o m hl
   rw [hb] at h1
   have hcs := h1.bytes
   refine h3 j _ ?_
   rw [hcs]
   exact qgz l j _ (List.getElem?_eq_getElem hj)
  have hr := run_convert_bytes_back (P := P) w sT dT e a' cap' l ts.eq te.eq td.eq hcells
  rw [hll] at hr
  simp [execOp, e1, hr, bstr]
theorem op_nilStr {sT dT e : TypeId} {x : Operand} {m c : Nat} [ts : TyD P sT (.slice e)] [te : TyD P e (.int .u8)] [td : TyD P dT .string] (hx : ρ x = .slice none m c)
  (kk : K (.string ByteArray.empty) h) : AOp P ⟨dst, .convert sT dT x, ty, pos, aft, g⟩ ρ h K :=
 .of_pure kk fun φ ac w r => by
  obtain ⟨_, _, e1⟩ := (hx ▸ r.ev x (by simp [Op.operands])).nilSlice_inv
  exact ⟨_, by simp [execOp, e1, convert, ts.run, te.run, td.run, Conv.bytesToString], .string _⟩
theorem qhC {sT dT e : TypeId} {x : Operand} {st : ByteArray} [ts : TyD P sT .string] [te : TyD P e (.int .u8)] [td : TyD P dT (.slice e)] (hx : ρ x = .string st) (hs : st.size ≤ maxLen)
  (kk : K (.slice (some ⟨h.next, 0, some 1⟩) st.size (st.size + 1)) (h.alloc ⟨bv st.data.toList, e, true⟩)) : AOp P ⟨dst, .convert sT dT x, ty, pos, aft, g⟩ ρ h K :=
 .of_run fun φ ac w r => by
  have e1 := (hx ▸ r.ev x (by simp [Op.operands])).string_inv
  have hge := grownCap_ge w st.size 0 e
  have hle := grownCap_le_maxLen w st.size 0 e hs
  have hr := run_bytes_of_string (P := P) w sT dT e st ts.eq td.eq te.eq
  have hds : st.data.size = st.size := rfl
  have hsz : (bytesRow st (grownCap w st.size 0 e)).size = grownCap w st.size 0 e := by simp [bytesRow, hds]; omega
  obtain ⟨s1, s2⟩ := r.sim.drew.alloc (bv st.data.toList) (bytesRow st (grownCap w st.size 0 e)) e ((bytesRow st (grownCap w st.size 0 e)).size, (bytesRow st (grownCap w st.size 0 e)).size + 1)
   (.inr ⟨Nat.le_refl _, te.eq⟩) (by rw [hsz]; simp [qaH, hds]; omega) (by
    intro k v hk
    refine ⟨v, ?_, ?_⟩
    ·
     have hkl : k < st.data.size := by simpa [bv] using (List.getElem?_eq_some_iff.1 hk).1
     rw [← hk]
     simp only [bytesRow, bv]
     rw [Array.getElem?_append_left (by simpa using hkl)]
     simp
    ·
     have := List.all_eq_true.1 (bv_scalar st.data.toList) v (List.mem_of_getElem? hk)
     exact .of_scalar this)
  refine ⟨_, _, _, _, _, by simp [execOp, e1, hr]; rfl, kk, ?_, s1, Step.drew.trans s2⟩
  refine .newSlice (by omega) hge (by simp only [maxLen] at *; omega) hle ?_
  intro t ht
  cases ht
  rw [hsz]
  omega
theorem op_copyT {dT e : TypeId} {x y : Operand} {i o n c m by_ : Nat} {s : Option Nat} {z v : Value} {b : Blk} {news : List Value} {sT : TypeId} [td : TyD P dT (.slice e)] [ti : TyI P e 1 by_ z]
  (hx : ρ x = .slice (some ⟨i, o, s⟩) n c) (hy : ρ y = v) (hs : Src h 1 v m news) (hi : h.get i = some b) (ho : b.own = true) (hl : o + min m n ≤ b.cells.length) (hone : (news.take (min m n)).all oneB = true)
  (kk : K (.int .i64 (min m n : Nat)) (h.set i ⟨splice b.cells o (news.take (min m n)), b.elem, true⟩)) : AOp P ⟨dst, .call ⟨.builtin .copy, #[x, y], #[dT, sT]⟩, ty, pos, aft, g⟩ ρ h K :=
 .of_run fun φ ac w r => by
  obtain ⟨cap', a', e1, hlt, q1, q2, q3, q4, q5, q6⟩ := (hx ▸ r.ev x (by simp [Op.operands, Call.operands])).slice_inv
  obtain ⟨cs, p1, p2, p3, p4⟩ := hs.run r.sim (hy ▸ r.ev y (by simp [Op.operands, Call.operands]))
  have hml : news.length = m := by rw [p1.length, p2]; omega
  have hfirst : (Builtin.firstCells 1 (min m n) (ac.eval y)).run P w = .ok (cs.take (min m n)).toArray w := by
   have hv : VRel φ h.next v (ac.eval y) := hy ▸ r.ev y (by simp [Op.operands, Call.operands])
   cases hs with
   | nil => obtain ⟨_, _, e⟩ := hv.nilSlice_inv; rw [e]; simp at p2; subst p2; simp [Builtin.firstCells]
   | empty a cc =>
    obtain ⟨i', o', s'⟩ := a
    obtain ⟨cap'', a'', e, _⟩ := hv.slice_inv
    rw [e]; simp at p2; subst p2
    simp [Builtin.firstCells, loadCells, loadCellsFrom]
   | slice j p s' _ cc bj hj hlj =>
    obtain ⟨cap'', a'', e, hlt', u1, u2, u3, u4, u5, u6⟩ := hv.slice_inv
    rw [e]
    by_cases hm : min m n = 0
    ·
     rw [hm]; simp [Builtin.firstCells, loadCells, loadCellsFrom]
    ·
     obtain rfl := u4.resolve_right (by omega)
     obtain ⟨ds, d1, d2, d3⟩ := r.sim.row hj p (min m n) (by omega)
     have hfc := run_loadCells_list (P := P) w _ ds d3
     rw [d2] at hfc
     have hds : ds = cs.take (min m n) := by
      obtain ⟨es, f1, f2, f3⟩ := r.sim.row hj p (m * 1) (by omega)
      have hcs : cs = es := by
       have := run_loadCells_list (P := P) w _ es f3
       have h4 := p4 w rfl
       rw [e] at h4
       simp only [Builtin.firstCells] at h4
       rw [f2] at this
       rw [this] at h4
       simp at h4
       exact h4.symm
      rw [hcs]
      apply List.ext_getElem?
      intro k
      by_cases hk : k < min m n
      ·
       rw [List.getElem?_take_of_lt hk]
       have h5 := d3 k ds[k] (List.getElem?_eq_getElem (by omega))
       have h6 := f3 k es[k] (List.getElem?_eq_getElem (by omega))
       rw [h5] at h6
       rw [List.getElem?_eq_getElem (show k < ds.length by omega), List.getElem?_eq_getElem (show k < es.length by omega)]
       exact h6
      ·
       rw [List.getElem?_eq_none (by omega), List.getElem?_eq_none (by simp; omega)]
     rw [← hds]
     simpa [Builtin.firstCells] using hfc
   | str st h1 =>
    rw [hv.string_inv]
    have h4 := p4 w rfl
    rw [hv.string_inv] at h4
    simp only [Builtin.firstCells, Sem.run_pure] at h4 ⊢
    have h5 : (st.extract 0 st.size) = st := by
     apply ByteArray.ext
     simp
    rw [h5] at h4
    simp only [Result.ok.injEq, and_true] at h4 ⊢
    have h6 : cs = (st.data.map fun b => Value.int .u8 (b.toNat : Int)).toList := by rw [h4]
    rw [h6]
    apply Array.ext'
    simp
  have hr1 : VRels φ h.next (news.take (min m n)) (cs.take (min m n)) := .of (by simp [p1.length]) (fun j a b ha hb => by
   have hj : j < min m n := by have := (List.getElem?_eq_some_iff.1 ha).1; simp at this; omega
   rw [List.getElem?_take_of_lt hj] at ha hb
   obtain ⟨c', hc', hv⟩ := p1.get ha
   rw [hb] at hc'; cases hc'
   exact hv)
  have hone' : ∀ c ∈ cs.take (min m n), c.oneCell' = true := by
   intro c hc
   obtain ⟨j, hj⟩ := List.getElem?_of_mem hc
   have hjl : j < (news.take (min m n)).length := by rw [hr1.length]; exact (List.getElem?_eq_some_iff.1 hj).1
   obtain ⟨c', hc', hv⟩ := hr1.get (List.getElem?_eq_getElem hjl)
   rw [hj] at hc'; cases hc'
   exact hv.one (List.all_eq_true.1 hone _ (List.getElem_mem hjl))
  obtain ⟨w', h3, h4, h5⟩ := r.sim.splice hi ho (o := o) hr1 (by simp; omega) hone'
  have hz : (φ i).o = 0 := by
   obtain ⟨_, _, _, h2, _⟩ := r.sim.owned hi ho
   exact h2.1
  have hst : (storeCells a' (cs.take (min m n))).run P w = .ok () w' := by
   by_cases hc0 : cap' = 0
   ·
    have : min m n = 0 := by omega
    rw [this] at h3 ⊢
    exact h3
   ·
    obtain rfl := q4.resolve_right hc0
    rw [hz, Nat.zero_add]
    exact h3
  refine ⟨_, w', φ, _, _, ?_, kk, .int _ _, h4, h5⟩
  have hmin : Nat.min m n = min m n := rfl
  simp [execOp, resolve, invoke, builtin, Builtin.copy_, td.run, p3, ti.size, e1, hmin, hfirst, hst, goInt]
theorem op_copy {dT e : TypeId} {x y : Operand} {i o n c m by_ : Nat} {s : Option Nat} {z v : Value} {b : Blk} {news : List Value} {sT : TypeId} [td : TyD P dT (.slice e)] [ti : TyI P e 1 by_ z]
  (hx : ρ x = .slice (some ⟨i, o, s⟩) n c) (hy : ρ y = v) (hs : Src h 1 v m news) (hi : h.get i = some b) (ho : b.own = true) (hl : o + min m n ≤ b.cells.length) (hone : news.all oneB = true)
  (kk : K (.int .i64 (min m n : Nat)) (h.set i ⟨splice b.cells o (news.take (min m n)), b.elem, true⟩)) : AOp P ⟨dst, .call ⟨.builtin .copy, #[x, y], #[dT, sT]⟩, ty, pos, aft, g⟩ ρ h K :=
 op_copyT hx hy hs hi ho hl (List.all_eq_true.2 fun v hv => List.all_eq_true.1 hone v (List.mem_of_mem_take hv)) kk
variable {P : Program} {ρ : Operand → Value} {h : Heap} {K : Value → Heap → Prop} {dst : Option Tmp} {ty : TypeId} {pos : String} {aft : Array Edge} {g : Option (Nat × Bool)}
class FnC (P : Program) (f : FuncId) : Prop where
 ex : ∃ fn, P.funcs[f]? = some fn ∧ fn.body.isSome = true ∧ (fn.name == "runtime.NumGoroutine") = false
theorem VRels.map {φ : Ren} {n : Nat} : ∀ {args : List Operand} {r1 r2 : Operand → Value}, (∀ x ∈ args, VRel φ n (r1 x) (r2 x)) → VRels φ n (args.map r1) (args.map r2)
 | [], _, _, _ => .nil
 | x :: args, _, _, hr => .cons (hr x (by simp)) (VRels.map fun y hy => hr y (by simp [hy]))
theorem VRels.ofArr {φ : Ren} {n : Nat} {f f' : Array Value} (h1 : f.size = f'.size) (h3 : ∀ (k : Nat) x y, f[k]? = some x → f'[k]? = some y → VRel φ n x y) : VRels φ n f.toList f'.toList :=
 .of (by simpa using h1) (fun j x y hx hy => h3 j x y (by simpa using hx) (by simpa using hy))
theorem qao {x : Operand} {f : FuncId} {fi ca : Array Value} {args : Array Operand} {aT : Array TypeId} [fc : FnC P f] {evs : List Value} (hx : ρ x = .func (.func f) fi ca) (he : fi.toList ++ (args.toList.map ρ ++ ca.toList) = evs)
  (c : ACalls P f evs h K) : AOp P ⟨dst, .call ⟨.value x, args, aT⟩, ty, pos, aft, g⟩ ρ h K := by
 intro φ a w r next Qc kk
 have hv := hx ▸ r.ev x (by simp [Op.operands, Call.operands])
 obtain ⟨f', d', e1, s1, s2, q1, q2⟩ := hv.func_inv
 obtain ⟨fn, hf, hb, hn⟩ := fc.ex
 have hargs : VRels φ h.next evs (f'.toList ++ (args.toList.map a.eval ++ d'.toList)) := by
  rw [← he]
  exact (VRels.ofArr s1 q1).append ((VRels.map fun y hy => r.ev y (by simp [Op.operands, Call.operands]; exact .inr (by simpa using hy))).append (VRels.ofArr s2 q2))
 have hc := c φ w _ r.sim hargs
 have hbn : fn.body.isNone = false := by
  cases hbb : fn.body with
  | none => rw [hbb] at hb; cases hb
  | some _ => rfl
 have hrun : (execOp a.eval ⟨dst, .call ⟨.value x, args, aT⟩, ty, pos, aft, g⟩).run P w = .ok (.enter f (f'.toList ++ (args.toList.map a.eval ++ d'.toList)).toArray) w := by
  have harr : (f' ++ args.map a.eval ++ d') = (f'.toList ++ (args.toList.map a.eval ++ d'.toList)).toArray := by
   apply Array.ext'
   simp
  simp only [execOp, resolve, e1, Deferred.ofValue, Sem.run_bind, Sem.run_pure, Result.andThen_ok, invoke, callFunc, run_program, hf, hn, hbn, Bool.false_eq_true, if_false]
  rw [harr]
 unfold Oper.wp
 rw [hrun]
 refine hc.mono fun e w' hr => ?_
 cases e with
 | returned cv =>
  obtain ⟨v, h', φ', k, v1, v2, v3⟩ := hr
  exact kk cv w' φ' h' v k v1 v2 v3
 | panicked ch => exact hr.elim
 | outgrown => exact hr.elim
theorem qaL {fn : Fn} {f c : Array Operand} {f' c' : List Value} (hf : f.toList.map ρ = f') (hc : c.toList.map ρ = c') (kk : K (.func fn f'.toArray c'.toArray) h) :
  AOp P ⟨dst, .makeFunc fn f c, ty, pos, aft, g⟩ ρ h K :=
 .of_pure kk fun φ ac w r => by
  refine ⟨.func fn (f.map ac.eval) (c.map ac.eval), by simp [execOp, Instr.makeFunc], ?_⟩
  subst hf hc
  refine .func _ _ _ _ _ (by simp) (by simp) ?_ ?_
  ·
   intro k x y hx hy
   simp only [List.getElem?_toArray, List.getElem?_map, Array.getElem?_toList, Array.getElem?_map] at hx hy
   cases hq : f[k]? with
   | none => simp [hq] at hx
   | some o =>
    simp [hq] at hx hy
    subst hx hy
    exact r.ev o (by simp [Op.operands]; exact .inl (Array.mem_of_getElem? hq))
  ·
   intro k x y hx hy
   simp only [List.getElem?_toArray, List.getElem?_map, Array.getElem?_toList, Array.getElem?_map] at hx hy
   cases hq : c[k]? with
   | none => simp [hq] at hx
   | some o =>
    simp [hq] at hx hy
    subst hx hy
    exact r.ev o (by simp [Op.operands]; exact .inr (Array.mem_of_getElem? hq))
def ifaceB : TypeDesc → Bool
 | .interface _ => true
 | _ => false
def fillA (place : Nat → Option (Nat × Nat)) (cells : List Value) : List (Nat × Value) → Option (List Value)
 | [] => some cells
 | (i, v) :: rest =>
  match place i with
  | none => none
  | some (off, size) => if v.cells.size ≠ size || off + v.cells.size > cells.length then none else fillA place (splice cells off v.cells.toList) rest
theorem zipFold (cs : List Value) : ∀ (k : Nat) (off : Nat) (arr : Array Value), ((cs.zipIdx k).foldl (fun (a : Array Value) (p : Value × Nat) => a.setIfInBounds (off + p.2) p.1) arr).toList = if off + k + cs.length ≤ arr.size then splice arr.toList (off + k) cs else ((cs.zipIdx k).foldl (fun (a : Array Value) (p : Value × Nat) => a.setIfInBounds (off + p.2) p.1) arr).toList := by
 induction cs with
 | nil => intro k off arr; simp [splice]
 | cons v cs ih =>
  intro k off arr
  split
  ·
   rename_i hl
   simp only [List.length_cons] at hl
   simp only [List.zipIdx_cons, List.foldl_cons]
   rw [ih (k + 1) off, if_pos (by simp; omega)]
   simp only [Array.toList_setIfInBounds]
   apply List.ext_getElem?
   intro j
   rw [qbk _ _ _ (by simp; omega), qbk _ _ _ (by simp; omega)]
   simp only [List.length_cons]
   by_cases h1 : j = off + k
   ·
    subst h1
    rw [if_neg (by omega), if_pos (by omega), List.getElem?_set_self (by simp; omega)]
    simp
   ·
    by_cases h2 : off + (k + 1) ≤ j ∧ j < off + (k + 1) + cs.length
    ·
     rw [if_pos h2, if_pos (by omega)]
     rw [show j - (off + k) = (j - (off + (k + 1))) + 1 from by omega]
     simp
    ·
     rw [if_neg h2, if_neg (by omega)]
     rw [List.getElem?_set_ne (by omega)]
  ·
   rfl
theorem zipFold0 (cs : Array Value) (off : Nat) (arr : Array Value) (hl : off + cs.size ≤ arr.size) : (cs.zipIdx.foldl (fun (a : Array Value) (p : Value × Nat) => a.setIfInBounds (off + p.2) p.1) arr).toList = splice arr.toList off cs.toList := by
 have := zipFold cs.toList 0 off arr
 rw [if_pos (by simpa using hl)] at this
 rw [← Array.foldl_toList]
 simpa using this
theorem VRels.splice {φ : Ren} {n : Nat} {xs cs vs ds : List Value} (a : VRels φ n xs cs) (b : VRels φ n vs ds) (o : Nat) (hl : o + vs.length ≤ xs.length) : VRels φ n (Eng.splice xs o vs) (Eng.splice cs o ds) := by
 have h1 := a.length
 have h2 := b.length
 refine .of (by rw [qa8 hl, qa8 (by omega), h1]) fun j x y hx hy => ?_
 rw [qbk _ _ _ hl] at hx
 rw [qbk _ _ _ (by omega)] at hy
 by_cases hin : o ≤ j ∧ j < o + vs.length
 ·
  rw [if_pos hin] at hx
  rw [if_pos (by omega)] at hy
  obtain ⟨c, hc, hv⟩ := b.get hx
  rw [hy] at hc; cases hc; exact hv
 ·
  rw [if_neg hin] at hx
  rw [if_neg (by omega)] at hy
  obtain ⟨c, hc, hv⟩ := a.get hx
  rw [hy] at hc; cases hc; exact hv
theorem qcW {φ : Ren} {n : Nat} (place : Nat → Option (Nat × Nat)) (ac : Act) : ∀ (parts : List (Nat × Operand)) (cells out : List Value) (arr : Array Value), VRels φ n cells arr.toList →
  (∀ p ∈ parts, VRel φ n (ρ p.2) (ac.eval p.2)) → (∀ p ∈ parts, ρ p.2 ≠ undef) → fillA place cells (parts.map fun p => (p.1, ρ p.2)) = some out →
  ∃ arr', Instr.fill place arr (parts.map fun p => (p.1, ac.eval p.2)) = some arr' ∧ VRels φ n out arr'.toList
 | [], cells, out, arr, hr, _, _, hf => by
  simp [fillA] at hf
  subst hf
  exact ⟨arr, rfl, hr⟩
 | (i, x) :: parts, cells, out, arr, hr, hv, hu, hf => by
  simp only [List.map_cons, fillA] at hf
  split at hf
  ·
   cases hf
  ·
   rename_i off size hp
   split at hf
   ·
    cases hf
   ·
    rename_i hc
    simp only [ne_eq, decide_not, Bool.or_eq_true, Bool.not_eq_eq_eq_not, Bool.not_true, decide_eq_false_iff_not, decide_eq_true_eq, not_or, Classical.not_not, Nat.not_lt] at hc
    have hx := (hv (i, x) (by simp)).cells (hu (i, x) (by simp))
    have hlen := hx.length
    simp only [Array.length_toList] at hlen
    have hcl := hr.length
    simp only [Array.length_toList] at hcl
    obtain ⟨arr', h1, h2⟩ := qcW place ac parts _ out ((ac.eval x).cells.zipIdx.foldl (fun (a : Array Value) (p : Value × Nat) => a.setIfInBounds (off + p.2) p.1) arr) (by
     rw [zipFold0 _ _ _ (by omega)]
     exact hr.splice hx off (by simp; omega)) (fun p hp => hv p (by simp [hp])) (fun p hp => hu p (by simp [hp])) hf
    refine ⟨arr', ?_, h2⟩
    simp only [List.map_cons, Instr.fill, hp]
    rw [if_neg (by simp; omega)]
    exact h1
theorem op_build {t sz by_ : Nat} {z : Value} {fs : Array Field} {parts : Array (Nat × Operand)} {places : List (Nat × Nat)} {out : List Value} [td : TyD P t (.struct fs)] [ti : TyI P t sz by_ z]
  (hp : ∀ w, (fs.mapM fun f => do pure (f.offset, ← sizeOf f.type) : Sem (Array (Nat × Nat))).run P w = .ok places.toArray w) (hu : ∀ p ∈ parts.toList, ρ p.2 ≠ undef)
  (hf : fillA (places[·]?) z.cells.toList (parts.toList.map fun p => (p.1, ρ p.2)) = some out) (kk : K (.agg out.toArray) h) : AOp P ⟨dst, .build t parts, ty, pos, aft, g⟩ ρ h K :=
 .of_pure kk fun φ ac w r => by
  obtain ⟨arr', h1, h2⟩ := qcW (φ := φ) (n := h.next) (places[·]?) ac parts.toList z.cells.toList out z.cells (VRels.scalars ti.plain) (fun p hp => r.ev p.2 (by simp [Op.operands]; exact ⟨p.1, by simpa using hp⟩)) hu hf
  refine ⟨.agg arr', ?_, .agg _ _ (by have := h2.length; simpa using this) (fun k x y hx hy => ?_)⟩
  ·
   have he : (parts.map fun (p : Nat × Operand) => (p.1, ac.eval p.2)).toList = parts.toList.map fun p => (p.1, ac.eval p.2) := by simp
   have hrun : (Instr.build t (parts.map fun (p : Nat × Operand) => (p.1, ac.eval p.2))).run P w = .ok (.agg arr') w := by
    simp only [Instr.build, Sem.run_bind, ti.zero, Result.andThen_ok, td.run, hp, he, List.getElem?_toArray]
    rw [h1]
    rfl
   simp [execOp, hrun]
  ·
   obtain ⟨c, hc, hv⟩ := h2.get (j := k) (x := x) (by simpa using hx)
   simp only [Array.getElem?_toList] at hc
   rw [hy] at hc; cases hc; exact hv
theorem qfm {t e by_ : Nat} {z : Value} {len : Nat} {parts : Array (Nat × Operand)} {out : List Value} [td : TyD P t (.slice e)] [ti : TyI P e 1 by_ z] (hz : oneB z = true) (hl : len ≤ 16777216) (hu : ∀ p ∈ parts.toList, ρ p.2 ≠ undef)
  (hf : fillA (fun i => some (i * 1, 1)) (List.replicate len z) (parts.toList.map fun p => (p.1, ρ p.2)) = some out) (hlen : out.length = len)
  (kk : K (.slice (some ⟨h.next, 0, some 1⟩) len len) (h.alloc ⟨out, e, true⟩)) : AOp P ⟨dst, .buildSlice t len parts, ty, pos, aft, g⟩ ρ h K :=
 .of_run fun φ ac w r => by
  have hzc : z.cells = #[z] := by cases z <;> first | rfl | (simp [oneB] at hz)
  have hzs : scalar z = true := by
   have := ti.plain
   rw [hzc] at this
   simpa using this
  have hmade : (Array.range len).map (fun x => z.cells[x % z.cells.size]!) = Array.replicate len z := qc2 z len hzc
  obtain ⟨arr', h1, h2⟩ := qcW (φ := φ) (n := h.next) (fun i => some (i * 1, 1)) ac parts.toList (List.replicate len z) out (Array.replicate len z) (by
   have : (List.replicate len z).all scalar = true := List.all_eq_true.2 (by intro v hv; rw [List.eq_of_mem_replicate hv]; exact hzs)
   simpa using VRels.scalars (φ := φ) (n := h.next) this) (fun p hp => r.ev p.2 (by simp [Op.operands]; exact ⟨p.1, by simpa using hp⟩)) hu hf
  have hal : arr'.size = len := by have := h2.length; simp at this; omega
  obtain ⟨s1, s2⟩ := r.sim.alloc out arr' e (0, 0) (.inl rfl) (by omega) h2.toArr
  have he : (parts.map fun (p : Nat × Operand) => (p.1, ac.eval p.2)).toList = parts.toList.map fun p => (p.1, ac.eval p.2) := by simp
  have hrun : (Instr.buildSlice t len (parts.map fun (p : Nat × Operand) => (p.1, ac.eval p.2))).run P w = .ok (.slice (some ⟨w.heap.size, 0, none⟩) len len) (w.alloc (.cells arr' e)) := by
   have hb : ¬ (len * 1 > 2 ^ 24) := by omega
   by_cases hl0 : len = 0
   ·
    subst hl0
    simp only [Instr.buildSlice, Sem.run_bind, td.run, Result.andThen_ok, ti.size, if_neg hb, Nat.zero_mul, if_true, Sem.run_pure, he]
    rw [show (Array.map (fun x => (#[] : Array Value)[x % (#[] : Array Value).size]!) (Array.range 0)) = Array.replicate 0 z from by simp [Array.range_zero'], h1]
    simp [newRow]
   ·
    have hn0 : ¬ (len * 1 = 0) := by omega
    simp only [Instr.buildSlice, Sem.run_bind, td.run, Result.andThen_ok, ti.size, if_neg hb, if_neg hn0, ti.zero, Sem.run_pure, he]
    rw [show (Array.map (fun x => z.cells[x % z.cells.size]!) (Array.range (len * 1))) = Array.replicate len z from by rw [Nat.mul_one]; exact hmade, h1]
    simp [newRow]
  refine ⟨_, _, _, _, _, by simp [execOp, hrun]; rfl, kk, ?_, s1, s2⟩
  have h24 : len ≤ maxLen := by simp only [maxLen]; omega
  refine .newSlice (Nat.le_refl _) (Nat.le_refl _) ⟨fun _ => rfl, fun hb => by simp only [maxLen] at h24; omega⟩ h24 ?_
  intro t ht
  cases ht
  omega
inductive Kd where
 | R | X | W
def ROp (P : Program) (o : Oper) (ρ : Operand → Value) (h : Heap) (v : Value) : Prop :=
 ∀ h', Ext h h' → h.next ≤ h'.next → AOp P o ρ h' fun v' h'' => v' = v ∧ h'' = h'
def DAL (P : Program) (N : Nat) (ops : Array Oper) (Q : Exit → Env → Heap → Prop) : List (Nat × Kd) → Env → Heap → Prop
 | [], env, h => ∀ φ a w, a.defers = [] → Rel P N φ env h a.tmps w → Post P N φ h w (Q .normal) a w
 | (i, .R) :: σ, env, h => ∃ o, ops[i]? = some o ∧ dstB N o.dst = true ∧ ∃ v, ((gv ops env o = some true ∧ ROp P o (ev P env) h v) ∨ (gv ops env o = some false ∧ v = skipV)) ∧ DAL P N ops Q σ (env.put o.dst v) h
 | (i, .X) :: σ, env, h => ∃ o, ops[i]? = some o ∧ dstB N o.dst = true ∧
   ((gv ops env o = some true ∧ AOp P o (ev P env) h fun v h' => Ext h h' ∧ DAL P N ops Q σ (env.put o.dst v) h') ∨ (gv ops env o = some false ∧ DAL P N ops Q σ (env.put o.dst skipV) h))
 | (i, .W) :: σ, env, h => ∃ o, ops[i]? = some o ∧ dstB N o.dst = true ∧
   ((gv ops env o = some true ∧ AOp P o (ev P env) h fun v h' => DAL P N ops Q σ (env.put o.dst v) h') ∨ (gv ops env o = some false ∧ DAL P N ops Q σ (env.put o.dst skipV) h))
theorem AOp.congr {P : Program} {o : Oper} {ρ ρ' : Operand → Value} {h : Heap} {K : Value → Heap → Prop} (hq : ∀ x, x ∈ o.op.operands → ρ x = ρ' x) (p : AOp P o ρ h K) : AOp P o ρ' h K :=
 fun φ a w r => p φ a w ⟨r.sim, fun x hx => by rw [hq x hx]; exact r.ev x hx⟩
theorem AOp.mono {P : Program} {o : Oper} {ρ : Operand → Value} {h : Heap} {K K' : Value → Heap → Prop} (p : AOp P o ρ h K) (hk : ∀ v h', h.next ≤ h'.next → K v h' → K' v h') : AOp P o ρ h K' :=
 fun φ a w r next Qc kk => p φ a w r next Qc fun c w' φ' h' v k vr s st => kk c w' φ' h' v (hk v h' st.next k) vr s st
theorem ROp.congr {P : Program} {o : Oper} {ρ ρ' : Operand → Value} {h : Heap} {v : Value} (hq : ∀ x, x ∈ o.op.operands → ρ x = ρ' x) (p : ROp P o ρ h v) : ROp P o ρ' h v :=
 fun h' hx hn => (p h' hx hn).congr hq
theorem ROp.ext {P : Program} {o : Oper} {ρ : Operand → Value} {h h1 : Heap} {v : Value} (p : ROp P o ρ h v) (hx : Ext h h1) (hn : h.next ≤ h1.next) : ROp P o ρ h1 v :=
 fun h' hx' hn' => p h' (hx.trans hx') (Nat.le_trans hn hn')
def EqE (e e' : Env) : Prop := ∀ t, e.get t = e'.get t
theorem EqE.ev {P : Program} {e e' : Env} (q : EqE e e') (x : Operand) : Eng.ev P e x = Eng.ev P e' x := by
 cases x with
 | tmp t => exact q t
 | _ => rfl
theorem EqE.gv {ops : Array Oper} {e e' : Env} (q : EqE e e') (o : Oper) : Eng.gv ops e o = Eng.gv ops e' o := by
 unfold Eng.gv
 split
 ·
  rfl
 ·
  split
  ·
   rw [q]
  ·
   rfl
theorem EqE.put {e e' : Env} (q : EqE e e') (d : Option Tmp) (v : Value) : EqE (e.put d v) (e'.put d v) := by
 intro t
 cases d with
 | none => exact q t
 | some d => simp only [Env.put, Env.get_put, q t]
theorem EqE.swap (e : Env) {d d' : Option Tmp} (hne : ∀ t, d = some t → d' ≠ some t) (v v' : Value) : EqE ((e.put d v).put d' v') ((e.put d' v').put d v) := by
 intro t
 cases d with
 | none => rfl
 | some d =>
  cases d' with
  | none => rfl
  | some d' =>
   simp only [Env.put, Env.get_put]
   have hdd : d ≠ d' := fun e => hne d rfl (by rw [e])
   by_cases h1 : d' = t
   ·
    by_cases h2 : d = t
    ·
     exact absurd (h2.trans h1.symm) hdd
    ·
     simp [h1, h2]
   ·
    by_cases h2 : d = t <;> simp [h1, h2]
section
variable {P : Program} {N : Nat} {ops : Array Oper} {Q : Exit → Env → Heap → Prop}
theorem Rel.eqE {φ : Ren} {e e' : Env} {h : Heap} {t : Array Value} {w : World} (r : Rel P N φ e h t w) (q : EqE e e') : Rel P N φ e' h t w := ⟨r.sim, r.size, fun t => by rw [← q t]; exact r.env t⟩
theorem DAL.eqE : ∀ {σ : List (Nat × Kd)} {e e' : Env} {h : Heap}, DAL P N ops Q σ e h → EqE e e' → DAL P N ops Q σ e' h
 | [], e, e', h, p, q => fun φ a w hd r => p φ a w hd (r.eqE fun t => (q t).symm)
 | (i, .R) :: σ, e, e', h, p, q => by
  obtain ⟨o, ho, hd, v, hv, k⟩ := p
  refine ⟨o, ho, hd, v, ?_, DAL.eqE k (q.put _ _)⟩
  rw [← q.gv o]
  exact hv.imp (fun ⟨a, b⟩ => ⟨a, b.congr fun x _ => q.ev x⟩) id
 | (i, .X) :: σ, e, e', h, p, q => by
  obtain ⟨o, ho, hd, hv⟩ := p
  refine ⟨o, ho, hd, ?_⟩
  rw [← q.gv o]
  exact hv.imp (fun ⟨a, b⟩ => ⟨a, (b.congr fun x _ => q.ev x).mono fun v h' _ ⟨k1, k2⟩ => ⟨k1, DAL.eqE k2 (q.put _ _)⟩⟩) (fun ⟨a, b⟩ => ⟨a, DAL.eqE b (q.put _ _)⟩)
 | (i, .W) :: σ, e, e', h, p, q => by
  obtain ⟨o, ho, hd, hv⟩ := p
  refine ⟨o, ho, hd, ?_⟩
  rw [← q.gv o]
  exact hv.imp (fun ⟨a, b⟩ => ⟨a, (b.congr fun x _ => q.ev x).mono fun v h' _ k => DAL.eqE k (q.put _ _)⟩) (fun ⟨a, b⟩ => ⟨a, DAL.eqE b (q.put _ _)⟩)
theorem qgm {e : Env} {d : Option Tmp} {v : Value} {t : Nat} (hne : d ≠ some t) : (e.put d v).get t = e.get t := by
 cases d with
 | none => rfl
 | some d => rw [show (e.put (some d) v) = (d, v) :: e from rfl, Env.get_put, if_neg (fun h => hne (by rw [h]))]
theorem looks_tmp {o : Oper} {t : Nat} (hx : Operand.tmp t ∈ o.op.operands) : t ∈ o.looksAt ops := by
 unfold Oper.looksAt
 refine List.mem_append_left _ (List.mem_filterMap.2 ⟨.tmp t, by simpa using hx, rfl⟩)
theorem qbd {o : Oper} {e : Env} {d : Option Tmp} {v : Value} (hne : ∀ t, d = some t → t ∉ o.looksAt ops) : ∀ x, x ∈ o.op.operands → ev P (e.put d v) x = ev P e x := by
 intro x hx
 cases x with
 | tmp t => exact qgm (fun h => hne t h (looks_tmp hx))
 | _ => rfl
theorem qbc {o : Oper} {e : Env} {d : Option Tmp} {v : Value} (hne : ∀ t, d = some t → t ∉ o.looksAt ops) : gv ops (e.put d v) o = gv ops e o := by
 unfold gv
 split
 ·
  rfl
 ·
  rename_i j want hg
  split
  ·
   rename_i t ht
   rw [qgm]
   intro hd
   refine hne t hd ?_
   unfold Oper.looksAt
   refine List.mem_append_right _ ?_
   rw [hg]
   simp [ht]
  ·
   rfl
def kdW : Kd → Bool
 | .W => true
 | _ => false
theorem DAL.swap {i j : Nat} {k : Kd} {oi oj : Oper} {σ : List (Nat × Kd)} {e : Env} {h : Heap} (hi : ops[i]? = some oi) (hj : ops[j]? = some oj) (hap : oj.apart ops oi = true) (hk : kdW k = false)
  (p : DAL P N ops Q ((j, .R) :: (i, k) :: σ) e h) : DAL P N ops Q ((i, k) :: (j, .R) :: σ) e h := by
 obtain ⟨a1, a2, a3⟩ := Oper.apart_spec hap
 obtain ⟨o, ho, hd, vj, hvj, p⟩ := p
 rw [hj] at ho; cases ho
 have later : ∀ (vi : Value) (h' : Heap), Ext h h' → h.next ≤ h'.next → DAL P N ops Q σ ((e.put oj.dst vj).put oi.dst vi) h' → DAL P N ops Q ((j, .R) :: σ) (e.put oi.dst vi) h' := by
  intro vi h' hx hn pk
  refine ⟨oj, hj, hd, vj, ?_, pk.eqE (EqE.swap e a2 vj vi)⟩
  rw [qbc a3]
  exact hvj.imp (fun ⟨q1, q2⟩ => ⟨q1, (q2.ext hx hn).congr fun x hx => (qbd a3 x hx).symm⟩) id
 cases k with
 | R =>
  obtain ⟨o, ho, hdi, vi, hvi, p⟩ := p
  rw [hi] at ho; cases ho
  rw [qbc a1] at hvi
  exact ⟨oi, hi, hdi, vi, hvi.imp (fun ⟨q1, q2⟩ => ⟨q1, q2.congr (qbd a1)⟩) id, later vi h (Ext.refl h) (Nat.le_refl _) p⟩
 | X =>
  obtain ⟨o, ho, hdi, hvi⟩ := p
  rw [hi] at ho; cases ho
  rw [qbc a1] at hvi
  refine ⟨oi, hi, hdi, ?_⟩
  exact hvi.imp (fun ⟨q1, q2⟩ => ⟨q1, (q2.congr (qbd a1)).mono fun v h' hn ⟨k1, k2⟩ => ⟨k1, later v h' k1 hn k2⟩⟩) (fun ⟨q1, q2⟩ => ⟨q1, later skipV h (Ext.refl h) (Nat.le_refl _) q2⟩)
 | W => cases hk
theorem DAL.front {i : Nat} {k : Kd} {oi : Oper} {σ2 : List (Nat × Kd)} (hi : ops[i]? = some oi) : ∀ {σ1 : List (Nat × Kd)} {e : Env} {h : Heap},
  (∀ s ∈ σ1, s.2 = .R ∧ kdW k = false ∧ ∃ oj, ops[s.1]? = some oj ∧ oj.apart ops oi = true) → DAL P N ops Q (σ1 ++ (i, k) :: σ2) e h → DAL P N ops Q ((i, k) :: (σ1 ++ σ2)) e h
 | [], _, _, _, p => p
 | (j, kj) :: σ1, e, h, hs, p => by
  obtain ⟨h1, h2, oj, h3, h4⟩ := hs (j, kj) (by simp)
  simp only at h1 h3
  subst h1
  obtain ⟨o, ho, hd, v, hv, p⟩ := p
  have p' := DAL.front (σ2 := σ2) hi (fun s hs' => hs s (by simp [hs'])) p
  exact DAL.swap hi h3 h4 h2 ⟨o, ho, hd, v, hv, p'⟩
end
def edgeB (ops : Array Oper) (i j : Nat) : Bool :=
 match ops[i]? with
 | some o => o.after.any fun e => Region.binds .any e && Nat.beq e.on j
 | none => false
def ancB (A : Array Nat) (i j : Nat) : Bool := (A.getD i 0).testBit j
def apartB (ops : Array Oper) (j i : Nat) : Bool :=
 match ops[j]?, ops[i]? with
 | some oj, some oi => oj.apart ops oi
 | _, _ => false
def kdR : Kd → Bool
 | .R => true
 | _ => false
def pairB (ops : Array Oper) (A : Array Nat) (p q : Nat × Kd) : Bool :=
 !edgeB ops p.1 q.1 && (ancB A q.1 p.1 || (kdR p.2 && !kdW q.2 && apartB ops p.1 q.1))
def pairsB (ops : Array Oper) (A : Array Nat) : List (Nat × Kd) → Bool
 | [] => true
 | p :: σ => !edgeB ops p.1 p.1 && σ.all (fun q => !Nat.beq p.1 q.1 && pairB ops A p q) && pairsB ops A σ
def closeB (ops : Array Oper) (A : Array Nat) : Bool :=
 (List.range ops.size).all fun i => (List.range ops.size).all fun j => !ancB A i j || edgeB ops i j || (List.range ops.size).any fun k => edgeB ops i k && ancB A k j
def rangeB (ops : Array Oper) : Bool := ops.all fun o => o.after.all fun e => !Region.binds .any e || Nat.blt e.on ops.size
def drawB (ops : Array Oper) (σ : List (Nat × Kd)) : Bool :=
 let A := Region.before ops
 Nat.beq σ.length ops.size && (List.range ops.size).all (fun i => σ.any fun p => Nat.beq p.1 i) && σ.all (fun p => Nat.blt p.1 ops.size) && A.all (fun x => Nat.blt x (2 ^ ops.size)) && rangeB ops && pairsB ops A σ && closeB ops A
theorem qbG {ops : Array Oper} {i j : Nat} {o : Oper} (ho : ops[i]? = some o) : edgeB ops i j = true ↔ ∃ e ∈ o.after, Region.binds .any e = true ∧ e.on = j := by
 simp only [edgeB, ho]
 rw [← Array.any_toList, List.any_eq_true]
 constructor
 ·
  rintro ⟨e, he, hb⟩
  rw [Bool.and_eq_true] at hb
  exact ⟨e, by simpa using he, hb.1, Nat.eq_of_beq_eq_true hb.2⟩
 ·
  rintro ⟨e, he, hb, rfl⟩
  exact ⟨e, by simpa using he, by rw [Bool.and_eq_true]; exact ⟨hb, Nat.beq_refl _⟩⟩
theorem qeZ {ops : Array Oper} {A : Array Nat} : ∀ {σ1 σ2 : List (Nat × Kd)} {p : Nat × Kd}, pairsB ops A (σ1 ++ p :: σ2) = true → pairsB ops A (σ1 ++ σ2) = true ∧ (∀ s ∈ σ1, pairB ops A s p = true ∧ s.1 ≠ p.1) ∧ (∀ s ∈ σ2, s.1 ≠ p.1)
 | [], σ2, p, hp => by
  simp only [List.nil_append, pairsB, Bool.and_eq_true, List.all_eq_true] at hp
  refine ⟨hp.2, by simp, fun s hs he => ?_⟩
  have := (hp.1.2 s hs).1
  rw [he] at this
  simp at this
 | q :: σ1, σ2, p, hp => by
  simp only [List.cons_append, pairsB, Bool.and_eq_true, List.all_eq_true] at hp
  obtain ⟨⟨h0, h1⟩, h2⟩ := hp
  obtain ⟨g1, g2, g3⟩ := qeZ h2
  refine ⟨?_, ?_, g3⟩
  ·
   simp only [List.cons_append, pairsB, Bool.and_eq_true, List.all_eq_true]
   refine ⟨⟨h0, fun s hs => h1 s ?_⟩, g1⟩
   rcases List.mem_append.1 hs with h | h
   ·
    exact List.mem_append_left _ h
   ·
    exact List.mem_append_right _ (by simp [h])
  ·
   intro s hs
   rcases List.mem_cons.1 hs with rfl | hs
   ·
    obtain ⟨u1, u2⟩ := h1 p (List.mem_append_right _ (by simp))
    refine ⟨u2, fun he => ?_⟩
    rw [he] at u1
    simp at u1
   ·
    exact g2 s hs
variable {P : Program} {N : Nat} {ops : Array Oper} {Q : Exit → Env → Heap → Prop}
theorem qbK {Qc Qc' : Exit → Act → World → Prop} (hq : ∀ e a w, Qc e a w → Qc' e a w) : ∀ (fuel : Nat) (L : Array Bool) (a : Act) (w : World), wpAny P .any ops Qc fuel L a w → wpAny P .any ops Qc' fuel L a w
 | 0, L, a, w, p => ⟨p.1, hq _ _ _ p.2⟩
 | fuel + 1, L, a, w, p => by
  refine ⟨fun hr => hq _ _ _ (p.1 hr), fun i hi => ?_⟩
  have := p.2 i hi
  unfold wpOp at this ⊢
  split
  ·
   rename_i ho
   simp only [ho] at this
   exact qbK hq fuel _ a w this
  ·
   rename_i o ho
   simp only [ho] at this
   split
   ·
    rename_i hw
    rw [if_pos hw] at this
    rcases this with p | ⟨p1, p2⟩
    ·
     exact .inl (qgM (qbK hq fuel _) hq _ p)
    ·
     exact .inr ⟨p1, qbP hq p2⟩
   ·
    rename_i hw
    rw [if_neg hw] at this
    exact qbK hq fuel _ _ w this
theorem any_order (A : Array Nat) (hr : rangeB ops = true) (hc : closeB ops A = true) (hA : ∀ i j, ancB A i j = true → j < ops.size) : ∀ (n : Nat) (σ : List (Nat × Kd)) (L : Array Bool) (env : Env) (h : Heap) (φ : Ren) (a : Act) (w : World), σ.length = n → L.size = ops.size →
  (∀ i, i < ops.size → (L.getD i true = false ↔ ∃ k, (i, k) ∈ σ)) → (∀ s ∈ σ, s.1 < ops.size) → (∀ i j, L.getD i false = true → ancB A i j = true → L.getD j false = true) → pairsB ops A σ = true →
  a.defers = [] → Rel P N φ env h a.tmps w → DAL P N ops Q σ env h → wpAny P .any ops (fun ex a' w' => Post P N φ h w (Q ex) a' w') n L a w := by
 intro n
 induction n with
 | zero =>
  intro σ L env h φ a w hn hL hmem _ _ _ hd r p
  have : σ = [] := List.eq_nil_of_length_eq_zero hn
  subst this
  refine ⟨?_, p φ a w hd r⟩
  apply List.eq_nil_iff_forall_not_mem.2
  intro i hi
  obtain ⟨h1, o, h2, _⟩ := mem_ready.1 hi
  have hlt : i < ops.size := (Array.getElem?_eq_some_iff.1 h2).1
  obtain ⟨k, hk⟩ := (hmem i hlt).1 h1
  cases hk
 | succ n ih =>
  intro σ L env h φ a w hn hL hmem hlt hclo hpr hd r p
  have hin : ∀ j, j < ops.size → (¬ ∃ k, (j, k) ∈ σ) → L.getD j false = true := by
   intro j hj hno
   cases hq : L.getD j true with
   | false => exact absurd ((hmem j hj).1 hq) hno
   | true =>
    have hjl : j < L.size := by omega
    simp only [Array.getD_eq_getD_getElem?, Array.getElem?_eq_getElem hjl, Option.getD_some] at hq ⊢
    exact hq
  have hrange : ∀ (i : Nat) (o : Oper), ops[i]? = some o → ∀ e ∈ o.after, Region.binds .any e = true → e.on < ops.size := by
   intro i o ho e he hb
   have h1 := Array.all_eq_true_iff_forall_mem.1 hr o (Array.mem_of_getElem? ho)
   have h2 := Array.all_eq_true_iff_forall_mem.1 h1 e he
   simp only [hb, Bool.not_true, Bool.false_or] at h2
   simpa [Nat.blt_eq] using h2
  refine ⟨fun hnil => ?_, fun i hi => ?_⟩
  ·
   exfalso
   obtain ⟨⟨i0, k0⟩, σ', rfl⟩ : ∃ s σ', σ = s :: σ' := by
    cases σ with
    | nil => simp at hn
    | cons s σ' => exact ⟨s, σ', rfl⟩
   have hi0 := hlt (i0, k0) (by simp)
   have ho0 : ops[i0]? = some ops[i0] := Array.getElem?_eq_getElem hi0
   have : i0 ∈ Region.ready .any ops L := by
    refine mem_ready.2 ⟨(hmem i0 hi0).2 ⟨k0, by simp⟩, ops[i0], ho0, fun e he hb => ?_⟩
    have hedge : edgeB ops i0 e.on = true := (qbG ho0).2 ⟨e, he, hb, rfl⟩
    refine hin e.on (hrange i0 _ ho0 e he hb) ?_
    rintro ⟨k, hk⟩
    simp only [pairsB, Bool.and_eq_true, List.all_eq_true, Bool.not_eq_eq_eq_not, Bool.not_true] at hpr
    rcases List.mem_cons.1 hk with hk | hk
    ·
     cases hk
     rw [hpr.1.1] at hedge; cases hedge
    ·
     have := (hpr.1.2 _ hk).2
     simp only [pairB, Bool.and_eq_true, Bool.not_eq_eq_eq_not, Bool.not_true] at this
     rw [this.1] at hedge; cases hedge
   rw [hnil] at this
   cases this
  ·
   obtain ⟨hi1, o, ho, hedges⟩ := mem_ready.1 hi
   have hilt : i < ops.size := (Array.getElem?_eq_some_iff.1 ho).1
   obtain ⟨k, hk⟩ := (hmem i hilt).1 hi1
   obtain ⟨σ1, σ2, rfl⟩ := List.append_of_mem hk
   obtain ⟨hp1, hp2, hp3⟩ := qeZ hpr
   have hanc : ∀ j, ancB A i j = true → L.getD j false = true := by
    intro j hj
    have hjl := hA i j hj
    have h1 := List.all_eq_true.1 (List.all_eq_true.1 hc i (List.mem_range.2 hilt)) j (List.mem_range.2 hjl)
    simp only [hj, Bool.not_true, Bool.false_or, Bool.or_eq_true, List.any_eq_true, Bool.and_eq_true] at h1
    rcases h1 with h1 | ⟨m, _, h2, h3⟩
    ·
     obtain ⟨e, he, hb, rfl⟩ := (qbG ho).1 h1
     exact hedges e he hb
    ·
     obtain ⟨e, he, hb, rfl⟩ := (qbG ho).1 h2
     exact hclo _ j (hedges e he hb) h3
   have hfr : ∀ s ∈ σ1, s.2 = .R ∧ kdW k = false ∧ ∃ oj, ops[s.1]? = some oj ∧ oj.apart ops o = true := by
    intro s hs
    obtain ⟨u1, u2⟩ := hp2 s hs
    simp only [pairB, Bool.and_eq_true, Bool.or_eq_true, Bool.not_eq_eq_eq_not, Bool.not_true] at u1
    rcases u1.2 with u3 | ⟨⟨u3, u4⟩, u5⟩
    ·
     exfalso
     have h1 := hanc s.1 u3
     have h2 := (hmem s.1 (hlt s (by simp [hs]))).2 ⟨s.2, by simp [hs]⟩
     have hjl : s.1 < L.size := by rw [hL]; exact hlt s (by simp [hs])
     simp only [Array.getD_eq_getD_getElem?, Array.getElem?_eq_getElem hjl, Option.getD_some] at h1 h2
     rw [h1] at h2; cases h2
    ·
     refine ⟨?_, u4, ?_⟩
     ·
      cases hs2 : s.2 with
      | R => rfl
      | X => rw [hs2] at u3; cases u3
      | W => rw [hs2] at u3; cases u3
     ·
      unfold apartB at u5
      rw [ho] at u5
      cases hoj : ops[s.1]? with
      | none => rw [hoj] at u5; cases u5
      | some oj => rw [hoj] at u5; exact ⟨oj, rfl, u5⟩
   have pf := DAL.front ho hfr p
   have hL' : (L.setIfInBounds i true).size = ops.size := by simp [hL]
   have hlen' : (σ1 ++ σ2).length = n := by simp at hn ⊢; omega
   have hmem' : ∀ j, j < ops.size → ((L.setIfInBounds i true).getD j true = false ↔ ∃ k, (j, k) ∈ σ1 ++ σ2) := by
    intro j hj
    by_cases hji : i = j
    ·
     subst hji
     have : (L.setIfInBounds i true).getD i true = true := by
      simp [Array.getD_eq_getD_getElem?]
     rw [this]
     constructor
     ·
      intro e; cases e
     ·
      rintro ⟨k', hk'⟩
      exfalso
      rcases List.mem_append.1 hk' with h1 | h1
      ·
       exact (hp2 _ h1).2 rfl
      ·
       exact hp3 _ h1 rfl
    ·
     rw [getD_set_ne _ hji, hmem j hj]
     constructor
     ·
      rintro ⟨k', hk'⟩
      refine ⟨k', ?_⟩
      rcases List.mem_append.1 hk' with h1 | h1
      ·
       exact List.mem_append_left _ h1
      ·
       rcases List.mem_cons.1 h1 with h2 | h2
       ·
        cases h2; exact absurd rfl hji
       ·
        exact List.mem_append_right _ h2
     ·
      rintro ⟨k', hk'⟩
      refine ⟨k', ?_⟩
      rcases List.mem_append.1 hk' with h1 | h1
      ·
       exact List.mem_append_left _ h1
      ·
       exact List.mem_append_right _ (by simp [h1])
   have hlt' : ∀ s ∈ σ1 ++ σ2, s.1 < ops.size := by
    intro s hs
    refine hlt s ?_
    rcases List.mem_append.1 hs with h1 | h1
    ·
     exact List.mem_append_left _ h1
    ·
     exact List.mem_append_right _ (by simp [h1])
   have hclo' : ∀ x y, (L.setIfInBounds i true).getD x false = true → ancB A x y = true → (L.setIfInBounds i true).getD y false = true := by
    intro x y hx hxy
    refine getD_set_true ?_
    by_cases hxi : i = x
    ·
     subst hxi; exact hanc y hxy
    ·
     rw [getD_set_ne _ hxi] at hx
     exact hclo x y hx hxy
   have go : ∀ (φ' : Ren) (env' : Env) (h' : Heap) (a' : Act) (w' : World), a'.defers = [] → Rel P N φ' env' h' a'.tmps w' → Step φ h w φ' h' w' → DAL P N ops Q (σ1 ++ σ2) env' h' →
     wpAny P .any ops (fun ex a2 w2 => Post P N φ h w (Q ex) a2 w2) n (L.setIfInBounds i true) a' w' := by
    intro φ' env' h' a' w' hd' r' st p'
    exact qbK (fun _ _ _ hp => hp.trans st) _ _ _ _ (ih (σ1 ++ σ2) _ env' h' φ' a' w' hlen' hL' hmem' hlt' hclo' hp1 hd' r' p')
   have run : ∀ (K : Value → Heap → Prop), dstB N o.dst = true → gv ops env o = some true → AOp P o (ev P env) h K → (∀ v h', K v h' → DAL P N ops Q (σ1 ++ σ2) (env.put o.dst v) h') →
     wpOp P ops (fun ex a2 w2 => Post P N φ h w (Q ex) a2 w2) i (wpAny P .any ops (fun ex a2 w2 => Post P N φ h w (Q ex) a2 w2) n (L.setIfInBounds i true)) a w := by
    intro K hdst hg hop hk
    simp only [wpOp, ho, qbg r hg, if_true]
    refine .inl (hop φ a w ⟨r.sim, fun x _ => r.ev x⟩ _ _ fun c w' φ' h' v kv vr s st => ?_)
    exact go φ' _ h' _ w' (by rw [qa6]; exact hd) ((r.step s st).put o.dst (qbZ hdst) vr) st (hk v h' kv)
   have skip : dstB N o.dst = true → gv ops env o = some false → DAL P N ops Q (σ1 ++ σ2) (env.put o.dst skipV) h →
     wpOp P ops (fun ex a2 w2 => Post P N φ h w (Q ex) a2 w2) i (wpAny P .any ops (fun ex a2 w2 => Post P N φ h w (Q ex) a2 w2) n (L.setIfInBounds i true)) a w := by
    intro hdst hg hk
    simp only [wpOp, ho, qbg r hg, Bool.false_eq_true, if_false]
    exact go φ _ h _ w (by rw [qa6]; exact hd) (r.put o.dst (qbZ hdst) .skip) (Step.refl _ _ _) hk
   cases k with
   | R =>
    obtain ⟨o', ho', hdst, v, hv, pk⟩ := pf
    rw [ho] at ho'; cases ho'
    rcases hv with ⟨g1, g2⟩ | ⟨g1, rfl⟩
    ·
     exact run _ hdst g1 (g2 h (Ext.refl h) (Nat.le_refl _)) fun v' h' ⟨e1, e2⟩ => by subst e1 e2; exact pk
    ·
     exact skip hdst g1 pk
   | X =>
    obtain ⟨o', ho', hdst, hv⟩ := pf
    rw [ho] at ho'; cases ho'
    rcases hv with ⟨g1, g2⟩ | ⟨g1, g2⟩
    ·
     exact run _ hdst g1 g2 fun v' h' ⟨_, e2⟩ => e2
    ·
     exact skip hdst g1 g2
   | W =>
    obtain ⟨o', ho', hdst, hv⟩ := pf
    rw [ho] at ho'; cases ho'
    rcases hv with ⟨g1, g2⟩ | ⟨g1, g2⟩
    ·
     exact run _ hdst g1 g2 fun v' h' e2 => e2
    ·
     exact skip hdst g1 g2
theorem AWp.draw {id : Nat} {σ : List (Nat × Kd)} {env : Env} {h : Heap} (hm : P.follows .mixedOrders = true) (hb : drawB ops σ = true) (p : DAL P N ops Q σ env h) : AWp P N (.region id ops true) Q env h := by
 intro φ a w hd r
 simp only [drawB, Bool.and_eq_true] at hb
 obtain ⟨⟨⟨⟨⟨⟨b1, b2⟩, b3⟩, b4⟩, b5⟩, b6⟩, b7⟩ := hb
 have b1' : σ.length = ops.size := Nat.eq_of_beq_eq_true b1
 refine wp_region_any hm ?_
 have r' : Rel P N φ env h a.tmps w.drew := ⟨r.sim.drew, r.size, r.env⟩
 refine qbK (fun _ _ _ hp => hp.trans Step.drew) _ _ _ _ (any_order (Region.before ops) b5 b7 ?_ ops.size σ (Array.replicate ops.size false) env h φ a w.drew b1' (by simp) ?_ ?_ ?_ b6 hd r' p)
 ·
  intro i j hij
  unfold ancB at hij
  rcases Nat.lt_or_ge j ops.size with hl | hl
  ·
   exact hl
  ·
   exfalso
   have hx : (Region.before ops).getD i 0 < 2 ^ ops.size := by
    rcases Nat.lt_or_ge i (Region.before ops).size with h1 | h1
    ·
     have := Array.all_eq_true_iff_forall_mem.1 b4 ((Region.before ops)[i]) (by simp)
     rw [Array.getD_eq_getD_getElem?, Array.getElem?_eq_getElem h1]
     simpa [Nat.blt_eq] using this
    ·
     rw [Array.getD_eq_getD_getElem?, Array.getElem?_eq_none h1]
     exact Nat.two_pow_pos _
   have := Nat.testBit_lt_two_pow (Nat.lt_of_lt_of_le hx (Nat.pow_le_pow_right (by omega) hl))
   rw [this] at hij
   cases hij
 ·
  intro i hi
  have h1 : (Array.replicate ops.size false).getD i true = false := by
   simp [Array.getD_eq_getD_getElem?, hi]
  rw [h1]
  simp only [true_iff]
  have := List.all_eq_true.1 b2 i (List.mem_range.2 hi)
  obtain ⟨⟨j, k⟩, h2, h3⟩ := List.any_eq_true.1 this
  have : j = i := Nat.eq_of_beq_eq_true h3
  subst this
  exact ⟨k, h2⟩
 ·
  intro s hs
  simpa [Nat.blt_eq] using List.all_eq_true.1 b3 s hs
 ·
  intro i j hi
  exfalso
  by_cases hl : i < ops.size
  ·
   simp [Array.getD_eq_getD_getElem?, hl] at hi
  ·
   simp [Array.getD_eq_getD_getElem?, hl] at hi
section steps
variable {i : Nat} {σ : List (Nat × Kd)} {env : Env} {h : Heap} {d : Tmp} {op : Op} {ty : TypeId} {pos : String} {aft : Array Edge} {g : Option (Nat × Bool)}
theorem DAL.r {v : Value} (ho : ops[i]? = some ⟨some d, op, ty, pos, aft, g⟩) (hd : Nat.blt d N = true) (hg : gv ops env ⟨some d, op, ty, pos, aft, g⟩ = some true) (hv : ∀ h', Ext h h' → h.next ≤ h'.next → AOp P ⟨some d, op, ty, pos, aft, g⟩ (ev P env) h' fun v' h'' => v' = v ∧ h'' = h')
  (k : DAL P N ops Q σ ((d, v) :: env) h) : DAL P N ops Q ((i, .R) :: σ) env h := ⟨_, ho, hd, v, .inl ⟨hg, hv⟩, k⟩
theorem DAL.skip {kd : Kd} (ho : ops[i]? = some ⟨some d, op, ty, pos, aft, g⟩) (hd : Nat.blt d N = true) (hg : gv ops env ⟨some d, op, ty, pos, aft, g⟩ = some false)
  (k : DAL P N ops Q σ ((d, skipV) :: env) h) : DAL P N ops Q ((i, kd) :: σ) env h := by
 cases kd
 ·
  exact ⟨_, ho, hd, skipV, .inr ⟨hg, rfl⟩, k⟩
 ·
  exact ⟨_, ho, hd, .inr ⟨hg, k⟩⟩
 ·
  exact ⟨_, ho, hd, .inr ⟨hg, k⟩⟩
theorem DAL.x (ho : ops[i]? = some ⟨some d, op, ty, pos, aft, g⟩) (hd : Nat.blt d N = true) (hg : gv ops env ⟨some d, op, ty, pos, aft, g⟩ = some true) (hv : AOp P ⟨some d, op, ty, pos, aft, g⟩ (ev P env) h fun v h' => Ext h h' ∧ DAL P N ops Q σ ((d, v) :: env) h') :
  DAL P N ops Q ((i, .X) :: σ) env h := ⟨_, ho, hd, .inl ⟨hg, hv⟩⟩
theorem DAL.w (ho : ops[i]? = some ⟨some d, op, ty, pos, aft, g⟩) (hd : Nat.blt d N = true) (hg : gv ops env ⟨some d, op, ty, pos, aft, g⟩ = some true) (hv : AOp P ⟨some d, op, ty, pos, aft, g⟩ (ev P env) h fun v h' => DAL P N ops Q σ ((d, v) :: env) h') :
  DAL P N ops Q ((i, .W) :: σ) env h := ⟨_, ho, hd, .inl ⟨hg, hv⟩⟩
theorem DAL.w0 (ho : ops[i]? = some ⟨none, op, ty, pos, aft, g⟩) (hg : gv ops env ⟨none, op, ty, pos, aft, g⟩ = some true) (hv : AOp P ⟨none, op, ty, pos, aft, g⟩ (ev P env) h fun _ h' => DAL P N ops Q σ env h') :
  DAL P N ops Q ((i, .W) :: σ) env h := ⟨_, ho, rfl, .inl ⟨hg, hv⟩⟩
theorem DAL.nil (k : Q .normal env h) : DAL P N ops Q [] env h := fun _ _ _ hd r => Post.now k hd r
end steps
end Go.Eng
