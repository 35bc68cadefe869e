/-
  The engine, part I: strings and bytes, literals, calls.
-/
import Derived.Test.YtdfehmmhlplhlaaEngH
import Derived.Laws.IdiomStrings
namespace Go.Eng
open Go

variable {P : Program} {ρ : Operand → Value} {h : Heap} {K : Value → Heap → Prop} {dst : Option Tmp} {ty : TypeId} {pos : String} {aft : Array Edge} {g : Option (Nat × Bool)}

/-- Bytes as values. -/
def bv (l : List UInt8) : List Value := l.map fun b => .int .u8 (b.toNat : Int)
theorem bv_length (l : List UInt8) : (bv l).length = l.length := by simp [bv]
theorem bv_append (a b : List UInt8) : bv (a ++ b) = bv a ++ bv b := by simp [bv]
theorem bv_take (l : List UInt8) (n : Nat) : (bv l).take n = bv (l.take n) := by simp [bv, List.map_take]
theorem bv_drop (l : List UInt8) (n : Nat) : (bv l).drop n = bv (l.drop n) := by simp [bv, List.map_drop]
theorem bv_scalar (l : List UInt8) : (bv l).all scalar = true := List.all_eq_true.2 (by intro v hv; obtain ⟨b, _, rfl⟩ := List.mem_map.1 hv; rfl)
theorem bv_one (l : List UInt8) : (bv l).all oneB = true := List.all_eq_true.2 (by intro v hv; obtain ⟨b, _, rfl⟩ := List.mem_map.1 hv; rfl)
theorem bv_get (l : List UInt8) (i : Nat) (b : UInt8) (hb : l[i]? = some b) : (bv l)[i]? = some (.int .u8 (b.toNat : Int)) := by simp [bv, hb]
def bstr (l : List UInt8) : ByteArray := ⟨l.toArray⟩

theorem VRels.bytes {φ : Ren} {n : Nat} : ∀ {l : List UInt8} {cs : List Value}, VRels φ n (bv l) cs → cs = bv l
  | [], cs, r => by cases r; rfl
  | b :: l, cs, r => by
    cases r with
    | cons hv t => rw [hv.int_inv, VRels.bytes t]; rfl

/-- A slice of bytes as a string. -/
theorem op_bytesStr {sT dT e : TypeId} {x : Operand} {i o m c : Nat} {s : Option Nat} {b : Blk} {l : List UInt8} [ts : TyD P sT (.slice e)] [te : TyD P e (.int .u8)] [td : TyD P dT .string] (hx : ρ x = .slice (some ⟨i, o, s⟩) m c)
    (hi : h.get i = some b) (hl : o + m ≤ b.cells.length) (hb : (b.cells.drop o).take m = bv l) (kk : K (.string (bstr l)) h) : AOp P ⟨dst, .convert sT dT x, ty, pos, aft, g⟩ ρ h K :=
  .of_pure kk fun φ ac w r => by
    obtain ⟨cap', a', e1, hlt, q1, q2, q3, q4, q5, q6⟩ := (hx ▸ r.ev x (by simp [Op.operands])).slice_inv
    have hll : l.length = m := by
      have := congrArg List.length hb
      simp [bv] at this
      omega
    refine ⟨.string (bstr l), ?_, .string _⟩
    have hcells : ∀ j (hj : j < l.length), w.cell? (a'.add j) = some (.int .u8 (l[j].toNat : Int)) := by
      intro j hj
      obtain rfl := q4.resolve_right (by omega)
      obtain ⟨cs, h1, h2, h3⟩ := r.sim.row hi o m hl
      rw [hb] at h1
      have hcs := h1.bytes
      refine h3 j _ ?_
      rw [hcs]
      exact bv_get l j _ (List.getElem?_eq_getElem hj)
    have hr := run_convert_bytes_back (P := P) w sT dT e a' cap' l ts.eq te.eq td.eq hcells
    rw [hll] at hr
    simp [execOp, e1, hr, bstr]
theorem op_nilStr {sT dT e : TypeId} {x : Operand} {m c : Nat} [ts : TyD P sT (.slice e)] [te : TyD P e (.int .u8)] [td : TyD P dT .string] (hx : ρ x = .slice none m c)
    (kk : K (.string ByteArray.empty) h) : AOp P ⟨dst, .convert sT dT x, ty, pos, aft, g⟩ ρ h K :=
  .of_pure kk fun φ ac w r => by
    obtain ⟨_, _, e1⟩ := (hx ▸ r.ev x (by simp [Op.operands])).nilSlice_inv
    exact ⟨_, by simp [execOp, e1, convert, ts.run, te.run, td.run, Conv.bytesToString], .string _⟩

/-- A string as a slice of bytes. -/
theorem op_strBytes {sT dT e : TypeId} {x : Operand} {st : ByteArray} [ts : TyD P sT .string] [te : TyD P e (.int .u8)] [td : TyD P dT (.slice e)] (hx : ρ x = .string st) (hs : st.size ≤ maxLen)
    (kk : K (.slice (some ⟨h.next, 0, some 1⟩) st.size (st.size + 1)) (h.alloc ⟨bv st.data.toList, e, true⟩)) : AOp P ⟨dst, .convert sT dT x, ty, pos, aft, g⟩ ρ h K :=
  .of_run fun φ ac w r => by
    have e1 := (hx ▸ r.ev x (by simp [Op.operands])).string_inv
    have hge := grownCap_ge w st.size 0 e
    have hle := grownCap_le_maxLen w st.size 0 e hs
    have hr := run_bytes_of_string (P := P) w sT dT e st ts.eq td.eq te.eq
    have hds : st.data.size = st.size := rfl
    have hsz : (bytesRow st (grownCap w st.size 0 e)).size = grownCap w st.size 0 e := by simp [bytesRow, hds]; omega
    obtain ⟨s1, s2⟩ := r.sim.drew.alloc (bv st.data.toList) (bytesRow st (grownCap w st.size 0 e)) e ((bytesRow st (grownCap w st.size 0 e)).size, (bytesRow st (grownCap w st.size 0 e)).size + 1)
      (.inr (Nat.le_refl _)) (by rw [hsz]; simp [bv_length, hds]; omega) (by
        intro k v hk
        refine ⟨v, ?_, ?_⟩
        · have hkl : k < st.data.size := by simpa [bv] using (List.getElem?_eq_some_iff.1 hk).1
          rw [← hk]
          simp only [bytesRow, bv]
          rw [Array.getElem?_append_left (by simpa using hkl)]
          simp
        · have := List.all_eq_true.1 (bv_scalar st.data.toList) v (List.mem_of_getElem? hk)
          exact .of_scalar this)
    refine ⟨_, _, _, _, _, by simp [execOp, e1, hr]; rfl, kk, ?_, s1, Step.drew.trans s2⟩
    refine .newSlice (by omega) hge (by omega) hle ?_
    intro t ht
    cases ht
    rw [hsz]
    omega

theorem appendNil_bytes {l : List UInt8} : (bv l).length = l.length := bv_length l

/-- copy: bytes of a slice into a row of the engine's own. -/
theorem op_copy {dT e : TypeId} {x y : Operand} {i o n c m by_ : Nat} {s : Option Nat} {z v : Value} {b : Blk} {news : List Value} {sT : TypeId} [td : TyD P dT (.slice e)] [ti : TyI P e 1 by_ z]
    (hx : ρ x = .slice (some ⟨i, o, s⟩) n c) (hy : ρ y = v) (hs : Src h 1 v m news) (hi : h.get i = some b) (ho : b.own = true) (hl : o + min m n ≤ b.cells.length) (hone : news.all oneB = true)
    (kk : K (.int .i64 (min m n : Nat)) (h.set i ⟨splice b.cells o (news.take (min m n)), b.elem, true⟩)) : AOp P ⟨dst, .call ⟨.builtin .copy, #[x, y], #[dT, sT]⟩, ty, pos, aft, g⟩ ρ h K :=
  .of_run fun φ ac w r => by
    obtain ⟨cap', a', e1, hlt, q1, q2, q3, q4, q5, q6⟩ := (hx ▸ r.ev x (by simp [Op.operands, Call.operands])).slice_inv
    obtain ⟨cs, p1, p2, p3, p4⟩ := hs.run r.sim (hy ▸ r.ev y (by simp [Op.operands, Call.operands]))
    have hml : news.length = m := by rw [p1.length, p2]; omega
    have hfirst : (Builtin.firstCells 1 (min m n) (ac.eval y)).run P w = .ok (cs.take (min m n)).toArray w := by
      have hv : VRel φ h.next v (ac.eval y) := hy ▸ r.ev y (by simp [Op.operands, Call.operands])
      cases hs with
      | nil => obtain ⟨_, _, e⟩ := hv.nilSlice_inv; rw [e]; simp at p2; subst p2; simp [Builtin.firstCells]
      | empty a cc =>
        obtain ⟨i', o', s'⟩ := a
        obtain ⟨cap'', a'', e, _⟩ := hv.slice_inv
        rw [e]; simp at p2; subst p2
        simp [Builtin.firstCells, loadCells, loadCellsFrom]
      | slice j p s' _ cc bj hj hlj =>
        obtain ⟨cap'', a'', e, hlt', u1, u2, u3, u4, u5, u6⟩ := hv.slice_inv
        rw [e]
        by_cases hm : min m n = 0
        · rw [hm]; simp [Builtin.firstCells, loadCells, loadCellsFrom]
        · obtain rfl := u4.resolve_right (by omega)
          obtain ⟨ds, d1, d2, d3⟩ := r.sim.row hj p (min m n) (by omega)
          have hfc := run_loadCells_list (P := P) w _ ds d3
          rw [d2] at hfc
          have hds : ds = cs.take (min m n) := by
            obtain ⟨es, f1, f2, f3⟩ := r.sim.row hj p (m * 1) (by omega)
            have hcs : cs = es := by
              have := run_loadCells_list (P := P) w _ es f3
              have h4 := p4 w rfl
              rw [e] at h4
              simp only [Builtin.firstCells] at h4
              rw [f2] at this
              rw [this] at h4
              simp at h4
              exact h4.symm
            rw [hcs]
            apply List.ext_getElem?
            intro k
            by_cases hk : k < min m n
            · rw [List.getElem?_take_of_lt hk]
              have h5 := d3 k ds[k] (List.getElem?_eq_getElem (by omega))
              have h6 := f3 k es[k] (List.getElem?_eq_getElem (by omega))
              rw [h5] at h6
              rw [List.getElem?_eq_getElem (show k < ds.length by omega), List.getElem?_eq_getElem (show k < es.length by omega)]
              exact h6
            · rw [List.getElem?_eq_none (by omega), List.getElem?_eq_none (by simp; omega)]
          rw [← hds]
          simpa [Builtin.firstCells] using hfc
      | str st h1 =>
        rw [hv.string_inv]
        have h4 := p4 w rfl
        rw [hv.string_inv] at h4
        simp only [Builtin.firstCells, Sem.run_pure] at h4 ⊢
        have h5 : (st.extract 0 st.size) = st := by
          apply ByteArray.ext
          simp
        rw [h5] at h4
        simp only [Result.ok.injEq, and_true] at h4 ⊢
        have h6 : cs = (st.data.map fun b => Value.int .u8 (b.toNat : Int)).toList := by rw [h4]
        rw [h6]
        apply Array.ext'
        simp
    have hr1 : VRels φ h.next (news.take (min m n)) (cs.take (min m n)) := .of (by simp [p1.length]) (fun j a b ha hb => by
      have hj : j < min m n := by have := (List.getElem?_eq_some_iff.1 ha).1; simp at this; omega
      rw [List.getElem?_take_of_lt hj] at ha hb
      obtain ⟨c', hc', hv⟩ := p1.get ha
      rw [hb] at hc'; cases hc'
      exact hv)
    have hone' : ∀ c ∈ cs.take (min m n), c.oneCell' = true := by
      intro c hc
      obtain ⟨j, hj⟩ := List.getElem?_of_mem (List.mem_of_mem_take hc)
      have hjl : j < news.length := by rw [p1.length]; exact (List.getElem?_eq_some_iff.1 hj).1
      have hx := List.getElem?_eq_getElem hjl
      obtain ⟨c', hc', hv⟩ := p1.get hx
      rw [hj] at hc'; cases hc'
      exact hv.one (List.all_eq_true.1 hone _ (List.getElem_mem hjl))
    obtain ⟨w', h3, h4, h5⟩ := r.sim.splice hi ho (o := o) hr1 (by simp; omega) hone'
    have hz : (φ i).o = 0 := by
      obtain ⟨_, _, _, h2, _⟩ := r.sim.owned hi ho
      exact h2.1
    have hst : (storeCells a' (cs.take (min m n))).run P w = .ok () w' := by
      by_cases hc0 : cap' = 0
      · have : min m n = 0 := by omega
        rw [this] at h3 ⊢
        exact h3
      · obtain rfl := q4.resolve_right hc0
        rw [hz, Nat.zero_add]
        exact h3
    refine ⟨_, w', φ, _, _, ?_, kk, .int _ _, h4, h5⟩
    have hmin : Nat.min m n = min m n := rfl
    simp [execOp, resolve, invoke, builtin, Builtin.copy_, td.run, p3, ti.size, e1, hmin, hfirst, hst, goInt]
end Go.Eng
