/-
  The engine, part L: slices by what they read as.
-/
import Derived.Test.YtdfehmmhlplhlaaEngK
namespace Go.Eng
open Go

variable {P : Program} {ρ : Operand → Value} {h : Heap} {K : Value → Heap → Prop} {dst : Option Tmp} {ty : TypeId} {pos : String} {aft : Array Edge} {g : Option (Nat × Bool)}

/-- A piece of a slice; the place of an element. -/
def subS (v : Value) (l m : Int) : Value :=
  match v with
  | .slice (some ⟨i, o, s⟩) _ c => .slice (some ⟨i, o + l.toNat * 1, s⟩) (m - l).toNat (c - l.toNat)
  | _ => .slice none 0 0
def ptrS (v : Value) (a : Int) : Value :=
  match v with
  | .slice (some ⟨i, o, _⟩) _ _ => .pointer (some ⟨i, o + a.toNat * 1, none⟩)
  | _ => undef
/-- The value v is a slice whose elements, of one cell each, are vs. -/
def RS (h : Heap) (v : Value) (vs : List Value) : Prop :=
  (v = .slice none 0 0 ∧ vs = []) ∨
  ∃ i o s c, v = .slice (some ⟨i, o, s⟩) vs.length c ∧ (s = none ∨ s = some 1) ∧ (vs ≠ [] → ∃ b, h.get i = some b ∧ o + vs.length ≤ b.cells.length ∧ (b.cells.drop o).take vs.length = vs)
/-- A slice of bytes. -/
def RB (h : Heap) (v : Value) (l : List UInt8) : Prop := RS h v (bv l)
/-- A slice of slices of bytes. -/
def RBB (h : Heap) (v : Value) (ll : List (List UInt8)) : Prop := ∃ vs, RS h v vs ∧ vs.length = ll.length ∧ ∀ (k : Nat) x l, vs[k]? = some x → ll[k]? = some l → RB h x l

theorem RS.ext {h h' : Heap} {v : Value} {vs : List Value} (r : RS h v vs) (hx : Ext h h') : RS h' v vs := by
  rcases r with r | ⟨i, o, s, c, h1, h2, h3⟩
  · exact .inl r
  · exact .inr ⟨i, o, s, c, h1, h2, fun hv => by obtain ⟨b, h4, h5⟩ := h3 hv; exact ⟨b, hx i b h4, h5⟩⟩
theorem RB.ext {h h' : Heap} {v : Value} {l : List UInt8} (r : RB h v l) (hx : Ext h h') : RB h' v l := RS.ext r hx
theorem RBB.ext {h h' : Heap} {v : Value} {l : List (List UInt8)} (r : RBB h v l) (hx : Ext h h') : RBB h' v l := by
  obtain ⟨vs, h1, h2, h3⟩ := r
  exact ⟨vs, h1.ext hx, h2, fun k x l hk hl => (h3 k x l hk hl).ext hx⟩
theorem RS.slice {v : Value} {vs : List Value} (r : RS h v vs) : ∃ a c, v = .slice a vs.length c := by
  rcases r with ⟨rfl, rfl⟩ | ⟨i, o, s, c, h1, _⟩
  · exact ⟨none, 0, rfl⟩
  · exact ⟨_, c, h1⟩
theorem RS.nil (h : Heap) : RS h (.slice none 0 0) [] := .inl ⟨rfl, rfl⟩
theorem RB.nil (h : Heap) : RB h (.slice none 0 0) [] := .inl ⟨rfl, rfl⟩
theorem RS.of {i o n c : Nat} {s : Option Nat} {b : Blk} {vs : List Value} (hi : h.get i = some b) (hs : s = none ∨ s = some 1) (hn : vs.length = n) (hl : o + n ≤ b.cells.length) (hv : (b.cells.drop o).take n = vs) : RS h (.slice (some ⟨i, o, s⟩) n c) vs := by
  subst hn
  exact .inr ⟨i, o, s, c, rfl, hs, fun _ => ⟨b, hi, hl, hv⟩⟩
theorem RS.own {i n c : Nat} {e : TypeId} {w : Bool} {vs : List Value} (hi : h.get i = some ⟨vs, e, w⟩) (hn : vs.length = n) : RS h (.slice (some ⟨i, 0, some 1⟩) n c) vs := by
  subst hn
  exact .inr ⟨i, 0, some 1, c, rfl, .inr rfl, fun _ => ⟨_, hi, by simp, by simp⟩⟩
theorem RS.src {v : Value} {vs : List Value} (r : RS h v vs) : Src h 1 v vs.length vs := by
  rcases r with ⟨rfl, rfl⟩ | ⟨i, o, s, c, rfl, hs, hb⟩
  · exact .nil
  · by_cases hv : vs = []
    · subst hv; exact .empty _ _
    · obtain ⟨b, h1, h2, h3⟩ := hb hv
      have := Src.slice (h := h) (sz := 1) i o s vs.length c b h1 (by omega)
      rw [Nat.mul_one, h3] at this
      exact this
theorem RB.src {v : Value} {l : List UInt8} (r : RB h v l) : Src h 1 v l.length (bv l) := by
  have := RS.src r
  rwa [bv_length] at this

theorem op_lenR {x : Operand} {t e : TypeId} {v : Value} {vs : List Value} [td : TyD P t (.slice e)] (r : RS h v vs) (hx : ρ x = v) (kk : K (.int .i64 vs.length) h) :
    AOp P ⟨dst, .call ⟨.builtin .len, #[x], #[t]⟩, ty, pos, aft, g⟩ ρ h K := by
  obtain ⟨a, c, e⟩ := r.slice
  exact op_lenS (hx.trans e) kk
theorem op_lenRB {x : Operand} {t e : TypeId} {v : Value} {l : List UInt8} [td : TyD P t (.slice e)] (r : RB h v l) (hx : ρ x = v) (kk : K (.int .i64 l.length) h) :
    AOp P ⟨dst, .call ⟨.builtin .len, #[x], #[t]⟩, ty, pos, aft, g⟩ ρ h K := op_lenR r hx (by rw [bv_length]; exact kk)
theorem op_lenRBB {x : Operand} {t e : TypeId} {v : Value} {l : List (List UInt8)} [td : TyD P t (.slice e)] (r : RBB h v l) (hx : ρ x = v) (kk : K (.int .i64 l.length) h) :
    AOp P ⟨dst, .call ⟨.builtin .len, #[x], #[t]⟩, ty, pos, aft, g⟩ ρ h K := by
  obtain ⟨vs, h1, h2, _⟩ := r
  exact op_lenR h1 hx (by rw [h2]; exact kk)

/-- A pointer to a cell that is known. -/
def PT (h : Heap) (p v : Value) : Prop := ∃ i o s b, p = .pointer (some ⟨i, o, s⟩) ∧ h.get i = some b ∧ b.cells[o]? = some v
theorem PT.ext {h h' : Heap} {p v : Value} (r : PT h p v) (hx : Ext h h') : PT h' p v := by
  obtain ⟨i, o, s, b, h1, h2, h3⟩ := r
  exact ⟨i, o, s, b, h1, hx i b h2, h3⟩
theorem op_indexD {t e : TypeId} {x y : Operand} {by_ : Nat} {z v u : Value} {k : IntKind} {a : Int} {vs : List Value} [td : TyD P t (.slice e)] [ti : TyI P e 1 by_ z] (r : RS h v vs) (hx : ρ x = v) (hy : ρ y = .int k a) (h0 : 0 ≤ a)
    (hu : vs[a.toNat]? = some u) (kk : PT h (ptrS v a) u → K (ptrS v a) h) : AOp P ⟨dst, .indexAddr t x y, ty, pos, aft, g⟩ ρ h K := by
  have hl := (List.getElem?_eq_some_iff.1 hu).1
  rcases r with ⟨rfl, rfl⟩ | ⟨i, o, s, c, rfl, hs, hb⟩
  · simp at hl
  · obtain ⟨b, h1, h2, h3⟩ := hb (by intro e; subst e; simp at hl)
    refine op_indexS hx hy h0 (by omega) (kk ⟨i, o + a.toNat * 1, none, b, rfl, h1, ?_⟩)
    rw [Nat.mul_one]
    have : ((b.cells.drop o).take vs.length)[a.toNat]? = some u := by rw [h3]; exact hu
    rw [List.getElem?_take_of_lt hl, List.getElem?_drop] at this
    exact this
theorem op_indexR {t e : TypeId} {x y : Operand} {by_ : Nat} {z v u : Value} {k : IntKind} {a : Int} {vs : List Value} [td : TyD P t (.slice e)] [ti : TyI P e 1 by_ z] (r : RS h v vs) (hx : ρ x = v) (hy : ρ y = .int k a) (h0 : 0 ≤ a)
    (hu : vs[a.toNat]? = some u) (kk : ∀ p, PT h p u → K p h) : AOp P ⟨dst, .indexAddr t x y, ty, pos, aft, g⟩ ρ h K := op_indexD r hx hy h0 hu (kk _)
theorem PT.of {v u : Value} {vs : List Value} {a : Int} (r : RS h v vs) (hu : vs[a.toNat]? = some u) : PT h (ptrS v a) u := by
  have hl := (List.getElem?_eq_some_iff.1 hu).1
  rcases r with ⟨rfl, rfl⟩ | ⟨i, o, s, c, rfl, hs, hb⟩
  · simp at hl
  · obtain ⟨b, h1, h2, h3⟩ := hb (by intro e; subst e; simp at hl)
    refine ⟨i, o + a.toNat * 1, none, b, rfl, h1, ?_⟩
    rw [Nat.mul_one]
    have : ((b.cells.drop o).take vs.length)[a.toNat]? = some u := by rw [h3]; exact hu
    rw [List.getElem?_take_of_lt hl, List.getElem?_drop] at this
    exact this
theorem op_loadR {t : TypeId} {x : Operand} {p v : Value} {d : TypeDesc} [td : TyD P t d] (r : PT h p v) (hx : ρ x = p) (ha : aggB d = false) (kk : K v h) : AOp P ⟨dst, .load t x, ty, pos, aft, g⟩ ρ h K := by
  obtain ⟨i, o, s, b, rfl, h1, h2⟩ := r
  exact op_load hx ha h1 h2 kk

theorem RS.sub {v : Value} {vs : List Value} {l m : Int} (r : RS h v vs) (h0 : 0 ≤ l) (h1 : l ≤ m) (h2 : m ≤ vs.length) : RS h (subS v l m) ((vs.take m.toNat).drop l.toNat) := by
  rcases r with ⟨rfl, rfl⟩ | ⟨i, o, s, c, rfl, hs, hb⟩
  · exact .inl ⟨rfl, by simp⟩
  · have hlen : ((vs.take m.toNat).drop l.toNat).length = (m - l).toNat := by simp; omega
    refine .inr ⟨i, o + l.toNat * 1, s, c - l.toNat, by rw [hlen]; rfl, hs, fun hne => ?_⟩
    have hv : vs ≠ [] := by intro e; subst e; simp at hne
    obtain ⟨b, q1, q2, q3⟩ := hb hv
    refine ⟨b, q1, by rw [hlen]; omega, ?_⟩
    rw [hlen, Nat.mul_one]
    have : (vs.take m.toNat).drop l.toNat = ((((b.cells.drop o).take vs.length).take m.toNat).drop l.toNat) := by rw [q3]
    rw [this, List.take_take, List.drop_take, List.drop_drop]
    congr 1
    omega
theorem op_sliceD {t e : TypeId} {x : Operand} {lo hi : Option Operand} {by_ : Nat} {z v : Value} {l m : Int} {vs : List Value} [td : TyD P t (.slice e)] [ti : TyI P e 1 by_ z] (r : RS h v vs) (hx : ρ x = v)
    (hl : bnd ρ lo 0 = some l) (hm : bnd ρ hi vs.length = some m) (h0 : 0 ≤ l) (h1 : l ≤ m) (h2 : m ≤ vs.length) (kk : K (subS v l m) h) : AOp P ⟨dst, .slice t x lo hi none, ty, pos, aft, g⟩ ρ h K := by
  rcases r with ⟨rfl, rfl⟩ | ⟨i, o, s, c, rfl, hs, hb⟩
  · simp only [List.length_nil] at h2 hm
    obtain rfl : l = 0 := by omega
    obtain rfl : m = 0 := by omega
    exact op_sliceNil hx hl hm kk
  · exact op_slice hx hl hm h0 h1 h2 hs kk
theorem RB.sub {v : Value} {bs : List UInt8} {l m : Int} (r : RB h v bs) (h0 : 0 ≤ l) (h1 : l ≤ m) (h2 : m ≤ bs.length) : RB h (subS v l m) ((bs.take m.toNat).drop l.toNat) := by
  have := RS.sub (l := l) (m := m) r h0 h1 (by rw [bv_length]; exact h2)
  rw [bv_take, bv_drop] at this
  exact this
theorem op_sliceDB {t e : TypeId} {x : Operand} {lo hi : Option Operand} {by_ : Nat} {z v : Value} {l m : Int} {bs : List UInt8} [td : TyD P t (.slice e)] [ti : TyI P e 1 by_ z] (r : RB h v bs) (hx : ρ x = v)
    (hl : bnd ρ lo 0 = some l) (hm : bnd ρ hi bs.length = some m) (h0 : 0 ≤ l) (h1 : l ≤ m) (h2 : m ≤ bs.length) (kk : K (subS v l m) h) : AOp P ⟨dst, .slice t x lo hi none, ty, pos, aft, g⟩ ρ h K :=
  op_sliceD r hx hl (by rw [bv_length]; exact hm) h0 h1 (by rw [bv_length]; exact h2) kk
theorem op_sliceR {t e : TypeId} {x : Operand} {lo hi : Option Operand} {by_ : Nat} {z v : Value} {l m : Int} {vs : List Value} [td : TyD P t (.slice e)] [ti : TyI P e 1 by_ z] (r : RS h v vs) (hx : ρ x = v)
    (hl : bnd ρ lo 0 = some l) (hm : bnd ρ hi vs.length = some m) (h0 : 0 ≤ l) (h1 : l ≤ m) (h2 : m ≤ vs.length) (kk : ∀ u, RS h u ((vs.take m.toNat).drop l.toNat) → K u h) : AOp P ⟨dst, .slice t x lo hi none, ty, pos, aft, g⟩ ρ h K :=
  op_sliceD r hx hl hm h0 h1 h2 (kk _ (r.sub h0 h1 h2))
theorem op_sliceRB {t e : TypeId} {x : Operand} {lo hi : Option Operand} {by_ : Nat} {z v : Value} {l m : Int} {bs : List UInt8} [td : TyD P t (.slice e)] [ti : TyI P e 1 by_ z] (r : RB h v bs) (hx : ρ x = v)
    (hl : bnd ρ lo 0 = some l) (hm : bnd ρ hi bs.length = some m) (h0 : 0 ≤ l) (h1 : l ≤ m) (h2 : m ≤ bs.length) (kk : ∀ u, RB h u ((bs.take m.toNat).drop l.toNat) → K u h) : AOp P ⟨dst, .slice t x lo hi none, ty, pos, aft, g⟩ ρ h K :=
  op_sliceR r hx hl (by rw [bv_length]; exact hm) h0 h1 (by rw [bv_length]; exact h2) fun u hu => kk u (by rw [bv_take, bv_drop] at hu; exact hu)

theorem op_bytesStrR {sT dT e : TypeId} {x : Operand} {v : Value} {l : List UInt8} [ts : TyD P sT (.slice e)] [te : TyD P e (.int .u8)] [td : TyD P dT .string] (r : RB h v l) (hx : ρ x = v) (kk : K (.string (bstr l)) h) : AOp P ⟨dst, .convert sT dT x, ty, pos, aft, g⟩ ρ h K := by
  rcases r with ⟨rfl, hl⟩ | ⟨i, o, s, c, rfl, hs, hb⟩
  · have : l = [] := by cases l with | nil => rfl | cons _ _ => simp [bv] at hl
    subst this
    exact op_nilStr hx kk
  · rw [bv_length] at hx hb
    by_cases hv : l = []
    · subst hv
      refine .of_pure kk fun φ ac w r => ?_
      obtain ⟨cap', a', e1, _⟩ := (hx ▸ r.ev x (by simp [Op.operands])).slice_inv
      refine ⟨.string (bstr []), ?_, .string _⟩
      have hr := run_convert_bytes_back (P := P) w sT dT e a' cap' [] ts.eq te.eq td.eq (by intro j hj; simp at hj)
      simp only [List.length_nil] at hr e1
      simp [execOp, e1, hr, bstr]
    · obtain ⟨b, h1, h2, h3⟩ := hb (by cases l with | nil => exact absurd rfl hv | cons _ _ => simp [bv])
      exact op_bytesStr hx h1 h2 h3 kk

theorem RS.one {v : Value} {vs : List Value} (r : RS h v vs) : oneB v = true ∧ v ≠ undef := by
  obtain ⟨a, c, e⟩ := r.slice
  subst e
  exact ⟨rfl, fun h => by cases h⟩
theorem fillRow {n : Nat} : ∀ (vs : List Value) (k : Nat) (cells : List Value), (∀ v ∈ vs, oneB v = true) → k + vs.length ≤ cells.length → n = cells.length →
    fillA (fun i => some (i * 1, 1)) cells ((List.range' k vs.length).zip vs) = some (splice cells k vs)
  | [], k, cells, _, _, _ => by simp [fillA, splice]
  | v :: vs, k, cells, h1, h2, h3 => by
    have hc : v.cells = #[v] := by
      have := h1 v (by simp)
      cases v <;> first | rfl | (simp [oneB] at this)
    simp only [List.length_cons] at h2
    simp only [List.length_cons, List.range'_succ, List.zip_cons_cons, fillA, hc, Nat.mul_one]
    have hne : ¬ ((decide ((#[v] : Array Value).size ≠ 1) || decide (k + (#[v] : Array Value).size > cells.length)) = true) := by
      simp only [List.size_toArray, List.length_cons, List.length_nil]
      simp
      omega
    rw [if_neg hne]
    have ih := fillRow vs (k + 1) (splice cells k [v]) (fun u hu => h1 u (by simp [hu])) (by rw [length_splice (by simp; omega)]; omega) (h3.trans (length_splice (by simp; omega)).symm)
    simp only [Nat.mul_one] at ih
    rw [ih]
    congr 1
    apply List.ext_getElem?
    intro j
    rw [splice_get _ _ _ (by rw [length_splice (by simp; omega)]; omega), splice_get _ _ _ (by simp; omega), splice_get _ _ _ (by simp only [List.length_cons]; omega)]
    by_cases e1 : j = k
    · subst e1
      rw [if_neg (by omega), if_pos (by simp), if_pos (by simp)]
      simp
    · by_cases e2 : k + 1 ≤ j ∧ j < k + 1 + vs.length
      · rw [if_pos e2, if_pos (by simp; omega)]
        rw [show j - k = (j - (k + 1)) + 1 from by omega]
        simp
      · rw [if_neg e2, if_neg (by simp; omega), if_neg (by simp; omega)]
theorem splice_all (cells vs : List Value) (hl : vs.length = cells.length) : splice cells 0 vs = vs := by
  simp [splice, hl]
/-- A slice's literal whose parts are all there, in their order. -/
theorem op_row {t e by_ : Nat} {z : Value} {len : Nat} {parts : Array (Nat × Operand)} (vs : List Value) [td : TyD P t (.slice e)] [ti : TyI P e 1 by_ z] (hz : oneB z = true) (hl : Nat.ble len 16777216 = true) (hp : parts.toList.map (fun p => (p.1, ρ p.2)) = (List.range' 0 vs.length).zip vs) (hlen : vs.length = len)
    (h1 : ∀ v ∈ vs, oneB v = true) (kk : K (.slice (some ⟨h.next, 0, some 1⟩) len len) (h.alloc ⟨vs, e, true⟩)) : AOp P ⟨dst, .buildSlice t len parts, ty, pos, aft, g⟩ ρ h K := by
  refine op_buildSlice (out := vs) hz (Nat.le_of_ble_eq_true hl) ?_ ?_ hlen kk
  · intro p hpm hu
    have hm : (p.1, ρ p.2) ∈ parts.toList.map (fun p => (p.1, ρ p.2)) := List.mem_map.2 ⟨p, hpm, rfl⟩
    rw [hp] at hm
    have hv := (List.of_mem_zip hm).2
    rw [hu] at hv
    have := h1 _ hv
    cases this
  · rw [hp]
    have hrow := fillRow (n := len) vs 0 (List.replicate len z) h1 (by simp; omega) (by simp)
    rw [hrow, splice_all _ _ (by simp; omega)]
/-- A slice of bytes as one of its own type: nothing turns. -/
theorem op_convSame {t e : TypeId} {x : Operand} {i o n c : Nat} {s : Option Nat} {b : Blk} [td : TyD P t (.slice e)] [te : TyD P e (.int .u8)] (hx : ρ x = .slice (some ⟨i, o, s⟩) n c) (hn : Nat.blt 0 n = true) (hi : h.get i = some b) (ho : b.own = true) (kk : K (.slice (some ⟨i, o, s⟩) n c) h) :
    AOp P ⟨dst, .convert t t x, ty, pos, aft, g⟩ ρ h K :=
  .of_run fun φ ac w r => by
    have hv := hx ▸ r.ev x (by simp [Op.operands])
    obtain ⟨cap', a', e1, hlt, q1, q2, q3, q4, q5, q6⟩ := hv.slice_inv
    have hn0 : 0 < n := by simpa [Nat.blt_eq] using hn
    obtain rfl := q4.resolve_right (by omega)
    obtain ⟨arr, fr, a1, a2, a3, a4, a5⟩ := r.sim.owned hi ho
    have hsh : w.shape? (φ i).b = some (b.elem, arr.size) := by simp [World.shape?, a1]
    have hrun : (execOp ac.eval ⟨dst, .convert t t x, ty, pos, aft, g⟩).run P w = .ok (.value (ac.eval x)) (w.freeze ⟨(φ i).b, arr.size, none⟩ 1) := by
      have hm : (markStringish ⟨(φ i).b, (φ i).o + o, none⟩).run P w = .ok () (w.freeze ⟨(φ i).b, arr.size, none⟩ 1) := by
        simp [markStringish, hsh]
      simp [execOp, e1, convert, td.run, te.run, hm]
    have hheap : ∀ k : Nat, (w.freeze ⟨(φ i).b, arr.size, none⟩ 1).heap[k]? = if k = (φ i).b then some (.cells arr b.elem (if fr.1 == fr.2 then (arr.size, arr.size + 1) else (min fr.1 arr.size, max fr.2 (arr.size + 1)))) else w.heap[k]? := by
      intro k
      simp only [World.freeze, Nat.one_ne_zero, if_false, Array.getElem?_modify]
      by_cases hk : k = (φ i).b
      · subst hk
        rw [if_pos rfl, if_pos rfl, a1]
        obtain ⟨lo, hi'⟩ := fr
        rfl
      · rw [if_neg (fun e => hk e.symm), if_neg hk]
    obtain ⟨s1, s2⟩ := r.sim.write hi ho a1 (w' := w.freeze ⟨(φ i).b, arr.size, none⟩ 1) (arr' := arr) rfl (by
      split
      · exact .inr (Nat.le_refl _)
      · rename_i hne
        have hne' : fr.1 ≠ fr.2 := by simpa using hne
        rcases a3 with a3 | a3
        · exact absurd a3 hne'
        · right
          show arr.size ≤ min fr.1 arr.size
          omega) hheap (by simp [World.freeze]) (by simp [World.freeze]) (by simp [World.freeze]) b.cells a4 a5
    have hb : h.set i ⟨b.cells, b.elem, true⟩ = h := by
      have : (⟨b.cells, b.elem, true⟩ : Blk) = b := by cases b; simp_all
      rw [this]
      cases h with
      | mk gt nx =>
        simp only [Heap.set, Heap.mk.injEq, and_true]
        funext j
        by_cases hj : j = i
        · subst hj; simp only [if_true]; exact hi.symm
        · simp [hj]
    rw [hb] at s1 s2
    exact ⟨_, _, φ, h, _, hrun, kk, hv, s1, s2⟩

/-- Slices of bytes, one behind the other. -/
def RBs (h : Heap) : List Value → List (List UInt8) → Prop
  | [], [] => True
  | v :: vs, l :: ll => RB h v l ∧ RBs h vs ll
  | _, _ => False
theorem RBs.at {h : Heap} : ∀ {vs : List Value} {ll : List (List UInt8)}, RBs h vs ll → vs.length = ll.length ∧ ∀ (k : Nat) x l, vs[k]? = some x → ll[k]? = some l → RB h x l
  | [], [], _ => ⟨rfl, fun k x l hk => by simp at hk⟩
  | v :: vs, l :: ll, ⟨h1, h2⟩ => by
    obtain ⟨e, h3⟩ := RBs.at h2
    refine ⟨by simp [e], fun k x l' hk hl => ?_⟩
    cases k with
    | zero => simp at hk hl; subst hk hl; exact h1
    | succ k => exact h3 k x l' (by simpa using hk) (by simpa using hl)
  | [], _ :: _, h => h.elim
  | _ :: _, [], h => h.elim
theorem RBB.row {h : Heap} {i n c : Nat} {e : TypeId} {w : Bool} {vs : List Value} {ll : List (List UInt8)} (hg : h.get i = some ⟨vs, e, w⟩) (hn : vs.length = n) (r : RBs h vs ll) : RBB h (.slice (some ⟨i, 0, some 1⟩) n c) ll :=
  ⟨vs, RS.own hg hn, r.at.1, r.at.2⟩
theorem RBB.nil (h : Heap) : RBB h (.slice none 0 0) [] := ⟨[], RS.nil h, rfl, fun k x l hk => by simp at hk⟩
theorem bv_ones (l : List UInt8) : ∀ v ∈ bv l, oneB v = true := List.all_eq_true.1 (bv_one l)

/-! From a world to an abstract heap: what comes in is read, never written. -/
structure RoB where
  cells : List Value
  at_ : Addr
def roHeap (G : Nat) (bs : List RoB) : Heap := ⟨fun i => if i < G then none else (bs[i - G]?).bind fun b => if b.cells.isEmpty then none else some ⟨b.cells, 0, false⟩, G + bs.length⟩
def roRen (G : Nat) (bs : List RoB) : Ren := fun i => if i < G then ⟨i, 0, 0⟩ else match bs[i - G]? with
  | some b => ⟨b.at_.block, b.at_.off, 0⟩
  | none => ⟨0, 0, 0⟩
def roOk (G : Nat) (bs : List RoB) (W : World) : Prop := ∀ b ∈ bs, b.at_.spot = none ∧ ∀ (k : Nat) v, b.cells[k]? = some v → ∃ c, W.cell? (b.at_.add k) = some c ∧ VRel (roRen G bs) (G + bs.length) v c
theorem roSim {bs : List RoB} {W : World} (hok : roOk P.globals.size bs W) : Sim P (roRen P.globals.size bs) (roHeap P.globals.size bs) W := by
  have key : ∀ i b, (roHeap P.globals.size bs).get i = some b → ∃ rb, P.globals.size ≤ i ∧ bs[i - P.globals.size]? = some rb ∧ b = ⟨rb.cells, 0, false⟩ ∧ rb.cells ≠ [] := by
    intro i b hb
    have : (if i < P.globals.size then none else (bs[i - P.globals.size]?).bind fun b => if b.cells.isEmpty then none else some (⟨b.cells, 0, false⟩ : Blk)) = some b := hb
    split at this
    · cases this
    · cases hq : bs[i - P.globals.size]? with
      | none => rw [hq] at this; cases this
      | some rb =>
        rw [hq] at this
        simp only [Option.bind_some] at this
        split at this
        · cases this
        · rename_i hne
          cases this
          exact ⟨rb, by omega, rfl, rfl, by simpa using hne⟩
  have hren : ∀ i rb, P.globals.size ≤ i → bs[i - P.globals.size]? = some rb → roRen P.globals.size bs i = ⟨rb.at_.block, rb.at_.off, 0⟩ := by
    intro i rb hi hq
    simp only [roRen]
    rw [if_neg (by omega), hq]
  have hcell : ∀ (rb : RoB), rb ∈ bs → ∀ (k : Nat) v, rb.cells[k]? = some v → ∃ c, W.cell? ⟨rb.at_.block, rb.at_.off + k, none⟩ = some c ∧ VRel (roRen P.globals.size bs) (P.globals.size + bs.length) v c := by
    intro rb hm k v hk
    obtain ⟨h1, h2⟩ := hok rb hm
    obtain ⟨c, h3, h4⟩ := h2 k v hk
    refine ⟨c, ?_, h4⟩
    obtain ⟨⟨bl, of_, sp⟩⟩ : ∃ a, a = rb.at_ := ⟨_, rfl⟩
    rw [show (⟨rb.at_.block, rb.at_.off + k, none⟩ : Addr) = rb.at_.add k from by
      cases ha : rb.at_ with
      | mk bl of_ sp =>
        rw [ha] at h1
        simp only at h1
        subst h1
        rw [Addr.add_lit]]
    exact h3
  refine ⟨?_, ?_, ?_, ?_, ?_⟩
  · intro i hi
    have h1 : P.globals.size + bs.length ≤ i := hi
    show (if i < P.globals.size then none else _) = none
    rw [if_neg (by omega), List.getElem?_eq_none (by omega)]
    rfl
  · intro i b hb
    obtain ⟨rb, h1, h2, rfl, h4⟩ := key i b hb
    simp only [BRel, Bool.false_eq_true, if_false]
    intro k v hk
    rw [hren i rb h1 h2]
    exact hcell rb (List.mem_of_getElem? h2) k v hk
  · intro i b hb
    obtain ⟨rb, h1, h2, rfl, h4⟩ := key i b hb
    rw [hren i rb h1 h2]
    obtain ⟨c, hc, _⟩ := hcell rb (List.mem_of_getElem? h2) 0 _ (List.getElem?_eq_getElem (by
      rcases Nat.eq_zero_or_pos rb.cells.length with h5 | h5
      · exact absurd (List.eq_nil_of_length_eq_zero h5) h4
      · exact h5))
    have := World.block_lt_of_cell? W _ hc
    exact this
  · intro i j b hb ho
    obtain ⟨rb, h1, h2, rfl, h4⟩ := key i b hb
    cases ho
  · intro gl hg
    refine ⟨?_, ?_⟩
    · simp [roRen, hg]
    · show gl < P.globals.size + bs.length
      omega

/-- A law: it comes back true, and nothing that was there has turned. -/
theorem law_calls {f : FuncId} {bs : List RoB} {W : World} {args cargs : List Value} (hok : roOk P.globals.size bs W) (hargs : VRels (roRen P.globals.size bs) (P.globals.size + bs.length) args cargs)
    (p : ACalls P f args (roHeap P.globals.size bs) fun v _ => v = .bool true) : Calls P f cargs.toArray W fun e W' => e = .returned (.bool true) ∧ Go.RowKit.Below W.heap.size W W' :=
  (p _ W cargs (roSim hok) hargs).mono fun e W' hr => by
    cases e with
    | returned c =>
      obtain ⟨v, h', φ', rfl, hv, _, st⟩ := hr
      refine ⟨by rw [hv.bool_inv], st.os, st.tape, st.output, st.size, fun k hk => st.frame k hk ?_⟩
      rintro ⟨i, b, hb, ho, _⟩
      have : (if i < P.globals.size then none else (bs[i - P.globals.size]?).bind fun b => if b.cells.isEmpty then none else some (⟨b.cells, 0, false⟩ : Blk)) = some b := hb
      split at this
      · cases this
      · cases hq : bs[i - P.globals.size]? with
        | none => rw [hq] at this; cases this
        | some rb =>
          rw [hq] at this
          simp only [Option.bind_some] at this
          split at this
          · cases this
          · cases this; cases ho
    | panicked c => exact hr.elim
    | outgrown => exact hr.elim
end Go.Eng
