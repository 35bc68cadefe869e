/-
  Texts of one claim, merged: 4 parts.
-/
import Derived.Test.YtigmojilaadbhaaGreatDoorMub
import Derived.Laws.IdiomStrings
set_option maxHeartbeats 16000000
/- . -/
namespace Go.Eng
open Go
variable {P : Program} {ρ : Operand → Value} {h : Heap} {K : Value → Heap → Prop} {dst : Option Tmp} {ty : TypeId} {pos : String} {aft : Array Edge} {g : Option (Nat × Bool)}
theorem qfZ {t : TypeId} {x : Operand} {f i o sz by_ : Nat} {z : Value} {s : Option Nat} {fs : Array Field} {fld : Field} [td : TyD P t (.struct fs)] (hf : fs[f]? = some fld) [ti : TyI P fld.type sz by_ z]
  (hz : (sz == 0) = false) (hx : ρ x = .pointer (some ⟨i, o, s⟩)) (kk : K (.pointer (some ⟨i, o + fld.offset, none⟩)) h) : AOp P ⟨dst, .fieldAddr t x f, ty, pos, aft, g⟩ ρ h K :=
 .of_pure kk fun φ ac w r => by
  obtain ⟨_, hlt, e1⟩ := (hx ▸ r.ev x (by simp [Op.operands])).ptr_inv
  have hz' : ¬ sz = 0 := by simpa using hz
  refine ⟨.pointer (some ⟨(φ i).b, (φ i).o + (o + fld.offset), none⟩), ?_, .ptr _ _ hlt⟩
  simp [execOp, e1, Instr.fieldAt, Instr.sureAddr, td.run, hf, fieldPlace, ti.size, hz', Addr.add_lit, Nat.add_assoc]
theorem qd3 {t e : TypeId} {x y : Operand} {i o len cap sz by_ : Nat} {z : Value} {s : Option Nat} {k : IntKind} {a : Int} [td : TyD P t (.slice e)] [ti : TyI P e sz by_ z]
  (hx : ρ x = .slice (some ⟨i, o, s⟩) len cap) (hy : ρ y = .int k a) (h0 : 0 ≤ a) (h1 : a < len) (kk : K (.pointer (some ⟨i, o + a.toNat * sz, none⟩)) h) : AOp P ⟨dst, .indexAddr t x y, ty, pos, aft, g⟩ ρ h K :=
 .of_pure kk fun φ ac w r => by
  obtain ⟨cap', a', e1, hlt, q1, q2, q3, q4, q5, q6⟩ := (hx ▸ r.ev x (by simp [Op.operands])).slice_inv
  have e2 := (hy ▸ r.ev y (by simp [Op.operands])).int_inv
  have e3 : a' = ⟨(φ i).b, (φ i).o + o, none⟩ := q4.resolve_right (by omega)
  refine ⟨.pointer (some ⟨(φ i).b, (φ i).o + (o + a.toNat * sz), none⟩), ?_, .ptr _ _ hlt⟩
  simp [execOp, e1, e2, e3, Instr.indexAt, asIntOf, td.run, h0, h1, ti.size, Addr.add_lit, Nat.add_assoc]
theorem qaM {t : TypeId} {x y : Operand} {k : IntKind} {a : Int} {st : ByteArray} {b : UInt8} [td : TyD P t .string]
  (hx : ρ x = .string st) (hy : ρ y = .int k a) (h0 : 0 ≤ a) (hb : st[a.toNat]? = some b) (kk : K (.int .u8 b.toNat) h) : AOp P ⟨dst, .index t x y, ty, pos, aft, g⟩ ρ h K :=
 .of_pure kk fun φ ac w r => by
  have e1 := (hx ▸ r.ev x (by simp [Op.operands])).string_inv
  have e2 := (hy ▸ r.ev y (by simp [Op.operands])).int_inv
  refine ⟨_, ?_, .int _ _⟩
  simp [execOp, e1, e2, Instr.index, asIntOf, td.run, h0, hb]
theorem qdL {t : TypeId} {x : Operand} {f : Nat} {fs : Array Field} {fld : Field} {d : TypeDesc} {vs : Array Value} {v : Value} [td : TyD P t (.struct fs)] (hf : fs[f]? = some fld) [te : TyD P fld.type d] (ha : aggB d = false)
  (hx : ρ x = .agg vs) (hv : vs[fld.offset]? = some v) (kk : K v h) : AOp P ⟨dst, .field t x f, ty, pos, aft, g⟩ ρ h K :=
 .of_pure kk fun φ ac w r => by
  obtain ⟨cs, e1, hs, hr⟩ := (hx ▸ r.ev x (by simp [Op.operands])).agg_inv
  have hl : fld.offset < cs.size := by rw [← hs]; exact (Array.getElem?_eq_some_iff.1 hv).1
  have hc := Array.getElem?_eq_getElem hl
  refine ⟨cs[fld.offset], ?_, hr _ _ _ hv hc⟩
  simp [execOp, e1, Instr.field, asAgg, td.run, hf, part, te.isAgg, ha, hc]
def bnd (ρ : Operand → Value) (x : Option Operand) (d : Int) : Option Int :=
 match x with
 | none => some d
 | some x => match ρ x with
  | .int _ n => some n
  | _ => none
theorem bnd_run {x : Option Operand} {d n : Int} {φ : Ren} {ac : Act} (r : ∀ y, x = some y → VRel φ h.next (ρ y) (ac.eval y)) (hb : bnd ρ x d = some n) : (x = none ∧ n = d) ∨ ∃ y k, x = some y ∧ ac.eval y = .int k n := by
 cases x with
 | none => simp [bnd] at hb; exact .inl ⟨rfl, hb.symm⟩
 | some y =>
  simp only [bnd] at hb
  split at hb
  ·
   rename_i k m he
   cases hb
   exact .inr ⟨y, k, rfl, (he ▸ r y rfl).int_inv⟩
  ·
   cases hb
theorem qbI {k : IntKind} {n : Int} {y : Nat} {c : BoundsCode} (w : World) (h0 : 0 ≤ n) (h1 : n ≤ y) : (Instr.sliceBound (.int k n) y c).run P w = .ok n.toNat w := by
 simp [Instr.sliceBound, asIntOf, h0, h1]
theorem qb0 {isS : Bool} {len cap : Nat} {lo hi : Option Operand} {l m : Int} {φ : Ren} {ac : Act} {w : World} (rl : ∀ y, lo = some y → VRel φ h.next (ρ y) (ac.eval y)) (rh : ∀ y, hi = some y → VRel φ h.next (ρ y) (ac.eval y)) (hl : bnd ρ lo 0 = some l) (hm : bnd ρ hi len = some m)
  (h0 : 0 ≤ l) (h1 : l ≤ m) (h2 : m ≤ len) (h3 : len ≤ cap) : (Instr.sliceBounds isS len cap (lo.map ac.eval) (hi.map ac.eval) none).run P w = .ok (l.toNat, m.toNat, cap) w := by
 rcases bnd_run rl hl with ⟨rfl, rfl⟩ | ⟨y, k, rfl, e1⟩ <;> rcases bnd_run rh hm with ⟨rfl, rfl⟩ | ⟨y', k', rfl, e2⟩
 ·
  simp [Instr.sliceBounds]
 ·
  simp only [Instr.sliceBounds, Option.map_none, Option.map_some, e2]
  have : m ≤ (cap : Int) := by omega
  simp [qbI w (by omega : 0 ≤ m) this]
 ·
  simp only [Instr.sliceBounds, Option.map_none, Option.map_some, e1]
  simp [qbI w h0 h1]
 ·
  simp only [Instr.sliceBounds, Option.map_some, e1, e2]
  have h4 : m ≤ (cap : Int) := by omega
  have h5 : l ≤ (m.toNat : Int) := by omega
  simp [qbI w (by omega : 0 ≤ m) h4, qbI w h0 h5]
theorem op_slice {t e : TypeId} {x : Operand} {lo hi : Option Operand} {i o len cap sz by_ : Nat} {z : Value} {s : Option Nat} {l m : Int} [td : TyD P t (.slice e)] [ti : TyI P e sz by_ z]
  (hx : ρ x = .slice (some ⟨i, o, s⟩) len cap) (hl : bnd ρ lo 0 = some l) (hm : bnd ρ hi len = some m) (h0 : 0 ≤ l) (h1 : l ≤ m) (h2 : m ≤ len) (hs : s = none ∨ s = some sz)
  (kk : K (.slice (some ⟨i, o + l.toNat * sz, s⟩) (m - l).toNat (cap - l.toNat)) h) : AOp P ⟨dst, .slice t x lo hi none, ty, pos, aft, g⟩ ρ h K :=
 .of_pure kk fun φ ac w r => by
  obtain ⟨cap', a', e1, hlt, q1, q2, q3, q4, q5, q6⟩ := (hx ▸ r.ev x (by simp [Op.operands])).slice_inv
  have hb := qb0 (P := P) (w := w) (isS := true) (cap := cap') (fun y hy => r.ev y (by subst hy; simp [Op.operands])) (fun y hy => r.ev y (by subst hy; simp [Op.operands])) hl hm h0 h1 h2 q2
  refine ⟨.slice (some (if cap' = l.toNat then a' else a'.add (l.toNat * sz))) (m - l).toNat (cap' - l.toNat), ?_, ?_⟩
  ·
   have e5 : m.toNat - l.toNat = (m - l).toNat := by omega
   by_cases hc : cap' = l.toNat
   ·
    subst hc; simp [execOp, e1, Instr.sliceAt, td.run, Instr.slice, hb, ti.size, e5]
   ·
    simp [execOp, e1, Instr.sliceAt, td.run, Instr.slice, hb, ti.size, hc, e5]
  ·
   refine .slice _ _ _ _ _ _ _ hlt (by omega) (by omega) (by omega) ?_ (by omega) ?_
   ·
    by_cases hc : cap' = l.toNat
    ·
     exact .inr (by omega)
    ·
     rw [if_neg hc]
     rcases q4 with q4 | q4
     ·
      subst q4; exact .inl (by rw [Addr.add_lit, Nat.add_assoc])
     ·
      exact .inr (by omega)
   ·
    intro t ht
    have h6 := q6 t ht
    rcases hs with hs | hs
    ·
     rw [hs] at ht; cases ht
    ·
     rw [hs] at ht; cases ht
     have : l.toNat * sz + (cap' - l.toNat) * sz = cap' * sz := by rw [← Nat.add_mul]; congr 1; omega
     omega
theorem qgN {t e : TypeId} {x : Operand} {lo hi : Option Operand} {sz by_ : Nat} {z : Value} {k m : Nat} [td : TyD P t (.slice e)] [ti : TyI P e sz by_ z]
  (hx : ρ x = .slice none k m) (hl : bnd ρ lo 0 = some 0) (hm : bnd ρ hi 0 = some 0) (kk : K (.slice none 0 0) h) : AOp P ⟨dst, .slice t x lo hi none, ty, pos, aft, g⟩ ρ h K :=
 .of_pure kk fun φ ac w r => by
  obtain ⟨_, _, e1⟩ := (hx ▸ r.ev x (by simp [Op.operands])).nilSlice_inv
  have hb := qb0 (P := P) (w := w) (isS := true) (len := 0) (cap := 0) (fun y hy => r.ev y (by subst hy; simp [Op.operands])) (fun y hy => r.ev y (by subst hy; simp [Op.operands])) hl hm (Int.le_refl _) (Int.le_refl _) (Int.le_refl _) (Nat.le_refl _)
  refine ⟨.slice none 0 0, ?_, .nilSlice⟩
  simp [execOp, e1, Instr.sliceAt, td.run, Instr.slice, hb, ti.size]
theorem qhc {t : TypeId} {x : Operand} {lo hi : Option Operand} {st : ByteArray} {l m : Int} [td : TyD P t .string]
  (hx : ρ x = .string st) (hl : bnd ρ lo 0 = some l) (hm : bnd ρ hi st.size = some m) (h0 : 0 ≤ l) (h1 : l ≤ m) (h2 : m ≤ st.size)
  (kk : K (.string (st.extract l.toNat m.toNat)) h) : AOp P ⟨dst, .slice t x lo hi none, ty, pos, aft, g⟩ ρ h K :=
 .of_pure kk fun φ ac w r => by
  have e1 := (hx ▸ r.ev x (by simp [Op.operands])).string_inv
  have hb := qb0 (P := P) (w := w) (isS := false) (cap := st.size) (fun y hy => r.ev y (by subst hy; simp [Op.operands])) (fun y hy => r.ev y (by subst hy; simp [Op.operands])) hl hm h0 h1 h2 (Nat.le_refl _)
  refine ⟨_, ?_, .string _⟩
  simp [execOp, e1, Instr.sliceAt, td.run, Instr.slice, hb]
theorem qca {x : Operand} {t e : TypeId} {a : Option Addr} {n c : Nat} [td : TyD P t (.slice e)] (hx : ρ x = .slice a n c) (kk : K (.int .i64 n) h) :
  AOp P ⟨dst, .call ⟨.builtin .len, #[x], #[t]⟩, ty, pos, aft, g⟩ ρ h K :=
 .of_pure kk fun φ ac w r => by
  have hv := hx ▸ r.ev x (by simp [Op.operands, Call.operands])
  refine ⟨_, ?_, .int _ _⟩
  have he : ∃ a', ac.eval x = .slice a' n (match ac.eval x with | .slice _ _ c => c | _ => 0) := by
   cases a with
   | none => obtain ⟨e1, e2, e3⟩ := hv.nilSlice_inv; exact ⟨none, by rw [e3]; simp [e1]⟩
   | some a =>
    obtain ⟨i, o, s⟩ := a
    obtain ⟨cap', a', e1, _⟩ := hv.slice_inv
    exact ⟨some a', by rw [e1]⟩
  obtain ⟨a', he⟩ := he
  simp only [execOp, resolve, Sem.run_bind, Sem.run_pure, Result.andThen_ok, invoke, builtin]
  generalize (match ac.eval x with | .slice _ _ c => c | _ => 0) = c' at he
  simp [he, Builtin.len_, td.run, goInt]
theorem qgh {x : Operand} {t : TypeId} {st : ByteArray} [td : TyD P t .string] (hx : ρ x = .string st) (kk : K (.int .i64 st.size) h) :
  AOp P ⟨dst, .call ⟨.builtin .len, #[x], #[t]⟩, ty, pos, aft, g⟩ ρ h K :=
 .of_pure kk fun φ ac w r => by
  have e1 := (hx ▸ r.ev x (by simp [Op.operands, Call.operands])).string_inv
  refine ⟨_, ?_, .int _ _⟩
  simp [execOp, resolve, invoke, builtin, e1, Builtin.len_, td.run, goInt]
theorem op_min2 {x y : Operand} {k k' : IntKind} {a b : Int} {aT : Array TypeId} (hx : ρ x = .int k a) (hy : ρ y = .int k' b) (kk : K (.int k (if b < a then b else a)) h) :
  AOp P ⟨dst, .call ⟨.builtin .min, #[x, y], aT⟩, ty, pos, aft, g⟩ ρ h K :=
 .of_pure kk fun φ ac w r => by
  have e1 := (hx ▸ r.ev x (by simp [Op.operands, Call.operands])).int_inv
  have e2 := (hy ▸ r.ev y (by simp [Op.operands, Call.operands])).int_inv
  refine ⟨_, ?_, .int _ _⟩
  simp [execOp, resolve, invoke, builtin, e1, e2, Builtin.min_, Builtin.min2]
variable {P : Program} {ρ : Operand → Value} {h : Heap} {K : Value → Heap → Prop} {dst : Option Tmp} {ty : TypeId} {pos : String} {aft : Array Edge} {g : Option (Nat × Bool)}
theorem VRel.newSlice {φ : Ren} {h : Heap} {b l len cap cap' : Nat} {s : Option Nat} (h1 : len ≤ cap) (h2 : len ≤ cap') (h3 : (cap = len → cap' = len) ∧ (18446744073709551616 ≤ cap → cap' + 18446744073709551616 = cap)) (h5 : cap' ≤ maxLen) (h6 : ∀ t, s = some t → cap' * t ≤ l) :
  VRel (Ren.put φ h.next ⟨b, 0, l⟩) (h.next + 1) (.slice (some ⟨h.next, 0, s⟩) len cap) (.slice (some ⟨b, 0, none⟩) len cap') :=
 .slice _ _ _ _ _ _ _ (by omega) h1 h2 h3 (.inl (by rw [Ren.put_at])) h5 (by rw [Ren.put_at]; intro t ht; simpa using h6 t ht)
theorem qcL (z : Value) (n : Nat) (hz : z.cells = #[z]) : madeCells z.cells n = Array.replicate n z := by
 apply Array.ext
 ·
  simp [madeCells]
 ·
  intro i h1 h2
  have e1 : i % 1 = 0 := by omega
  simp [madeCells, hz, e1]
theorem op_make {t e : TypeId} {x y : Operand} {by_ : Nat} {z : Value} {k k' : IntKind} {l c : Int} [td : TyD P t (.slice e)] [ti : TyI P e 1 by_ z] (hx : ρ x = .int k l) (hy : ρ y = .int k' c)
  (h0 : 0 ≤ l) (h1 : l ≤ c) (h2 : (by_ : Int) * c ≤ 281474976710656) (h3 : c ≤ 9223372036854775807) (hz : oneB z = true)
  (kk : K (.slice (some ⟨h.next, 0, some 1⟩) l.toNat c.toNat) (h.alloc ⟨List.replicate l.toNat z, e, true⟩)) : AOp P ⟨dst, .makeSlice t x y, ty, pos, aft, g⟩ ρ h K :=
 .of_run fun φ ac w r => by
  have e1 := (hx ▸ r.ev x (by simp [Op.operands])).int_inv
  have e2 := (hy ▸ r.ev y (by simp [Op.operands])).int_inv
  obtain ⟨i, i1, i2, i3, i4⟩ := ti.ex
  subst i3
  have hr := run_make (P := P) w t e i z td.eq i1 i4 k k' l c h0 h1 h2 h3
  have hzc : z.cells = #[z] := by cases z <;> first | rfl | (simp [oneB] at hz)
  have hzs : scalar z = true := by
   have := ti.plain
   rw [hzc] at this
   simpa using this
  rw [i2, Nat.mul_one, qcL z _ hzc] at hr
  obtain ⟨s1, s2⟩ := r.sim.alloc (List.replicate l.toNat z) (Array.replicate c.toNat z) e (0, 0) (.inl rfl) (by simp; omega) (fun j v hj => by
   have hj' := List.getElem?_replicate (n := l.toNat) (a := z) (i := j)
   rw [hj'] at hj
   split at hj
   ·
    cases hj
    exact ⟨z, by simp [Array.getElem?_replicate]; omega, .of_scalar hzs⟩
   ·
    cases hj)
  refine ⟨_, _, _, _, _, by simp [execOp, e1, e2, hr]; rfl, kk, ?_, s1, s2⟩
  refine .newSlice (by omega) (by omega) (by omega) (by simp only [maxLen]; omega) ?_
  intro t ht
  cases ht
  simp
inductive Src (h : Heap) (sz : Nat) : Value → Nat → List Value → Prop
 | nil : Src h sz (.slice none 0 0) 0 []
 | empty (a : Addr) (c : Nat) : Src h sz (.slice (some a) 0 c) 0 []
 | slice (i o : Nat) (s : Option Nat) (m c : Nat) (b : Blk) (hi : h.get i = some b) (hl : o + m * sz ≤ b.cells.length) : Src h sz (.slice (some ⟨i, o, s⟩) m c) m ((b.cells.drop o).take (m * sz))
 | str (st : ByteArray) (h1 : sz = 1) : Src h sz (.string st) st.size (st.data.toList.map fun b => .int .u8 b.toNat)
theorem Src.run {sz : Nat} {v : Value} {m : Nat} {news : List Value} (s : Src h sz v m news) {φ : Ren} {w : World} (sm : Sim P φ h w) {c : Value} (hv : VRel φ h.next v c) :
  ∃ cs, VRels φ h.next news cs ∧ cs.length = m * sz ∧ (∀ w2 : World, (Builtin.lenOf c).run P w2 = .ok m w2) ∧ ∀ w2 : World, w2.heap = w.heap → (Builtin.firstCells sz m c).run P w2 = .ok cs.toArray w2 := by
 cases s with
 | nil =>
  obtain ⟨_, _, rfl⟩ := hv.nilSlice_inv
  exact ⟨[], .nil, by simp, fun _ => rfl, fun _ _ => rfl⟩
 | empty a cc =>
  obtain ⟨i, o, s⟩ := a
  obtain ⟨cap', a', rfl, _⟩ := hv.slice_inv
  refine ⟨[], .nil, by simp, fun _ => rfl, fun w2 _ => ?_⟩
  simp only [Builtin.firstCells, Nat.zero_mul]
  rfl
 | slice i o s _ cc b hi hl =>
  obtain ⟨cap', a', rfl, hlt, q1, q2, q3, q4, q5, q6⟩ := hv.slice_inv
  by_cases hm : m = 0
  ·
   subst hm
   refine ⟨[], by simp; exact .nil, by simp, fun _ => rfl, fun w2 _ => ?_⟩
   simp only [Builtin.firstCells, Nat.zero_mul]
   rfl
  ·
   obtain rfl := q4.resolve_right (by omega)
   obtain ⟨cs, h1, h2, h3⟩ := sm.row hi o (m * sz) hl
   refine ⟨cs, h1, h2, fun _ => rfl, fun w2 hw => ?_⟩
   have := run_loadCells_list (P := P) w2 _ cs (fun j v hj => by
    have := h3 j v hj
    rw [World.cell?_of_block (w := w) (by rw [hw])]
    exact this)
   rw [h2] at this
   exact this
 | str st h1 =>
  obtain rfl := hv.string_inv
  subst h1
  refine ⟨st.data.toList.map fun b => .int .u8 b.toNat, VRels.scalars (List.all_eq_true.2 (by intro v hv; obtain ⟨b, _, rfl⟩ := List.mem_map.1 hv; rfl)), by simp, fun _ => rfl, fun w2 _ => ?_⟩
  simp only [Builtin.firstCells, Sem.run_pure]
  congr 1
  have : (st.extract 0 st.size) = st := by
   apply ByteArray.ext
   simp
  rw [this]
  apply Array.ext'
  simp
def appB : TypeDesc → Bool
 | .slice _ => true
 | .string => true
 | _ => false
theorem qe2 {d : TypeDesc} (h : appB d = true) : (∃ e, d = .slice e) ∨ d = .string := by
 cases d <;> first | exact .inl ⟨_, rfl⟩ | exact .inr rfl | (simp [appB] at h)
theorem qe4 {t t2 e : TypeId} {d2 : TypeDesc} {ty : TypeId} {sz by_ : Nat} {z : Value} [td : TyD P t (.slice e)] [t2d : TyD P t2 d2] [ti : TyI P e sz by_ z] (hd2 : appB d2 = true) (w : World)
  (base : Option Addr) (n cap m : Nat) (x : Value) (olds news : List Value) (hln : ∀ w2 : World, (Builtin.lenOf x).run P w2 = .ok m w2) (hnews : ∀ w2 : World, w2.heap = w.heap → (Builtin.firstCells sz m x).run P w2 = .ok news.toArray w2)
  (_ : news.length = m * sz) (holds : ∀ w2 : World, w2.heap = w.heap → (Builtin.firstCells sz n (.slice base n cap)).run P w2 = .ok olds.toArray w2)
  (h1 : n + m ≤ maxLen) (h2 : (n + m) * by_ ≤ 140737488355328) :
  (Builtin.append_ #[t, t2] ty #[.slice base n cap, x]).run P w =
   if n + m ≤ cap then (match base with | some a => (storeCells (a.add (n * sz)) news).run P w | none => .ok () w).andThen fun _ w' => .ok (.slice base (n + m) cap) w'
   else .ok (.slice (some ⟨w.heap.size, 0, none⟩) (n + m) (grownCap w (n + m) cap e)) (w.drew.alloc (.cells ((olds ++ news).toArray ++ Builtin.zeroCells z.cells (grownCap w (n + m) cap e - (n + m))) e)) := by
 obtain ⟨i, i1, i2, i3, i4⟩ := ti.ex
 have ht : ∀ w2 : World, (underlying t).run P w2 = .ok (.slice e) w2 := fun w2 => td.run w2
 have ht2 : ∀ w2 : World, (underlying t2).run P w2 = .ok d2 w2 := fun w2 => t2d.run w2
 have hsz : ∀ w2 : World, (sizeOf e).run P w2 = .ok sz w2 := fun w2 => ti.size w2
 have hn1 := hnews w rfl
 have hnd := hnews w.drew rfl
 have hod := holds w.drew rfl
 by_cases hc : n + m ≤ cap
 ·
  rw [if_pos hc]
  rcases qe2 hd2 with ⟨e2, rfl⟩ | rfl <;> cases base <;> simp [Builtin.append_, ht, ht2, hsz, hln, hc, hn1]
 ·
  rw [if_neg hc]
  have hfit : Builtin.nextslicecap (n + m) cap * i.bytes ≤ 281474976710656 := by rw [i3]; exact growslice_fits (by omega) h2
  have h63 : ¬ (9223372036854775807 < ((n : Int) + (m : Int))) := by simp only [maxLen] at h1; omega
  have h48 : ¬ (281474976710656 < Builtin.nextslicecap (n + m) cap * i.bytes) := by omega
  rcases qe2 hd2 with ⟨e2, rfl⟩ | rfl <;> simp [Builtin.append_, ht, ht2, hsz, hln, hc, h63, h48, typeInfo, i1, zeroValue, i4, Question.forced, hod, hnd, newRow, grownCap] <;> (congr 2; apply Array.ext'; simp)
theorem qfK {φ : Ren} {w : World} (sm : Sim P φ h w) {e : TypeId} {sz by_ : Nat} {z : Value} [ti : TyI P e sz by_ z] {xs cs : List Value} (hr : VRels φ h.next xs cs) {n cap : Nat} (hl : cs.length = n * sz) (h1 : n ≤ maxLen) (w1 : World) (hw : w1 = w.drew.alloc (.cells (cs.toArray ++ Builtin.zeroCells z.cells (grownCap w n cap e - n)) e)) :
  ∃ φ', VRel φ' (h.next + 1) (.slice (some ⟨h.next, 0, some sz⟩) n (n + 1)) (.slice (some ⟨w.heap.size, 0, none⟩) n (grownCap w n cap e)) ∧ Sim P φ' (h.alloc ⟨xs, e, true⟩) w1 ∧ Step φ h w φ' (h.alloc ⟨xs, e, true⟩) w1 := by
 subst hw
 have hge := grownCap_ge w n cap e
 have hle := grownCap_le_maxLen w n cap e h1
 have hsz : (cs.toArray ++ Builtin.zeroCells z.cells (grownCap w n cap e - n)).size = grownCap w n cap e * sz := by
  simp only [Array.size_append, List.size_toArray, size_zeroCells, ti.sz, hl, ← Nat.add_mul]
  congr 1
  omega
 obtain ⟨s1, s2⟩ := sm.drew.alloc xs (cs.toArray ++ Builtin.zeroCells z.cells (grownCap w n cap e - n)) e (0, 0) (.inl rfl) (by simp [hr.length]) (fun k v hk => by
  obtain ⟨c, hc, hv⟩ := hr.get hk
  refine ⟨c, ?_, hv⟩
  rw [Array.getElem?_append_left (by simpa using (List.getElem?_eq_some_iff.1 hc).1)]
  simpa using hc)
 refine ⟨_, ?_, s1, Step.drew.trans s2⟩
 refine .newSlice (by omega) hge (by simp only [maxLen] at *; omega) hle ?_
 intro t ht
 cases ht
 rw [hsz]
 exact Nat.le_refl _
variable {t t2 e : TypeId} {d2 : TypeDesc} {x y : Operand} {sz by_ : Nat} {z : Value}
theorem qb1 (ac : Act) (aT : Array TypeId) (w : World) {c : Value} {w' : World} (hr : (Builtin.append_ aT ty #[ac.eval x, ac.eval y]).run P w = .ok c w') :
  (execOp ac.eval ⟨dst, .call ⟨.builtin .append, #[x, y], aT⟩, ty, pos, aft, g⟩).run P w = .ok (.value c) w' := by
 simp [execOp, resolve, invoke, builtin, hr]
theorem qdo {v : Value} {m : Nat} {news : List Value} [td : TyD P t (.slice e)] [t2d : TyD P t2 d2] [ti : TyI P e sz by_ z] (hd2 : appB d2 = true) (hx : ρ x = .slice none 0 0) (hy : ρ y = v) (hs : Src h sz v m news)
  (h1 : m ≤ maxLen) (h2 : m * by_ ≤ 140737488355328) (k0 : m = 0 → K (.slice none 0 0) h) (k1 : 0 < m → K (.slice (some ⟨h.next, 0, some sz⟩) m (m + 1)) (h.alloc ⟨news, e, true⟩)) :
  AOp P ⟨dst, .call ⟨.builtin .append, #[x, y], #[t, t2]⟩, ty, pos, aft, g⟩ ρ h K :=
 .of_run fun φ ac w r => by
  obtain ⟨_, _, e1⟩ := (hx ▸ r.ev x (by simp [Op.operands, Call.operands])).nilSlice_inv
  obtain ⟨cs, q1, q2, q3, q4⟩ := hs.run r.sim (hy ▸ r.ev y (by simp [Op.operands, Call.operands]))
  have hr := qe4 (P := P) (ty := ty) (t := t) (t2 := t2) (z := z) hd2 w none 0 0 m (ac.eval y) [] cs q3 q4 q2 (fun _ _ => rfl) (by omega) (by simpa using h2)
  rw [← e1] at hr
  by_cases hm : m = 0
  ·
   subst hm
   simp only [Nat.add_zero, Nat.le_refl, if_true, Result.andThen_ok] at hr
   exact ⟨_, w, φ, h, _, qb1 ac _ w hr, k0 rfl, .nilSlice, r.sim, Step.refl _ _ _⟩
  ·
   rw [if_neg (by omega)] at hr
   simp only [Nat.zero_add, List.nil_append] at hr
   obtain ⟨φ', v1, v2, v3⟩ := qfK (P := P) r.sim (e := e) (cap := 0) q1 q2 h1 _ rfl
   refine ⟨_, _, φ', _, _, qb1 ac _ w hr, k1 (by omega), v1, ?_, ?_⟩
   ·
    simpa using v2
   ·
    simpa using v3
theorem qgj {i n cap : Nat} {b : Blk} {v : Value} {m : Nat} {news : List Value} [td : TyD P t (.slice e)] [t2d : TyD P t2 d2] [ti : TyI P e sz by_ z] (hd2 : appB d2 = true)
  (hx : ρ x = .slice (some ⟨i, 0, some sz⟩) n cap) (hy : ρ y = v) (hi : h.get i = some b) (ho : b.own = true) (he : b.elem = e) (hn : b.cells.length = n * sz) (hs : Src h sz v m news) (hone : news.all oneB = true)
  (h1 : n + m ≤ maxLen) (h2 : (n + m) * by_ ≤ 140737488355328) (kk : K (.slice (some ⟨h.next, 0, some sz⟩) (n + m) (n + m + 1)) ((h.kill i).alloc ⟨b.cells ++ news, e, true⟩)) :
  AOp P ⟨dst, .call ⟨.builtin .append, #[x, y], #[t, t2]⟩, ty, pos, aft, g⟩ ρ h K :=
 .of_run fun φ ac w r => by
  obtain ⟨cap', a', e1, hlt, p1, p2, p3, p4, p5, p6⟩ := (hx ▸ r.ev x (by simp [Op.operands, Call.operands])).slice_inv
  obtain ⟨cs, q1, q2, q3, q4⟩ := hs.run r.sim (hy ▸ r.ev y (by simp [Op.operands, Call.operands]))
  obtain ⟨arr, fr, a1, ⟨a2, a2'⟩, a3, a4, a5⟩ := r.sim.owned hi ho
  have hlim := p6 sz rfl
  have hsrc : Src h sz (.slice (some ⟨i, 0, some sz⟩) n cap) n b.cells := by
   have := Src.slice (h := h) (sz := sz) i 0 (some sz) n cap b hi (by omega)
   rwa [List.drop_zero, List.take_of_length_le (by omega)] at this
  obtain ⟨os, o1, o2, _, o4⟩ := hsrc.run r.sim (hx ▸ r.ev x (by simp [Op.operands, Call.operands]))
  rw [e1] at o4
  have hr := qe4 (P := P) (ty := ty) (t := t) (t2 := t2) (z := z) hd2 w (some a') n cap' m (ac.eval y) os cs q3 q4 q2 o4 (by omega) h2
  rw [← e1] at hr
  by_cases hm : n + m ≤ cap'
  ·
   rw [if_pos hm] at hr
   have hmm : (n + m) * sz ≤ cap' * sz := Nat.mul_le_mul_right _ hm
   rw [Nat.add_mul] at hmm
   have hone' : ∀ c ∈ cs, c.oneCell' = true := by
    intro c hc
    obtain ⟨j, hj⟩ := List.getElem?_of_mem hc
    have hjl : j < news.length := by rw [q1.length]; exact (List.getElem?_eq_some_iff.1 hj).1
    have hx := List.getElem?_eq_getElem hjl
    obtain ⟨c', hc', hv⟩ := q1.get hx
    rw [hj] at hc'; cases hc'
    exact hv.one (List.all_eq_true.1 hone _ (List.getElem_mem hjl))
   by_cases hcs : cs = []
   ·
    subst hcs
    have hm0 : news = [] := by have := q1.length; simpa using this
    subst hm0
    have hst : (match some a' with | some a => (storeCells (a.add (n * sz)) []).run P w | none => .ok () w) = (.ok () w : Result Unit) := rfl
    simp only [storeCells, Sem.run_pure, Result.andThen_ok] at hr
    obtain ⟨s1, s2⟩ := r.sim.renumber hi ho
    have hb : (⟨b.cells ++ [], e, true⟩ : Blk) = b := by
     cases b
     simp_all
    refine ⟨_, w, Ren.put φ h.next (φ i), _, _, qb1 ac _ w hr, kk, ?_, by rw [hb]; exact s1, by rw [hb]; exact s2⟩
    ·
     refine .slice _ _ _ _ _ _ _ (by simp [Heap.alloc, Heap.kill]) (by omega) hm (by simp only [maxLen] at *; omega) ?_ p5 (by rw [Ren.put_at]; exact p6)
     rw [Ren.put_at]; exact p4
   ·
    have hapos : cap' ≠ 0 := by
     intro hc0
     have : m = 0 := by omega
     rw [this] at q2
     exact hcs (List.eq_nil_of_length_eq_zero (by simpa using q2))
    obtain rfl := p4.resolve_right hapos
    simp only [a2, Nat.zero_add, Addr.add_lit] at hr
    obtain ⟨w', hst, c1, c2, c3, c4⟩ := qcn P (φ i).b b.elem fr cs (n * sz) 0 arr w a1 (a3.imp id And.left) (by omega) hone'
    rw [hst] at hr
    simp only [Result.andThen_ok] at hr
    simp only [Nat.add_zero] at c4
    have hsl : (Eng.splice arr.toList (n * sz) cs).length = arr.size := by rw [qbe (by simp; omega)]; simp
    have hnl := q1.length
    obtain ⟨s1, s2⟩ := r.sim.write hi ho a1 (w' := w') (arr' := (Eng.splice arr.toList (n * sz) cs).toArray) (by simpa using hsl) (by simpa [hsl] using a3) c4 c1 c2 c3 (b.cells ++ news) (by simp [hsl]; omega) (by
     intro k v hk
     simp only [List.getElem?_toArray]
     rw [qbq _ _ _ (by simp; omega)]
     by_cases hk1 : k < b.cells.length
     ·
      rw [List.getElem?_append_left hk1] at hk
      rw [if_neg (by omega)]
      simpa using a5 k v hk
     ·
      rw [List.getElem?_append_right (by omega)] at hk
      have hlt := (List.getElem?_eq_some_iff.1 hk).1
      rw [if_pos (by omega)]
      have := q1.get hk
      rwa [hn] at this)
    obtain ⟨s3, s4⟩ := s1.renumber (i := i) (b := ⟨b.cells ++ news, b.elem, true⟩) (by simp [Heap.set]) rfl
    have hh : ((h.set i ⟨b.cells ++ news, b.elem, true⟩).kill i).alloc ⟨b.cells ++ news, b.elem, true⟩ = (h.kill i).alloc ⟨b.cells ++ news, e, true⟩ := by
     simp only [Heap.alloc, Heap.kill, Heap.set, he, Heap.mk.injEq, and_true]
     funext j
     by_cases h1 : j = h.next
     ·
      simp [h1]
     ·
      by_cases h2 : j = i <;> simp [h1, h2]
    rw [hh] at s3 s4
    refine ⟨_, w', Ren.put φ h.next (φ i), _, _, qb1 ac _ w hr, kk, ?_, s3, s2.trans s4⟩
    refine .slice _ _ _ _ _ _ _ (by simp [Heap.alloc, Heap.kill]) (by omega) hm (by simp only [maxLen] at *; omega) ?_ p5 ?_
    ·
     left
     show _ = (⟨(Ren.put φ h.next (φ i) h.next).b, (Ren.put φ h.next (φ i) h.next).o + 0, none⟩ : Addr)
     rw [Ren.put_at, a2]
    ·
     show ∀ t, _ → _ ≤ (Ren.put φ h.next (φ i) h.next).l
     rw [Ren.put_at]; exact p6
  ·
   rw [if_neg hm] at hr
   have hall : VRels φ h.next (b.cells ++ news) (os ++ cs) := o1.append q1
   obtain ⟨φ', v1, v2, v3⟩ := qfK (P := P) r.sim (e := e) (cap := cap') hall (n := n + m) (by rw [List.length_append, o2, q2, Nat.add_mul]) h1 _ rfl
   have hx' : ∀ j c, ((h.kill i).alloc ⟨b.cells ++ news, e, true⟩).get j = some c → (h.alloc ⟨b.cells ++ news, e, true⟩).get j = some c := by
    intro j c hj
    have : (if j = h.next then some ⟨b.cells ++ news, e, true⟩ else if j = i then none else h.get j) = some c := hj
    show (if j = h.next then some ⟨b.cells ++ news, e, true⟩ else h.get j) = some c
    split at this
    ·
     rename_i hjn; rw [if_pos hjn]; exact this
    ·
     rename_i hjn
     rw [if_neg hjn]
     split at this
     ·
      cases this
     ·
      exact this
   have v2' : Sim P φ' (h.alloc ⟨b.cells ++ news, e, true⟩) (w.drew.alloc (.cells ((os ++ cs).toArray ++ Builtin.zeroCells z.cells (grownCap w (n + m) cap' e - (n + m))) e)) := by simpa using v2
   have v3' : Step φ h w φ' (h.alloc ⟨b.cells ++ news, e, true⟩) (w.drew.alloc (.cells ((os ++ cs).toArray ++ Builtin.zeroCells z.cells (grownCap w (n + m) cap' e - (n + m))) e)) := by simpa using v3
   refine ⟨_, _, φ', _, _, qb1 ac _ w ?_, kk, v1, v2'.forget rfl ⟨hx', fun _ _ hj => hj⟩, v3'.trans (Step.weak rfl ⟨hx', fun _ _ hj => hj⟩)⟩
   simpa using hr
variable {P : Program} {ρ : Operand → Value} {h : Heap} {K : Value → Heap → Prop} {dst : Option Tmp} {ty : TypeId} {pos : String} {aft : Array Edge} {g : Option (Nat × Bool)}
def bv (l : List UInt8) : List Value := l.map fun b => .int .u8 (b.toNat : Int)
theorem qaz (l : List UInt8) : (bv l).length = l.length := by simp [bv]
theorem qbK (a b : List UInt8) : bv (a ++ b) = bv a ++ bv b := by simp [bv]
theorem bv_scalar (l : List UInt8) : (bv l).all scalar = true := List.all_eq_true.2 (by intro v hv; obtain ⟨b, _, rfl⟩ := List.mem_map.1 hv; rfl)
theorem qcC (l : List UInt8) : (bv l).all oneB = true := List.all_eq_true.2 (by intro v hv; obtain ⟨b, _, rfl⟩ := List.mem_map.1 hv; rfl)
theorem qfG (l : List UInt8) (i : Nat) (b : UInt8) (hb : l[i]? = some b) : (bv l)[i]? = some (.int .u8 (b.toNat : Int)) := by simp [bv, hb]
def bstr (l : List UInt8) : ByteArray := ⟨l.toArray⟩
theorem VRels.bytes {φ : Ren} {n : Nat} : ∀ {l : List UInt8} {cs : List Value}, VRels φ n (bv l) cs → cs = bv l
 | [], cs, r => by cases r; rfl
 | b :: l, cs, r => by
  cases r with
  | cons hv t => rw [hv.int_inv, VRels.bytes t]; rfl
theorem qg0 {sT dT e : TypeId} {x : Operand} {i o m c : Nat} {s : Option Nat} {b : Blk} {l : List UInt8} [ts : TyD P sT (.slice e)] [te : TyD P e (.int .u8)] [td : TyD P dT .string] (hx : ρ x = .slice (some ⟨i, o, s⟩) m c)
  (hi : h.get i = some b) (hl : o + m ≤ b.cells.length) (hb : (b.cells.drop o).take m = bv l) (kk : K (.string (bstr l)) h) : AOp P ⟨dst, .convert sT dT x, ty, pos, aft, g⟩ ρ h K :=
 .of_pure kk fun φ ac w r => by
  obtain ⟨cap', a', e1, hlt, q1, q2, q3, q4, q5, q6⟩ := (hx ▸ r.ev x (by simp [Op.operands])).slice_inv
  have hll : l.length = m := by
   have := congrArg List.length hb
   simp [bv] at this
   omega
  refine ⟨.string (bstr l), ?_, .string _⟩
  have hcells : ∀ j (hj : j < l.length), w.cell? (a'.add j) = some (.int .u8 (l[j].toNat : Int)) := by
   intro j hj
   obtain rfl := q4.resolve_right (by omega)
   obtain ⟨cs, h1, h2, h3⟩ := r.sim.row hi o m hl
   rw [hb] at h1
   have hcs := h1.bytes
   refine h3 j _ ?_
   rw [hcs]
   exact qfG l j _ (List.getElem?_eq_getElem hj)
  have hr := run_convert_bytes_back (P := P) w sT dT e a' cap' l ts.eq te.eq td.eq hcells
  rw [hll] at hr
  simp [execOp, e1, hr, bstr]
theorem op_nilStr {sT dT e : TypeId} {x : Operand} {m c : Nat} [ts : TyD P sT (.slice e)] [te : TyD P e (.int .u8)] [td : TyD P dT .string] (hx : ρ x = .slice none m c)
  (kk : K (.string ByteArray.empty) h) : AOp P ⟨dst, .convert sT dT x, ty, pos, aft, g⟩ ρ h K :=
 .of_pure kk fun φ ac w r => by
  obtain ⟨_, _, e1⟩ := (hx ▸ r.ev x (by simp [Op.operands])).nilSlice_inv
  exact ⟨_, by simp [execOp, e1, convert, ts.run, te.run, td.run, Conv.bytesToString], .string _⟩
theorem qhh {sT dT e : TypeId} {x : Operand} {st : ByteArray} [ts : TyD P sT .string] [te : TyD P e (.int .u8)] [td : TyD P dT (.slice e)] (hx : ρ x = .string st) (hs : st.size ≤ maxLen)
  (kk : K (.slice (some ⟨h.next, 0, some 1⟩) st.size (st.size + 1)) (h.alloc ⟨bv st.data.toList, e, true⟩)) : AOp P ⟨dst, .convert sT dT x, ty, pos, aft, g⟩ ρ h K :=
 .of_run fun φ ac w r => by
  have e1 := (hx ▸ r.ev x (by simp [Op.operands])).string_inv
  have hge := grownCap_ge w st.size 0 e
  have hle := grownCap_le_maxLen w st.size 0 e hs
  have hr := run_bytes_of_string (P := P) w sT dT e st ts.eq td.eq te.eq
  have hds : st.data.size = st.size := rfl
  have hsz : (bytesRow st (grownCap w st.size 0 e)).size = grownCap w st.size 0 e := by simp [bytesRow, hds]; omega
  obtain ⟨s1, s2⟩ := r.sim.drew.alloc (bv st.data.toList) (bytesRow st (grownCap w st.size 0 e)) e ((bytesRow st (grownCap w st.size 0 e)).size, (bytesRow st (grownCap w st.size 0 e)).size + 1)
   (.inr ⟨Nat.le_refl _, te.eq⟩) (by rw [hsz]; simp [qaz, hds]; omega) (by
    intro k v hk
    refine ⟨v, ?_, ?_⟩
    ·
     have hkl : k < st.data.size := by simpa [bv] using (List.getElem?_eq_some_iff.1 hk).1
     rw [← hk]
     simp only [bytesRow, bv]
     rw [Array.getElem?_append_left (by simpa using hkl)]
     simp
    ·
     have := List.all_eq_true.1 (bv_scalar st.data.toList) v (List.mem_of_getElem? hk)
     exact .of_scalar this)
  refine ⟨_, _, _, _, _, by simp [execOp, e1, hr]; rfl, kk, ?_, s1, Step.drew.trans s2⟩
  refine .newSlice (by omega) hge (by simp only [maxLen] at *; omega) hle ?_
  intro t ht
  cases ht
  rw [hsz]
  omega
theorem op_copyT {dT e : TypeId} {x y : Operand} {i o n c m by_ : Nat} {s : Option Nat} {z v : Value} {b : Blk} {news : List Value} {sT : TypeId} [td : TyD P dT (.slice e)] [ti : TyI P e 1 by_ z]
  (hx : ρ x = .slice (some ⟨i, o, s⟩) n c) (hy : ρ y = v) (hs : Src h 1 v m news) (hi : h.get i = some b) (ho : b.own = true) (hl : o + min m n ≤ b.cells.length) (hone : (news.take (min m n)).all oneB = true)
  (kk : K (.int .i64 (min m n : Nat)) (h.set i ⟨splice b.cells o (news.take (min m n)), b.elem, true⟩)) : AOp P ⟨dst, .call ⟨.builtin .copy, #[x, y], #[dT, sT]⟩, ty, pos, aft, g⟩ ρ h K :=
 .of_run fun φ ac w r => by
  obtain ⟨cap', a', e1, hlt, q1, q2, q3, q4, q5, q6⟩ := (hx ▸ r.ev x (by simp [Op.operands, Call.operands])).slice_inv
  obtain ⟨cs, p1, p2, p3, p4⟩ := hs.run r.sim (hy ▸ r.ev y (by simp [Op.operands, Call.operands]))
  have hml : news.length = m := by rw [p1.length, p2]; omega
  have hfirst : (Builtin.firstCells 1 (min m n) (ac.eval y)).run P w = .ok (cs.take (min m n)).toArray w := by
   have hv : VRel φ h.next v (ac.eval y) := hy ▸ r.ev y (by simp [Op.operands, Call.operands])
   cases hs with
   | nil => obtain ⟨_, _, e⟩ := hv.nilSlice_inv; rw [e]; simp at p2; subst p2; simp [Builtin.firstCells]
   | empty a cc =>
    obtain ⟨i', o', s'⟩ := a
    obtain ⟨cap'', a'', e, _⟩ := hv.slice_inv
    rw [e]; simp at p2; subst p2
    simp [Builtin.firstCells, loadCells, loadCellsFrom]
   | slice j p s' _ cc bj hj hlj =>
    obtain ⟨cap'', a'', e, hlt', u1, u2, u3, u4, u5, u6⟩ := hv.slice_inv
    rw [e]
    by_cases hm : min m n = 0
    ·
     rw [hm]; simp [Builtin.firstCells, loadCells, loadCellsFrom]
    ·
     obtain rfl := u4.resolve_right (by omega)
     obtain ⟨ds, d1, d2, d3⟩ := r.sim.row hj p (min m n) (by omega)
     have hfc := run_loadCells_list (P := P) w _ ds d3
     rw [d2] at hfc
     have hds : ds = cs.take (min m n) := by
      obtain ⟨es, f1, f2, f3⟩ := r.sim.row hj p (m * 1) (by omega)
      have hcs : cs = es := by
       have := run_loadCells_list (P := P) w _ es f3
       have h4 := p4 w rfl
       rw [e] at h4
       simp only [Builtin.firstCells] at h4
       rw [f2] at this
       rw [this] at h4
       simp at h4
       exact h4.symm
      rw [hcs]
      apply List.ext_getElem?
      intro k
      by_cases hk : k < min m n
      ·
       rw [List.getElem?_take_of_lt hk]
       have h5 := d3 k ds[k] (List.getElem?_eq_getElem (by omega))
       have h6 := f3 k es[k] (List.getElem?_eq_getElem (by omega))
       rw [h5] at h6
       rw [List.getElem?_eq_getElem (show k < ds.length by omega), List.getElem?_eq_getElem (show k < es.length by omega)]
       exact h6
      ·
       rw [List.getElem?_eq_none (by omega), List.getElem?_eq_none (by simp; omega)]
     rw [← hds]
     simpa [Builtin.firstCells] using hfc
   | str st h1 =>
    rw [hv.string_inv]
    have h4 := p4 w rfl
    rw [hv.string_inv] at h4
    simp only [Builtin.firstCells, Sem.run_pure] at h4 ⊢
    have h5 : (st.extract 0 st.size) = st := by
     apply ByteArray.ext
     simp
    rw [h5] at h4
    simp only [Result.ok.injEq, and_true] at h4 ⊢
    have h6 : cs = (st.data.map fun b => Value.int .u8 (b.toNat : Int)).toList := by rw [h4]
    rw [h6]
    apply Array.ext'
    simp
  have hr1 : VRels φ h.next (news.take (min m n)) (cs.take (min m n)) := .of (by simp [p1.length]) (fun j a b ha hb => by
   have hj : j < min m n := by have := (List.getElem?_eq_some_iff.1 ha).1; simp at this; omega
   rw [List.getElem?_take_of_lt hj] at ha hb
   obtain ⟨c', hc', hv⟩ := p1.get ha
   rw [hb] at hc'; cases hc'
   exact hv)
  have hone' : ∀ c ∈ cs.take (min m n), c.oneCell' = true := by
   intro c hc
   obtain ⟨j, hj⟩ := List.getElem?_of_mem hc
   have hjl : j < (news.take (min m n)).length := by rw [hr1.length]; exact (List.getElem?_eq_some_iff.1 hj).1
   obtain ⟨c', hc', hv⟩ := hr1.get (List.getElem?_eq_getElem hjl)
   rw [hj] at hc'; cases hc'
   exact hv.one (List.all_eq_true.1 hone _ (List.getElem_mem hjl))
  obtain ⟨w', h3, h4, h5⟩ := r.sim.splice hi ho (o := o) hr1 (by simp; omega) hone'
  have hz : (φ i).o = 0 := by
   obtain ⟨_, _, _, h2, _⟩ := r.sim.owned hi ho
   exact h2.1
  have hst : (storeCells a' (cs.take (min m n))).run P w = .ok () w' := by
   by_cases hc0 : cap' = 0
   ·
    have : min m n = 0 := by omega
    rw [this] at h3 ⊢
    exact h3
   ·
    obtain rfl := q4.resolve_right hc0
    rw [hz, Nat.zero_add]
    exact h3
  refine ⟨_, w', φ, _, _, ?_, kk, .int _ _, h4, h5⟩
  have hmin : Nat.min m n = min m n := rfl
  simp [execOp, resolve, invoke, builtin, Builtin.copy_, td.run, p3, ti.size, e1, hmin, hfirst, hst, goInt]
theorem op_copy {dT e : TypeId} {x y : Operand} {i o n c m by_ : Nat} {s : Option Nat} {z v : Value} {b : Blk} {news : List Value} {sT : TypeId} [td : TyD P dT (.slice e)] [ti : TyI P e 1 by_ z]
  (hx : ρ x = .slice (some ⟨i, o, s⟩) n c) (hy : ρ y = v) (hs : Src h 1 v m news) (hi : h.get i = some b) (ho : b.own = true) (hl : o + min m n ≤ b.cells.length) (hone : news.all oneB = true)
  (kk : K (.int .i64 (min m n : Nat)) (h.set i ⟨splice b.cells o (news.take (min m n)), b.elem, true⟩)) : AOp P ⟨dst, .call ⟨.builtin .copy, #[x, y], #[dT, sT]⟩, ty, pos, aft, g⟩ ρ h K :=
 op_copyT hx hy hs hi ho hl (List.all_eq_true.2 fun v hv => List.all_eq_true.1 hone v (List.mem_of_mem_take hv)) kk
variable {P : Program} {ρ : Operand → Value} {h : Heap} {K : Value → Heap → Prop} {dst : Option Tmp} {ty : TypeId} {pos : String} {aft : Array Edge} {g : Option (Nat × Bool)}
class FnC (P : Program) (f : FuncId) : Prop where
 ex : ∃ fn, P.funcs[f]? = some fn ∧ fn.body.isSome = true ∧ (fn.name == "runtime.NumGoroutine") = false
theorem VRels.map {φ : Ren} {n : Nat} : ∀ {args : List Operand} {r1 r2 : Operand → Value}, (∀ x ∈ args, VRel φ n (r1 x) (r2 x)) → VRels φ n (args.map r1) (args.map r2)
 | [], _, _, _ => .nil
 | x :: args, _, _, hr => .cons (hr x (by simp)) (VRels.map fun y hy => hr y (by simp [hy]))
theorem VRels.ofArr {φ : Ren} {n : Nat} {f f' : Array Value} (h1 : f.size = f'.size) (h3 : ∀ (k : Nat) x y, f[k]? = some x → f'[k]? = some y → VRel φ n x y) : VRels φ n f.toList f'.toList :=
 .of (by simpa using h1) (fun j x y hx hy => h3 j x y (by simpa using hx) (by simpa using hy))
theorem qar {x : Operand} {f : FuncId} {fi ca : Array Value} {args : Array Operand} {aT : Array TypeId} [fc : FnC P f] {evs : List Value} (hx : ρ x = .func (.func f) fi ca) (he : fi.toList ++ (args.toList.map ρ ++ ca.toList) = evs)
  (c : ACalls P f evs h K) : AOp P ⟨dst, .call ⟨.value x, args, aT⟩, ty, pos, aft, g⟩ ρ h K := by
 intro φ a w r next Qc kk
 have hv := hx ▸ r.ev x (by simp [Op.operands, Call.operands])
 obtain ⟨f', d', e1, s1, s2, q1, q2⟩ := hv.func_inv
 obtain ⟨fn, hf, hb, hn⟩ := fc.ex
 have hargs : VRels φ h.next evs (f'.toList ++ (args.toList.map a.eval ++ d'.toList)) := by
  rw [← he]
  exact (VRels.ofArr s1 q1).append ((VRels.map fun y hy => r.ev y (by simp [Op.operands, Call.operands]; exact .inr (by simpa using hy))).append (VRels.ofArr s2 q2))
 have hc := c φ w _ r.sim hargs
 have hbn : fn.body.isNone = false := by
  cases hbb : fn.body with
  | none => rw [hbb] at hb; cases hb
  | some _ => rfl
 have hrun : (execOp a.eval ⟨dst, .call ⟨.value x, args, aT⟩, ty, pos, aft, g⟩).run P w = .ok (.enter f (f'.toList ++ (args.toList.map a.eval ++ d'.toList)).toArray) w := by
  have harr : (f' ++ args.map a.eval ++ d') = (f'.toList ++ (args.toList.map a.eval ++ d'.toList)).toArray := by
   apply Array.ext'
   simp
  simp only [execOp, resolve, e1, Deferred.ofValue, Sem.run_bind, Sem.run_pure, Result.andThen_ok, invoke, callFunc, run_program, hf, hn, hbn, Bool.false_eq_true, if_false]
  rw [harr]
 unfold Oper.wp
 rw [hrun]
 refine hc.mono fun e w' hr => ?_
 cases e with
 | returned cv =>
  obtain ⟨v, h', φ', k, v1, v2, v3⟩ := hr
  exact kk cv w' φ' h' v k v1 v2 v3
 | panicked ch => exact hr.elim
 | outgrown => exact hr.elim
theorem qa3 {fn : Fn} {f c : Array Operand} {f' c' : List Value} (hf : f.toList.map ρ = f') (hc : c.toList.map ρ = c') (kk : K (.func fn f'.toArray c'.toArray) h) :
  AOp P ⟨dst, .makeFunc fn f c, ty, pos, aft, g⟩ ρ h K :=
 .of_pure kk fun φ ac w r => by
  refine ⟨.func fn (f.map ac.eval) (c.map ac.eval), by simp [execOp, Instr.makeFunc], ?_⟩
  subst hf hc
  refine .func _ _ _ _ _ (by simp) (by simp) ?_ ?_
  ·
   intro k x y hx hy
   simp only [List.getElem?_toArray, List.getElem?_map, Array.getElem?_toList, Array.getElem?_map] at hx hy
   cases hq : f[k]? with
   | none => simp [hq] at hx
   | some o =>
    simp [hq] at hx hy
    subst hx hy
    exact r.ev o (by simp [Op.operands]; exact .inl (Array.mem_of_getElem? hq))
  ·
   intro k x y hx hy
   simp only [List.getElem?_toArray, List.getElem?_map, Array.getElem?_toList, Array.getElem?_map] at hx hy
   cases hq : c[k]? with
   | none => simp [hq] at hx
   | some o =>
    simp [hq] at hx hy
    subst hx hy
    exact r.ev o (by simp [Op.operands]; exact .inr (Array.mem_of_getElem? hq))
def ifaceB : TypeDesc → Bool
 | .interface _ => true
 | _ => false
def fillA (place : Nat → Option (Nat × Nat)) (cells : List Value) : List (Nat × Value) → Option (List Value)
 | [] => some cells
 | (i, v) :: rest =>
  match place i with
  | none => none
  | some (off, size) => if v.cells.size ≠ size || off + v.cells.size > cells.length then none else fillA place (splice cells off v.cells.toList) rest
theorem zipFold (cs : List Value) : ∀ (k : Nat) (off : Nat) (arr : Array Value), ((cs.zipIdx k).foldl (fun (a : Array Value) (p : Value × Nat) => a.setIfInBounds (off + p.2) p.1) arr).toList = if off + k + cs.length ≤ arr.size then splice arr.toList (off + k) cs else ((cs.zipIdx k).foldl (fun (a : Array Value) (p : Value × Nat) => a.setIfInBounds (off + p.2) p.1) arr).toList := by
 induction cs with
 | nil => intro k off arr; simp [splice]
 | cons v cs ih =>
  intro k off arr
  split
  ·
   rename_i hl
   simp only [List.length_cons] at hl
   simp only [List.zipIdx_cons, List.foldl_cons]
   rw [ih (k + 1) off, if_pos (by simp; omega)]
   simp only [Array.toList_setIfInBounds]
   apply List.ext_getElem?
   intro j
   rw [qbq _ _ _ (by simp; omega), qbq _ _ _ (by simp; omega)]
   simp only [List.length_cons]
   by_cases h1 : j = off + k
   ·
    subst h1
    rw [if_neg (by omega), if_pos (by omega), List.getElem?_set_self (by simp; omega)]
    simp
   ·
    by_cases h2 : off + (k + 1) ≤ j ∧ j < off + (k + 1) + cs.length
    ·
     rw [if_pos h2, if_pos (by omega)]
     rw [show j - (off + k) = (j - (off + (k + 1))) + 1 from by omega]
     simp
    ·
     rw [if_neg h2, if_neg (by omega)]
     rw [List.getElem?_set_ne (by omega)]
  ·
   rfl
theorem zipFold0 (cs : Array Value) (off : Nat) (arr : Array Value) (hl : off + cs.size ≤ arr.size) : (cs.zipIdx.foldl (fun (a : Array Value) (p : Value × Nat) => a.setIfInBounds (off + p.2) p.1) arr).toList = splice arr.toList off cs.toList := by
 have := zipFold cs.toList 0 off arr
 rw [if_pos (by simpa using hl)] at this
 rw [← Array.foldl_toList]
 simpa using this
theorem VRels.splice {φ : Ren} {n : Nat} {xs cs vs ds : List Value} (a : VRels φ n xs cs) (b : VRels φ n vs ds) (o : Nat) (hl : o + vs.length ≤ xs.length) : VRels φ n (Eng.splice xs o vs) (Eng.splice cs o ds) := by
 have h1 := a.length
 have h2 := b.length
 refine .of (by rw [qbe hl, qbe (by omega), h1]) fun j x y hx hy => ?_
 rw [qbq _ _ _ hl] at hx
 rw [qbq _ _ _ (by omega)] at hy
 by_cases hin : o ≤ j ∧ j < o + vs.length
 ·
  rw [if_pos hin] at hx
  rw [if_pos (by omega)] at hy
  obtain ⟨c, hc, hv⟩ := b.get hx
  rw [hy] at hc; cases hc; exact hv
 ·
  rw [if_neg hin] at hx
  rw [if_neg (by omega)] at hy
  obtain ⟨c, hc, hv⟩ := a.get hx
  rw [hy] at hc; cases hc; exact hv
theorem qcW {φ : Ren} {n : Nat} (place : Nat → Option (Nat × Nat)) (ac : Act) : ∀ (parts : List (Nat × Operand)) (cells out : List Value) (arr : Array Value), VRels φ n cells arr.toList →
  (∀ p ∈ parts, VRel φ n (ρ p.2) (ac.eval p.2)) → (∀ p ∈ parts, ρ p.2 ≠ undef) → fillA place cells (parts.map fun p => (p.1, ρ p.2)) = some out →
  ∃ arr', Instr.fill place arr (parts.map fun p => (p.1, ac.eval p.2)) = some arr' ∧ VRels φ n out arr'.toList
 | [], cells, out, arr, hr, _, _, hf => by
  simp [fillA] at hf
  subst hf
  exact ⟨arr, rfl, hr⟩
 | (i, x) :: parts, cells, out, arr, hr, hv, hu, hf => by
  simp only [List.map_cons, fillA] at hf
  split at hf
  ·
   cases hf
  ·
   rename_i off size hp
   split at hf
   ·
    cases hf
   ·
    rename_i hc
    simp only [ne_eq, decide_not, Bool.or_eq_true, Bool.not_eq_eq_eq_not, Bool.not_true, decide_eq_false_iff_not, decide_eq_true_eq, not_or, Classical.not_not, Nat.not_lt] at hc
    have hx := (hv (i, x) (by simp)).cells (hu (i, x) (by simp))
    have hlen := hx.length
    simp only [Array.length_toList] at hlen
    have hcl := hr.length
    simp only [Array.length_toList] at hcl
    obtain ⟨arr', h1, h2⟩ := qcW place ac parts _ out ((ac.eval x).cells.zipIdx.foldl (fun (a : Array Value) (p : Value × Nat) => a.setIfInBounds (off + p.2) p.1) arr) (by
     rw [zipFold0 _ _ _ (by omega)]
     exact hr.splice hx off (by simp; omega)) (fun p hp => hv p (by simp [hp])) (fun p hp => hu p (by simp [hp])) hf
    refine ⟨arr', ?_, h2⟩
    simp only [List.map_cons, Instr.fill, hp]
    rw [if_neg (by simp; omega)]
    exact h1
theorem op_build {t sz by_ : Nat} {z : Value} {fs : Array Field} {parts : Array (Nat × Operand)} {places : List (Nat × Nat)} {out : List Value} [td : TyD P t (.struct fs)] [ti : TyI P t sz by_ z]
  (hp : ∀ w, (fs.mapM fun f => do pure (f.offset, ← sizeOf f.type) : Sem (Array (Nat × Nat))).run P w = .ok places.toArray w) (hu : ∀ p ∈ parts.toList, ρ p.2 ≠ undef)
  (hf : fillA (places[·]?) z.cells.toList (parts.toList.map fun p => (p.1, ρ p.2)) = some out) (kk : K (.agg out.toArray) h) : AOp P ⟨dst, .build t parts, ty, pos, aft, g⟩ ρ h K :=
 .of_pure kk fun φ ac w r => by
  obtain ⟨arr', h1, h2⟩ := qcW (φ := φ) (n := h.next) (places[·]?) ac parts.toList z.cells.toList out z.cells (VRels.scalars ti.plain) (fun p hp => r.ev p.2 (by simp [Op.operands]; exact ⟨p.1, by simpa using hp⟩)) hu hf
  refine ⟨.agg arr', ?_, .agg _ _ (by have := h2.length; simpa using this) (fun k x y hx hy => ?_)⟩
  ·
   have he : (parts.map fun (p : Nat × Operand) => (p.1, ac.eval p.2)).toList = parts.toList.map fun p => (p.1, ac.eval p.2) := by simp
   have hrun : (Instr.build t (parts.map fun (p : Nat × Operand) => (p.1, ac.eval p.2))).run P w = .ok (.agg arr') w := by
    simp only [Instr.build, Sem.run_bind, ti.zero, Result.andThen_ok, td.run, hp, he, List.getElem?_toArray]
    rw [h1]
    rfl
   simp [execOp, hrun]
  ·
   obtain ⟨c, hc, hv⟩ := h2.get (j := k) (x := x) (by simpa using hx)
   simp only [Array.getElem?_toList] at hc
   rw [hy] at hc; cases hc; exact hv
theorem qfo {t e by_ : Nat} {z : Value} {len : Nat} {parts : Array (Nat × Operand)} {out : List Value} [td : TyD P t (.slice e)] [ti : TyI P e 1 by_ z] (hz : oneB z = true) (hl : len ≤ 16777216) (hu : ∀ p ∈ parts.toList, ρ p.2 ≠ undef)
  (hf : fillA (fun i => some (i * 1, 1)) (List.replicate len z) (parts.toList.map fun p => (p.1, ρ p.2)) = some out) (hlen : out.length = len)
  (kk : K (.slice (some ⟨h.next, 0, some 1⟩) len len) (h.alloc ⟨out, e, true⟩)) : AOp P ⟨dst, .buildSlice t len parts, ty, pos, aft, g⟩ ρ h K :=
 .of_run fun φ ac w r => by
  have hzc : z.cells = #[z] := by cases z <;> first | rfl | (simp [oneB] at hz)
  have hzs : scalar z = true := by
   have := ti.plain
   rw [hzc] at this
   simpa using this
  have hmade : (Array.range len).map (fun x => z.cells[x % z.cells.size]!) = Array.replicate len z := qcL z len hzc
  obtain ⟨arr', h1, h2⟩ := qcW (φ := φ) (n := h.next) (fun i => some (i * 1, 1)) ac parts.toList (List.replicate len z) out (Array.replicate len z) (by
   have : (List.replicate len z).all scalar = true := List.all_eq_true.2 (by intro v hv; rw [List.eq_of_mem_replicate hv]; exact hzs)
   simpa using VRels.scalars (φ := φ) (n := h.next) this) (fun p hp => r.ev p.2 (by simp [Op.operands]; exact ⟨p.1, by simpa using hp⟩)) hu hf
  have hal : arr'.size = len := by have := h2.length; simp at this; omega
  obtain ⟨s1, s2⟩ := r.sim.alloc out arr' e (0, 0) (.inl rfl) (by omega) h2.toArr
  have he : (parts.map fun (p : Nat × Operand) => (p.1, ac.eval p.2)).toList = parts.toList.map fun p => (p.1, ac.eval p.2) := by simp
  have hrun : (Instr.buildSlice t len (parts.map fun (p : Nat × Operand) => (p.1, ac.eval p.2))).run P w = .ok (.slice (some ⟨w.heap.size, 0, none⟩) len len) (w.alloc (.cells arr' e)) := by
   have hb : ¬ (len * 1 > 2 ^ 24) := by omega
   by_cases hl0 : len = 0
   ·
    subst hl0
    simp only [Instr.buildSlice, Sem.run_bind, td.run, Result.andThen_ok, ti.size, if_neg hb, Nat.zero_mul, if_true, Sem.run_pure, he]
    rw [show (Array.map (fun x => (#[] : Array Value)[x % (#[] : Array Value).size]!) (Array.range 0)) = Array.replicate 0 z from by simp [Array.range_zero'], h1]
    simp [newRow]
   ·
    have hn0 : ¬ (len * 1 = 0) := by omega
    simp only [Instr.buildSlice, Sem.run_bind, td.run, Result.andThen_ok, ti.size, if_neg hb, if_neg hn0, ti.zero, Sem.run_pure, he]
    rw [show (Array.map (fun x => z.cells[x % z.cells.size]!) (Array.range (len * 1))) = Array.replicate len z from by rw [Nat.mul_one]; exact hmade, h1]
    simp [newRow]
  refine ⟨_, _, _, _, _, by simp [execOp, hrun]; rfl, kk, ?_, s1, s2⟩
  have h24 : len ≤ maxLen := by simp only [maxLen]; omega
  refine .newSlice (Nat.le_refl _) (Nat.le_refl _) ⟨fun _ => rfl, fun hb => by simp only [maxLen] at h24; omega⟩ h24 ?_
  intro t ht
  cases ht
  omega
end Go.Eng
