/-
  The engine, part G: addresses, parts of values, slices, lengths.
-/
import Derived.Test.YtdfehmmhlplhlaaEngF
namespace Go.Eng
open Go

variable {P : Program} {ρ : Operand → Value} {h : Heap} {K : Value → Heap → Prop} {dst : Option Tmp} {ty : TypeId} {pos : String} {aft : Array Edge} {g : Option (Nat × Bool)}

/-- The address of a field. -/
theorem op_fieldAddr {t : TypeId} {x : Operand} {f i o sz by_ : Nat} {z : Value} {s : Option Nat} {fs : Array Field} {fld : Field} [td : TyD P t (.struct fs)] (hf : fs[f]? = some fld) [ti : TyI P fld.type sz by_ z]
    (hz : (sz == 0) = false) (hx : ρ x = .pointer (some ⟨i, o, s⟩)) (kk : K (.pointer (some ⟨i, o + fld.offset, none⟩)) h) : AOp P ⟨dst, .fieldAddr t x f, ty, pos, aft, g⟩ ρ h K :=
  .of_pure kk fun φ ac w r => by
    obtain ⟨_, hlt, e1⟩ := (hx ▸ r.ev x (by simp [Op.operands])).ptr_inv
    have hz' : ¬ sz = 0 := by simpa using hz
    refine ⟨.pointer (some ⟨(φ i).b, (φ i).o + (o + fld.offset), none⟩), ?_, .ptr _ _ hlt⟩
    simp [execOp, e1, Instr.fieldAt, Instr.sureAddr, td.run, hf, fieldPlace, ti.size, hz', Addr.add_lit, Nat.add_assoc]
/-- The address of an array's element. -/
theorem op_indexA {t e : TypeId} {n : Nat} {x y : Operand} {i o sz by_ : Nat} {z : Value} {s : Option Nat} {k : IntKind} {a : Int} [td : TyD P t (.array n e)] [ti : TyI P e sz by_ z]
    (hx : ρ x = .pointer (some ⟨i, o, s⟩)) (hy : ρ y = .int k a) (h0 : 0 ≤ a) (h1 : a < n) (kk : K (.pointer (some ⟨i, o + a.toNat * sz, none⟩)) h) : AOp P ⟨dst, .indexAddr t x y, ty, pos, aft, g⟩ ρ h K :=
  .of_pure kk fun φ ac w r => by
    obtain ⟨_, hlt, e1⟩ := (hx ▸ r.ev x (by simp [Op.operands])).ptr_inv
    have e2 := (hy ▸ r.ev y (by simp [Op.operands])).int_inv
    refine ⟨.pointer (some ⟨(φ i).b, (φ i).o + (o + a.toNat * sz), none⟩), ?_, .ptr _ _ hlt⟩
    simp [execOp, e1, e2, Instr.indexAt, Instr.sureAddr, asIntOf, td.run, h0, h1, ti.size, Addr.add_lit, Nat.add_assoc]
/-- The address of a slice's element. -/
theorem op_indexS {t e : TypeId} {x y : Operand} {i o len cap sz by_ : Nat} {z : Value} {s : Option Nat} {k : IntKind} {a : Int} [td : TyD P t (.slice e)] [ti : TyI P e sz by_ z]
    (hx : ρ x = .slice (some ⟨i, o, s⟩) len cap) (hy : ρ y = .int k a) (h0 : 0 ≤ a) (h1 : a < len) (kk : K (.pointer (some ⟨i, o + a.toNat * sz, none⟩)) h) : AOp P ⟨dst, .indexAddr t x y, ty, pos, aft, g⟩ ρ h K :=
  .of_pure kk fun φ ac w r => by
    obtain ⟨cap', a', e1, hlt, q1, q2, q3, q4, q5, q6⟩ := (hx ▸ r.ev x (by simp [Op.operands])).slice_inv
    have e2 := (hy ▸ r.ev y (by simp [Op.operands])).int_inv
    have e3 : a' = ⟨(φ i).b, (φ i).o + o, none⟩ := q4.resolve_right (by omega)
    refine ⟨.pointer (some ⟨(φ i).b, (φ i).o + (o + a.toNat * sz), none⟩), ?_, .ptr _ _ hlt⟩
    simp [execOp, e1, e2, e3, Instr.indexAt, asIntOf, td.run, h0, h1, ti.size, Addr.add_lit, Nat.add_assoc]
/-- An element of an array's value. -/
theorem op_indexV {t e : TypeId} {d : TypeDesc} {n : Nat} {x y : Operand} {sz by_ : Nat} {z : Value} {k : IntKind} {a : Int} {vs : Array Value} {v : Value} [td : TyD P t (.array n e)] [te : TyD P e d] [ti : TyI P e sz by_ z]
    (ha : aggB d = false) (hx : ρ x = .agg vs) (hy : ρ y = .int k a) (h0 : 0 ≤ a) (h1 : a < n) (hv : vs[a.toNat * sz]? = some v) (kk : K v h) : AOp P ⟨dst, .index t x y, ty, pos, aft, g⟩ ρ h K :=
  .of_pure kk fun φ ac w r => by
    obtain ⟨cs, e1, hs, hr⟩ := (hx ▸ r.ev x (by simp [Op.operands])).agg_inv
    have e2 := (hy ▸ r.ev y (by simp [Op.operands])).int_inv
    have hl : a.toNat * sz < cs.size := by rw [← hs]; exact (Array.getElem?_eq_some_iff.1 hv).1
    have hc := Array.getElem?_eq_getElem hl
    refine ⟨cs[a.toNat * sz], ?_, hr _ _ _ hv hc⟩
    simp [execOp, e1, e2, Instr.index, asIntOf, td.run, h0, h1, ti.size, part, te.isAgg, ha, hc]
/-- A byte of a string. -/
theorem op_indexStr {t : TypeId} {x y : Operand} {k : IntKind} {a : Int} {st : ByteArray} {b : UInt8} [td : TyD P t .string]
    (hx : ρ x = .string st) (hy : ρ y = .int k a) (h0 : 0 ≤ a) (hb : st[a.toNat]? = some b) (kk : K (.int .u8 b.toNat) h) : AOp P ⟨dst, .index t x y, ty, pos, aft, g⟩ ρ h K :=
  .of_pure kk fun φ ac w r => by
    have e1 := (hx ▸ r.ev x (by simp [Op.operands])).string_inv
    have e2 := (hy ▸ r.ev y (by simp [Op.operands])).int_inv
    refine ⟨_, ?_, .int _ _⟩
    simp [execOp, e1, e2, Instr.index, asIntOf, td.run, h0, hb]
/-- A field of a struct's value: of one cell · of more. -/
theorem op_field {t : TypeId} {x : Operand} {f : Nat} {fs : Array Field} {fld : Field} {d : TypeDesc} {vs : Array Value} {v : Value} [td : TyD P t (.struct fs)] (hf : fs[f]? = some fld) [te : TyD P fld.type d] (ha : aggB d = false)
    (hx : ρ x = .agg vs) (hv : vs[fld.offset]? = some v) (kk : K v h) : AOp P ⟨dst, .field t x f, ty, pos, aft, g⟩ ρ h K :=
  .of_pure kk fun φ ac w r => by
    obtain ⟨cs, e1, hs, hr⟩ := (hx ▸ r.ev x (by simp [Op.operands])).agg_inv
    have hl : fld.offset < cs.size := by rw [← hs]; exact (Array.getElem?_eq_some_iff.1 hv).1
    have hc := Array.getElem?_eq_getElem hl
    refine ⟨cs[fld.offset], ?_, hr _ _ _ hv hc⟩
    simp [execOp, e1, Instr.field, asAgg, td.run, hf, part, te.isAgg, ha, hc]
theorem op_fieldA {t : TypeId} {x : Operand} {f sz by_ : Nat} {z : Value} {fs : Array Field} {fld : Field} {d : TypeDesc} {vs : Array Value} [td : TyD P t (.struct fs)] (hf : fs[f]? = some fld) [te : TyD P fld.type d] [ti : TyI P fld.type sz by_ z] (ha : aggB d = true)
    (hx : ρ x = .agg vs) (kk : K (.agg (vs.extract fld.offset (fld.offset + sz))) h) : AOp P ⟨dst, .field t x f, ty, pos, aft, g⟩ ρ h K :=
  .of_pure kk fun φ ac w r => by
    obtain ⟨cs, e1, hs, hr⟩ := (hx ▸ r.ev x (by simp [Op.operands])).agg_inv
    refine ⟨.agg (cs.extract fld.offset (fld.offset + sz)), ?_, .agg _ _ (by simp [hs]) fun k u c hu hc => ?_⟩
    · simp [execOp, e1, Instr.field, asAgg, td.run, hf, part, te.isAgg, ha, ti.size]
    · rw [Array.getElem?_extract] at hu hc
      split at hu
      · split at hc
        · exact hr _ _ _ hu hc
        · cases hc
      · cases hu

/-- The bound of a slice expression. -/
def bnd (ρ : Operand → Value) (x : Option Operand) (d : Int) : Option Int :=
  match x with
  | none => some d
  | some x => match ρ x with
    | .int _ n => some n
    | _ => none
theorem bnd_run {x : Option Operand} {d n : Int} {φ : Ren} {ac : Act} (r : ∀ y, x = some y → VRel φ h.next (ρ y) (ac.eval y)) (hb : bnd ρ x d = some n) : (x = none ∧ n = d) ∨ ∃ y k, x = some y ∧ ac.eval y = .int k n := by
  cases x with
  | none => simp [bnd] at hb; exact .inl ⟨rfl, hb.symm⟩
  | some y =>
    simp only [bnd] at hb
    split at hb
    · rename_i k m he
      cases hb
      exact .inr ⟨y, k, rfl, (he ▸ r y rfl).int_inv⟩
    · cases hb

theorem run_sliceBound {k : IntKind} {n : Int} {y : Nat} {c : BoundsCode} (w : World) (h0 : 0 ≤ n) (h1 : n ≤ y) : (Instr.sliceBound (.int k n) y c).run P w = .ok n.toNat w := by
  simp [Instr.sliceBound, asIntOf, h0, h1]
theorem run_sliceBounds {isS : Bool} {len cap : Nat} {lo hi : Option Operand} {l m : Int} {φ : Ren} {ac : Act} {w : World} (rl : ∀ y, lo = some y → VRel φ h.next (ρ y) (ac.eval y)) (rh : ∀ y, hi = some y → VRel φ h.next (ρ y) (ac.eval y)) (hl : bnd ρ lo 0 = some l) (hm : bnd ρ hi len = some m)
    (h0 : 0 ≤ l) (h1 : l ≤ m) (h2 : m ≤ len) (h3 : len ≤ cap) : (Instr.sliceBounds isS len cap (lo.map ac.eval) (hi.map ac.eval) none).run P w = .ok (l.toNat, m.toNat, cap) w := by
  rcases bnd_run rl hl with ⟨rfl, rfl⟩ | ⟨y, k, rfl, e1⟩ <;> rcases bnd_run rh hm with ⟨rfl, rfl⟩ | ⟨y', k', rfl, e2⟩
  · simp [Instr.sliceBounds]
  · simp only [Instr.sliceBounds, Option.map_none, Option.map_some, e2]
    have : m ≤ (cap : Int) := by omega
    simp [run_sliceBound w (by omega : 0 ≤ m) this]
  · simp only [Instr.sliceBounds, Option.map_none, Option.map_some, e1]
    simp [run_sliceBound w h0 h1]
  · simp only [Instr.sliceBounds, Option.map_some, e1, e2]
    have h4 : m ≤ (cap : Int) := by omega
    have h5 : l ≤ (m.toNat : Int) := by omega
    simp [run_sliceBound w (by omega : 0 ≤ m) h4, run_sliceBound w h0 h5]

/-- A piece of a slice, up to its length. -/
theorem op_slice {t e : TypeId} {x : Operand} {lo hi : Option Operand} {i o len cap sz by_ : Nat} {z : Value} {s : Option Nat} {l m : Int} [td : TyD P t (.slice e)] [ti : TyI P e sz by_ z]
    (hx : ρ x = .slice (some ⟨i, o, s⟩) len cap) (hl : bnd ρ lo 0 = some l) (hm : bnd ρ hi len = some m) (h0 : 0 ≤ l) (h1 : l ≤ m) (h2 : m ≤ len) (hs : s = none ∨ s = some sz)
    (kk : K (.slice (some ⟨i, o + l.toNat * sz, s⟩) (m - l).toNat (cap - l.toNat)) h) : AOp P ⟨dst, .slice t x lo hi none, ty, pos, aft, g⟩ ρ h K :=
  .of_pure kk fun φ ac w r => by
    obtain ⟨cap', a', e1, hlt, q1, q2, q3, q4, q5, q6⟩ := (hx ▸ r.ev x (by simp [Op.operands])).slice_inv
    have hb := run_sliceBounds (P := P) (w := w) (isS := true) (cap := cap') (fun y hy => r.ev y (by subst hy; simp [Op.operands])) (fun y hy => r.ev y (by subst hy; simp [Op.operands])) hl hm h0 h1 h2 q2
    refine ⟨.slice (some (if cap' = l.toNat then a' else a'.add (l.toNat * sz))) (m - l).toNat (cap' - l.toNat), ?_, ?_⟩
    · have e5 : m.toNat - l.toNat = (m - l).toNat := by omega
      by_cases hc : cap' = l.toNat
      · subst hc; simp [execOp, e1, Instr.sliceAt, td.run, Instr.slice, hb, ti.size, e5]
      · simp [execOp, e1, Instr.sliceAt, td.run, Instr.slice, hb, ti.size, hc, e5]
    · refine .slice _ _ _ _ _ _ _ hlt (by omega) (by omega) (by omega) ?_ (by omega) ?_
      · by_cases hc : cap' = l.toNat
        · exact .inr (by omega)
        · rw [if_neg hc]
          rcases q4 with q4 | q4
          · subst q4; exact .inl (by rw [Addr.add_lit, Nat.add_assoc])
          · exact .inr (by omega)
      · intro t ht
        have h6 := q6 t ht
        rcases hs with hs | hs
        · rw [hs] at ht; cases ht
        · rw [hs] at ht; cases ht
          have : l.toNat * sz + (cap' - l.toNat) * sz = cap' * sz := by rw [← Nat.add_mul]; congr 1; omega
          omega
theorem op_sliceNil {t e : TypeId} {x : Operand} {lo hi : Option Operand} {sz by_ : Nat} {z : Value} {k m : Nat} [td : TyD P t (.slice e)] [ti : TyI P e sz by_ z]
    (hx : ρ x = .slice none k m) (hl : bnd ρ lo 0 = some 0) (hm : bnd ρ hi 0 = some 0) (kk : K (.slice none 0 0) h) : AOp P ⟨dst, .slice t x lo hi none, ty, pos, aft, g⟩ ρ h K :=
  .of_pure kk fun φ ac w r => by
    obtain ⟨_, _, e1⟩ := (hx ▸ r.ev x (by simp [Op.operands])).nilSlice_inv
    have hb := run_sliceBounds (P := P) (w := w) (isS := true) (len := 0) (cap := 0) (fun y hy => r.ev y (by subst hy; simp [Op.operands])) (fun y hy => r.ev y (by subst hy; simp [Op.operands])) hl hm (Int.le_refl _) (Int.le_refl _) (Int.le_refl _) (Nat.le_refl _)
    refine ⟨.slice none 0 0, ?_, .nilSlice⟩
    simp [execOp, e1, Instr.sliceAt, td.run, Instr.slice, hb, ti.size]
/-- A piece of a string. -/
theorem op_sliceStr {t : TypeId} {x : Operand} {lo hi : Option Operand} {st : ByteArray} {l m : Int} [td : TyD P t .string]
    (hx : ρ x = .string st) (hl : bnd ρ lo 0 = some l) (hm : bnd ρ hi st.size = some m) (h0 : 0 ≤ l) (h1 : l ≤ m) (h2 : m ≤ st.size)
    (kk : K (.string (st.extract l.toNat m.toNat)) h) : AOp P ⟨dst, .slice t x lo hi none, ty, pos, aft, g⟩ ρ h K :=
  .of_pure kk fun φ ac w r => by
    have e1 := (hx ▸ r.ev x (by simp [Op.operands])).string_inv
    have hb := run_sliceBounds (P := P) (w := w) (isS := false) (cap := st.size) (fun y hy => r.ev y (by subst hy; simp [Op.operands])) (fun y hy => r.ev y (by subst hy; simp [Op.operands])) hl hm h0 h1 h2 (Nat.le_refl _)
    refine ⟨_, ?_, .string _⟩
    simp [execOp, e1, Instr.sliceAt, td.run, Instr.slice, hb]
/-- A piece of an array that lies at an address. -/
theorem op_sliceA {t e : TypeId} {n : Nat} {x : Operand} {lo hi : Option Operand} {i o sz by_ : Nat} {z : Value} {s : Option Nat} {l m : Int} [td : TyD P t (.array n e)] [ti : TyI P e sz by_ z]
    (hx : ρ x = .pointer (some ⟨i, o, s⟩)) (hl : bnd ρ lo 0 = some l) (hm : bnd ρ hi n = some m) (h0 : 0 ≤ l) (h1 : l ≤ m) (h2 : m ≤ n) (hn : n ≤ maxLen)
    (kk : K (.slice (some ⟨i, o + l.toNat * sz, none⟩) (m - l).toNat (n - l.toNat)) h) : AOp P ⟨dst, .slice t x lo hi none, ty, pos, aft, g⟩ ρ h K :=
  .of_pure kk fun φ ac w r => by
    obtain ⟨_, hlt, e1⟩ := (hx ▸ r.ev x (by simp [Op.operands])).ptr_inv
    have hb := run_sliceBounds (P := P) (w := w) (isS := false) (cap := n) (fun y hy => r.ev y (by subst hy; simp [Op.operands])) (fun y hy => r.ev y (by subst hy; simp [Op.operands])) hl hm h0 h1 h2 (Nat.le_refl _)
    refine ⟨.slice (some (if n = l.toNat then ⟨(φ i).b, (φ i).o + o, none⟩ else (⟨(φ i).b, (φ i).o + o, none⟩ : Addr).add (l.toNat * sz))) (m - l).toNat (n - l.toNat), ?_, ?_⟩
    · have e5 : m.toNat - l.toNat = (m - l).toNat := by omega
      by_cases hc : n = l.toNat
      · subst hc; simp [execOp, e1, Instr.sliceAt, Instr.sureAddr, td.run, hb, ti.size, e5]
      · simp [execOp, e1, Instr.sliceAt, Instr.sureAddr, td.run, hb, ti.size, hc, e5]
    · refine .slice _ _ _ _ _ _ _ hlt (by omega) (by omega) (by omega) ?_ (by omega) (by intro t ht; cases ht)
      by_cases hc : n = l.toNat
      · exact .inr (by omega)
      · rw [if_neg hc, Addr.add_lit, Nat.add_assoc]; exact .inl rfl

/-- len, min, max. -/
theorem op_lenS {x : Operand} {t e : TypeId} {a : Option Addr} {n c : Nat} [td : TyD P t (.slice e)] (hx : ρ x = .slice a n c) (kk : K (.int .i64 n) h) :
    AOp P ⟨dst, .call ⟨.builtin .len, #[x], #[t]⟩, ty, pos, aft, g⟩ ρ h K :=
  .of_pure kk fun φ ac w r => by
    have hv := hx ▸ r.ev x (by simp [Op.operands, Call.operands])
    refine ⟨_, ?_, .int _ _⟩
    have he : ∃ a', ac.eval x = .slice a' n (match ac.eval x with | .slice _ _ c => c | _ => 0) := by
      cases a with
      | none => obtain ⟨e1, e2, e3⟩ := hv.nilSlice_inv; exact ⟨none, by rw [e3]; simp [e1]⟩
      | some a =>
        obtain ⟨i, o, s⟩ := a
        obtain ⟨cap', a', e1, _⟩ := hv.slice_inv
        exact ⟨some a', by rw [e1]⟩
    obtain ⟨a', he⟩ := he
    simp only [execOp, resolve, Sem.run_bind, Sem.run_pure, Result.andThen_ok, invoke, builtin]
    generalize (match ac.eval x with | .slice _ _ c => c | _ => 0) = c' at he
    simp [he, Builtin.len_, td.run, goInt]
theorem op_lenStr {x : Operand} {t : TypeId} {st : ByteArray} [td : TyD P t .string] (hx : ρ x = .string st) (kk : K (.int .i64 st.size) h) :
    AOp P ⟨dst, .call ⟨.builtin .len, #[x], #[t]⟩, ty, pos, aft, g⟩ ρ h K :=
  .of_pure kk fun φ ac w r => by
    have e1 := (hx ▸ r.ev x (by simp [Op.operands, Call.operands])).string_inv
    refine ⟨_, ?_, .int _ _⟩
    simp [execOp, resolve, invoke, builtin, e1, Builtin.len_, td.run, goInt]
theorem op_min2 {x y : Operand} {k k' : IntKind} {a b : Int} {aT : Array TypeId} (hx : ρ x = .int k a) (hy : ρ y = .int k' b) (kk : K (.int k (if b < a then b else a)) h) :
    AOp P ⟨dst, .call ⟨.builtin .min, #[x, y], aT⟩, ty, pos, aft, g⟩ ρ h K :=
  .of_pure kk fun φ ac w r => by
    have e1 := (hx ▸ r.ev x (by simp [Op.operands, Call.operands])).int_inv
    have e2 := (hy ▸ r.ev y (by simp [Op.operands, Call.operands])).int_inv
    refine ⟨_, ?_, .int _ _⟩
    simp [execOp, resolve, invoke, builtin, e1, e2, Builtin.min_, Builtin.min2]
theorem op_max2 {x y : Operand} {k k' : IntKind} {a b : Int} {aT : Array TypeId} (hx : ρ x = .int k a) (hy : ρ y = .int k' b) (kk : K (.int k (if a < b then b else a)) h) :
    AOp P ⟨dst, .call ⟨.builtin .max, #[x, y], aT⟩, ty, pos, aft, g⟩ ρ h K :=
  .of_pure kk fun φ ac w r => by
    have e1 := (hx ▸ r.ev x (by simp [Op.operands, Call.operands])).int_inv
    have e2 := (hy ▸ r.ev y (by simp [Op.operands, Call.operands])).int_inv
    refine ⟨_, ?_, .int _ _⟩
    simp [execOp, resolve, invoke, builtin, e1, e2, Builtin.max_, Builtin.max2]
theorem op_min3 {x y u : Operand} {k k' k'' : IntKind} {a b c : Int} {aT : Array TypeId} (hx : ρ x = .int k a) (hy : ρ y = .int k' b) (hu : ρ u = .int k'' c)
    (kk : K (.int k (if c < (if b < a then b else a) then c else (if b < a then b else a))) h) : AOp P ⟨dst, .call ⟨.builtin .min, #[x, y, u], aT⟩, ty, pos, aft, g⟩ ρ h K :=
  .of_pure kk fun φ ac w r => by
    have e1 := (hx ▸ r.ev x (by simp [Op.operands, Call.operands])).int_inv
    have e2 := (hy ▸ r.ev y (by simp [Op.operands, Call.operands])).int_inv
    have e3 := (hu ▸ r.ev u (by simp [Op.operands, Call.operands])).int_inv
    refine ⟨_, ?_, .int _ _⟩
    simp [execOp, resolve, invoke, builtin, e1, e2, e3, Builtin.min_, Builtin.min2]
end Go.Eng
