/-
  Texts of one claim, merged: 9 parts.
-/
import Derived.Test.YtigmojilaadbhaaGreatDoorMue
import Derived.Below
import Derived.Lib.LaidTab
import Derived.Test.YtigmojilaadbhaaGreatDoorMud
import Derived.RangeFuncLeaves
import Derived.RangeFuncRecord
import Derived.RangeFuncOwn
import Derived.TacticsIn
set_option maxHeartbeats 16000000
/- . -/
namespace Go.Eng
open Go
section
variable {P : Program} {ρ : Operand → Value} {h : Heap} {K : Value → Heap → Prop} {dst : Option Tmp} {ty : TypeId} {pos : String} {aft : Array Edge} {g : Option (Nat × Bool)}
theorem qcN {t e : TypeId} [ti : TyD P t (.pointer e)] (p : Option Addr) (w : World) (d : Nat) : (Op.equalIn (d + 1) t (.pointer p) (.pointer none)).run P w = .ok p.isNone w := by
 cases p <;> simp [Op.equalIn, ti.run]
theorem qd9 {t t' e : TypeId} {x y : Operand} {m : Option Addr} [td : TyD P t (.pointer e)] (hx : ρ x = .pointer m) (hy : ρ y = .pointer none) (kk : K (.bool m.isNone) h) : AOp P ⟨dst, .binOp .eql t x y t', ty, pos, aft, g⟩ ρ h K :=
 .of_pure kk fun φ ac w r => by
  have h1 := hx ▸ r.ev x (by simp [Op.operands])
  have e2 := (hy ▸ r.ev y (by simp [Op.operands])).nilPtr_inv
  have he : ∃ m' : Option Addr, ac.eval x = .pointer m' ∧ m'.isNone = m.isNone := by
   cases m with
   | none => exact ⟨none, h1.nilPtr_inv, rfl⟩
   | some a => obtain ⟨i, o, s⟩ := a; exact ⟨_, h1.ptr_inv.2.2, rfl⟩
  obtain ⟨m', e1, e3⟩ := he
  have e4 : (Op.equal t (.pointer m') (.pointer none)).run P w = .ok m'.isNone w := qcN m' w 9999
  exact ⟨.bool m.isNone, by simp [execOp, e1, e2, eqGuard, binOp, e4, e3], .bool _⟩
theorem bstr_size (l : List UInt8) : (bstr l).size = l.length := by simp [bstr, ByteArray.size]
theorem qaI {x : Operand} {t : TypeId} {l : List UInt8} [td : TyD P t .string] (hx : ρ x = .string (bstr l)) (kk : K (.int .i64 (l.length : Nat)) h) : AOp P ⟨dst, .call ⟨.builtin .len, #[x], #[t]⟩, ty, pos, aft, g⟩ ρ h K :=
 qgh hx (by rw [bstr_size]; exact kk)
theorem op_sLss {t t' : TypeId} {x y : Operand} {a b : List UInt8} (hx : ρ x = .string (bstr a)) (hy : ρ y = .string (bstr b)) (kk : K (.bool (Op.bytesLess a b)) h) : AOp P ⟨dst, .binOp .lss t x y t', ty, pos, aft, g⟩ ρ h K :=
 qdZ hx hy (c := Op.bytesLess a b) (by simp only [strB, qbx]) kk
end
class FAd (P : Program) (t : TypeId) (f : Nat) (off : outParam Nat) : Prop where
 ex : ∃ fs fld sz by_ z, P.underlying t = some (.struct fs) ∧ fs[f]? = some fld ∧ TyI P fld.type sz by_ z ∧ (sz == 0) = false ∧ fld.offset = off
theorem FAd.mk' {P : Program} {t ft : TypeId} {f off sz by_ : Nat} {z : Value} {fs : Array Field} {fld : Field} (hd : P.underlying t = some (.struct fs)) (hf : fs[f]? = some fld) [ti : TyI P ft sz by_ z] (ht : fld.type = ft) (hz : (sz == 0) = false) (ho : fld.offset = off) : FAd P t f off :=
 ⟨fs, fld, sz, by_, z, hd, hf, ht ▸ ti, hz, ho⟩
section
variable {P : Program} {ρ : Operand → Value} {h : Heap} {K : Value → Heap → Prop} {dst : Option Tmp} {ty : TypeId} {pos : String} {aft : Array Edge} {g : Option (Nat × Bool)}
theorem qao {t : TypeId} {x : Operand} {f i o off : Nat} {s : Option Nat} [fa : FAd P t f off] (hx : ρ x = .pointer (some ⟨i, o, s⟩)) (kk : K (.pointer (some ⟨i, o + off, none⟩)) h) : AOp P ⟨dst, .fieldAddr t x f, ty, pos, aft, g⟩ ρ h K := by
 obtain ⟨fs, fld, sz, by_, z, h1, h2, h3, h4, rfl⟩ := fa.ex
 haveI : TyD P t (.struct fs) := ⟨h1⟩
 haveI := h3
 exact qfZ h2 h4 hx kk
end
class StD (P : Program) (t : TypeId) (places : outParam (List (Nat × Nat))) : Prop where
 ex : ∃ fs : List Field, P.underlying t = some (.struct fs.toArray) ∧ fs.map (fun f => (P.info? f.type).map fun i => (f.offset, i.size)) = places.map some
theorem qdS {P : Program} : ∀ {fs : List Field} {places : List (Nat × Nat)}, fs.map (fun f => (P.info? f.type).map fun i => (f.offset, i.size)) = places.map some → ∀ w : World, (fs.mapM fun f => (do pure (f.offset, ← sizeOf f.type) : Sem (Nat × Nat))).run P w = .ok places w
 | [], [], _, w => by simp
 | [], _ :: _, h, _ => by simp at h
 | _ :: _, [], h, _ => by simp at h
 | f :: fs, p :: places, h, w => by
  simp only [List.map_cons, List.cons.injEq] at h
  obtain ⟨h1, h2⟩ := h
  have ih := qdS h2 w
  cases hi : P.info? f.type with
  | none => rw [hi] at h1; cases h1
  | some i =>
   rw [hi] at h1
   simp only [Option.map_some, Option.some.injEq] at h1
   have hs : (sizeOf f.type).run P w = .ok i.size w := by simp [sizeOf, typeInfo, hi]
   rw [List.mapM_cons]
   simp only [Sem.run_bind, hs, Result.andThen_ok, Sem.run_pure, h1, ih]
def nuB : Value → Bool
 | .tuple _ => false
 | _ => true
theorem nuB_ne {v : Value} (h : nuB v = true) : v ≠ undef := by
 rintro rfl; cases h
section
variable {P : Program} {ρ : Operand → Value} {h : Heap} {K : Value → Heap → Prop} {dst : Option Tmp} {ty : TypeId} {pos : String} {aft : Array Edge} {g : Option (Nat × Bool)}
theorem qax {t sz by_ : Nat} {z : Value} {parts : Array (Nat × Operand)} {places : List (Nat × Nat)} {out : List Value} [st : StD P t places] [ti : TyI P t sz by_ z]
  (hu : (parts.toList.all fun p => nuB (ρ p.2)) = true) (hf : fillA (places[·]?) z.cells.toList (parts.toList.map fun p => (p.1, ρ p.2)) = some out) (kk : K (.agg out.toArray) h) : AOp P ⟨dst, .build t parts, ty, pos, aft, g⟩ ρ h K := by
 obtain ⟨fs, h1, h2⟩ := st.ex
 haveI : TyD P t (.struct fs.toArray) := ⟨h1⟩
 refine op_build (fs := fs.toArray) (places := places) (fun w => ?_) (fun p hp => nuB_ne (List.all_eq_true.1 hu p hp)) hf kk
 rw [List.mapM_toArray]
 simp only [Sem.run_map, qdS h2 w]
 rfl
end
def OBdd (n : Nat) : AObj → Prop
 | .map es _ => ∀ e ∈ es, Bdd n e.key ∧ Bdd n e.val
 | .mapIter m _ _ _ => ∀ j, m = some j → j < n
 | .strIter _ _ => True
section
variable {P : Program} {φ φ' : Ren} {h h' ht : Heap} {w w' : World}
end
def sv (ll : List (List UInt8)) : List Value := ll.map fun s => .string (bstr s)
section
variable {P : Program} {ρ : Operand → Value} {h : Heap} {K : Value → Heap → Prop} {dst : Option Tmp} {ty : TypeId} {pos : String} {aft : Array Edge} {g : Option (Nat × Bool)}
theorem qaK {t t' : TypeId} {x y : Operand} {a b : List UInt8} (hx : ρ x = .string (bstr a)) (hy : ρ y = .string (bstr b)) (he : ¬ a = b) (kk : K (.bool false) h) : AOp P ⟨dst, .binOp .eql t x y t', ty, pos, aft, g⟩ ρ h K :=
 qdZ hx hy (c := false) (by simp only [strB, qbx]; rw [show (a == b) = false from by simpa using he]) kk
theorem qhu {t t' : TypeId} {x y : Operand} {a b : List UInt8} {c : Bool} (hx : ρ x = .string (bstr a)) (hy : ρ y = .string (bstr b)) (he : Op.bytesLess a b = c) (kk : K (.bool c) h) : AOp P ⟨dst, .binOp .lss t x y t', ty, pos, aft, g⟩ ρ h K :=
 op_sLss hx hy (by rw [he]; exact kk)
theorem qf3 (s : List UInt8) (l m : Nat) : (bstr s).extract l m = bstr ((s.take m).drop l) := by
 apply ByteArray.ext
 simp only [ByteArray.data_extract]
 apply Array.ext'
 simp [bstr, List.drop_take]
theorem qbo {t : TypeId} {x : Operand} {lo hi : Option Operand} {s : List UInt8} {l m : Int} [td : TyD P t .string] (hx : ρ x = .string (bstr s)) (hl : bnd ρ lo 0 = some l) (hm : bnd ρ hi s.length = some m) (h0 : 0 ≤ l) (h1 : l ≤ m) (h2 : m ≤ s.length)
  (kk : K (.string (bstr ((s.take m.toNat).drop l.toNat))) h) : AOp P ⟨dst, .slice t x lo hi none, ty, pos, aft, g⟩ ρ h K :=
 qhc hx hl (by rw [bstr_size]; exact hm) h0 h1 (by rw [bstr_size]; exact h2) (by rw [qf3]; exact kk)
structure RN (c : Nat) (h : Heap) (v : Value) (rows : List (List Value)) : Prop where
 len : ∀ r ∈ rows, r.length = c
 at_ : (v = .slice none 0 0 ∧ rows = []) ∨ ∃ i o s cap, v = .slice (some ⟨i, o, s⟩) rows.length cap ∧ (s = none ∨ s = some c) ∧ (rows ≠ [] → ∃ b, h.get i = some b ∧ o + rows.length * c ≤ b.cells.length ∧ (b.cells.drop o).take (rows.length * c) = rows.flatten)
def PR (h : Heap) (p : Value) (row : List Value) : Prop := ∃ i o s b, p = .pointer (some ⟨i, o, s⟩) ∧ h.get i = some b ∧ o + row.length ≤ b.cells.length ∧ (b.cells.drop o).take row.length = row
theorem RN.ext {c : Nat} {h h' : Heap} {v : Value} {rows : List (List Value)} (r : RN c h v rows) (hx : Ext h h') : RN c h' v rows :=
 ⟨r.len, r.at_.imp id fun ⟨i, o, s, cap, h1, h2, h3⟩ => ⟨i, o, s, cap, h1, h2, fun hv => by obtain ⟨b, h4, h5⟩ := h3 hv; exact ⟨b, hx.c i b h4, h5⟩⟩⟩
theorem PR.ext {h h' : Heap} {p : Value} {row : List Value} (r : PR h p row) (hx : Ext h h') : PR h' p row := by
 obtain ⟨i, o, s, b, h1, h2, h3⟩ := r
 exact ⟨i, o, s, b, h1, hx.c i b h2, h3⟩
theorem RN.nil (c : Nat) (h : Heap) : RN c h (.slice none 0 0) [] := ⟨by simp, .inl ⟨rfl, rfl⟩⟩
theorem RN.slice {c : Nat} {v : Value} {rows : List (List Value)} (r : RN c h v rows) : ∃ a k, v = .slice a rows.length k := by
 rcases r.at_ with ⟨rfl, rfl⟩ | ⟨i, o, s, cap, h1, _⟩
 ·
  exact ⟨none, 0, rfl⟩
 ·
  exact ⟨_, cap, h1⟩
theorem RN.own {c i n cap : Nat} {e : TypeId} {w : Bool} {rows : List (List Value)} (hl : ∀ r ∈ rows, r.length = c) (hi : h.get i = some ⟨rows.flatten, e, w⟩) (hn : rows.length = n) : RN c h (.slice (some ⟨i, 0, some c⟩) n cap) rows := by
 subst hn
 have := qcs hl
 exact ⟨hl, .inr ⟨i, 0, some c, cap, rfl, .inr rfl, fun _ => ⟨_, hi, by simp only [Nat.zero_add]; omega, by simp only [List.drop_zero]; rw [List.take_of_length_le (by omega)]⟩⟩⟩
theorem RN.row1 {c i k : Nat} {e : TypeId} {w : Bool} {row : List Value} (hl : row.length = c) (hi : h.get i = some ⟨row, e, w⟩) : RN c h (.slice (some ⟨i, 0, some c⟩) 1 k) [row] :=
 RN.own (rows := [row]) (by intro r hr; rw [List.mem_singleton.1 hr]; exact hl) (by simpa using hi) rfl
theorem RN.src {c : Nat} {v : Value} {rows : List (List Value)} (r : RN c h v rows) : Src h c v rows.length rows.flatten := by
 rcases r.at_ with ⟨rfl, rfl⟩ | ⟨i, o, s, cap, rfl, hs, hb⟩
 ·
  exact .nil
 ·
  by_cases hv : rows = []
  ·
   subst hv; exact .empty _ _
  ·
   obtain ⟨b, h1, h2, h3⟩ := hb hv
   have := Src.slice (h := h) (sz := c) i o s rows.length cap b h1 h2
   rw [h3] at this
   exact this
def vblk : Value → Option Nat
 | .slice (some a) _ _ => some a.block
 | _ => none
def ptrN (c : Nat) (v : Value) (a : Int) : Value :=
 match v with
 | .slice (some ⟨i, o, _⟩) _ _ => .pointer (some ⟨i, o + a.toNat * c, none⟩)
 | _ => undef
theorem RN.elt {c : Nat} {v : Value} {rows : List (List Value)} (r : RN c h v rows) {a : Int} {u : List Value} (hu : rows[a.toNat]? = some u) : PR h (ptrN c v a) u := by
 have hl := (List.getElem?_eq_some_iff.1 hu).1
 have hul := r.len u (List.mem_of_getElem? hu)
 rcases r.at_ with ⟨rfl, rfl⟩ | ⟨i, o, s, cap, rfl, hs, hb⟩
 ·
  simp at hl
 ·
  obtain ⟨b, h1, h2, h3⟩ := hb (by intro e; subst e; simp at hl)
  have h4 := qct r.len hu
  have h5 : a.toNat * c + c ≤ rows.length * c := by have := Nat.mul_le_mul_right c (show a.toNat + 1 ≤ rows.length from hl); rw [Nat.add_mul] at this; omega
  refine ⟨i, o + a.toNat * c, none, b, rfl, h1, by omega, ?_⟩
  rw [hul, ← List.drop_drop]
  rw [← h3, List.drop_take, List.take_take, Nat.min_eq_left (by omega)] at h4
  exact h4
theorem qaB {c : Nat} {x : Operand} {t e : TypeId} {v : Value} {rows : List (List Value)} [td : TyD P t (.slice e)] (r : RN c h v rows) (hx : ρ x = v) (kk : K (.int .i64 rows.length) h) :
  AOp P ⟨dst, .call ⟨.builtin .len, #[x], #[t]⟩, ty, pos, aft, g⟩ ρ h K := by
 obtain ⟨a, k, e⟩ := r.slice
 exact qca (hx.trans e) kk
theorem qaG {c : Nat} {t e : TypeId} {x y : Operand} {by_ : Nat} {z v : Value} {u : List Value} {k : IntKind} {a : Int} {rows : List (List Value)} [td : TyD P t (.slice e)] [ti : TyI P e c by_ z] (r : RN c h v rows) (hx : ρ x = v) (hy : ρ y = .int k a) (h0 : 0 ≤ a)
  (hu : rows[a.toNat]? = some u) (kk : K (ptrN c v a) h) : AOp P ⟨dst, .indexAddr t x y, ty, pos, aft, g⟩ ρ h K := by
 have hl := (List.getElem?_eq_some_iff.1 hu).1
 rcases r.at_ with ⟨rfl, rfl⟩ | ⟨i, o, s, cap, rfl, hs, hb⟩
 ·
  simp at hl
 ·
  exact qd3 hx hy h0 (by omega) kk
theorem qdV {c : Nat} {t e : TypeId} {x y : Operand} {by_ : Nat} {z v : Value} {u : List Value} {k : IntKind} {a : Int} {rows : List (List Value)} [td : TyD P t (.slice e)] [ti : TyI P e c by_ z] (r : RN c h v rows) (hx : ρ x = v) (hy : ρ y = .int k a) (h0 : 0 ≤ a)
  (hu : rows[a.toNat]? = some u) (kk : ∀ p, PR h p u → K p h) : AOp P ⟨dst, .indexAddr t x y, ty, pos, aft, g⟩ ρ h K := qaG r hx hy h0 hu (kk _ (r.elt hu))
def offP (p : Value) (off : Nat) : Value :=
 match p with
 | .pointer (some ⟨i, o, _⟩) => .pointer (some ⟨i, o + off, none⟩)
 | _ => undef
theorem PR.field {p : Value} {row : List Value} (r : PR h p row) {off : Nat} {u : Value} (hu : row[off]? = some u) : PT h (offP p off) u := by
 obtain ⟨i, o, s, b, rfl, h1, h2, h3⟩ := r
 have hl := (List.getElem?_eq_some_iff.1 hu).1
 refine ⟨i, o + off, none, b, rfl, h1, ?_⟩
 rw [← h3, List.getElem?_take_of_lt hl, List.getElem?_drop] at hu
 exact hu
theorem qdm {t : TypeId} {x : Operand} {f off : Nat} {p : Value} {row : List Value} [fa : FAd P t f off] (r : PR h p row) (hx : ρ x = p) (kk : K (offP p off) h) : AOp P ⟨dst, .fieldAddr t x f, ty, pos, aft, g⟩ ρ h K := by
 obtain ⟨i, o, s, b, rfl, _⟩ := r
 exact qao hx kk
theorem qbN {t : TypeId} {x : Operand} {p u : Value} {row : List Value} {off : Nat} {d : TypeDesc} [td : TyD P t d] (r : PR h p row) (hx : ρ x = offP p off) (hu : row[off]? = some u) (ha : aggB d = false) (kk : K u h) : AOp P ⟨dst, .load t x, ty, pos, aft, g⟩ ρ h K :=
 qat (r.field hu) hx ha kk
theorem qa1 {t : TypeId} {c by_ : Nat} {z : Value} {x : Operand} {p : Value} {row : List Value} {d : TypeDesc} [td : TyD P t d] [ti : TyI P t c by_ z] (r : PR h p row) (hc : row.length = c) (hx : ρ x = p) (ha : aggB d = true) (kk : K (.agg row.toArray) h) : AOp P ⟨dst, .load t x, ty, pos, aft, g⟩ ρ h K := by
 obtain ⟨i, o, s, b, rfl, h1, h2, h3⟩ := r
 subst hc
 exact qaj hx ha h1 h2 (by rw [h3]; exact kk)
def subN (c : Nat) (v : Value) (l m : Int) : Value :=
 match v with
 | .slice (some ⟨i, o, s⟩) _ k => .slice (some ⟨i, o + l.toNat * c, s⟩) (m - l).toNat (k - l.toNat)
 | _ => .slice none 0 0
theorem RN.sub {c : Nat} {v : Value} {rows : List (List Value)} {l m : Int} (r : RN c h v rows) (h0 : 0 ≤ l) (h1 : l ≤ m) (h2 : m ≤ rows.length) : RN c h (subN c v l m) ((rows.take m.toNat).drop l.toNat) := by
 refine ⟨fun x hx => r.len x (List.mem_of_mem_take (List.mem_of_mem_drop hx)), ?_⟩
 rcases r.at_ with ⟨rfl, rfl⟩ | ⟨i, o, s, cap, rfl, hs, hb⟩
 ·
  exact .inl ⟨rfl, by simp⟩
 ·
  have hlen : ((rows.take m.toNat).drop l.toNat).length = (m - l).toNat := by simp; omega
  refine .inr ⟨i, o + l.toNat * c, s, cap - l.toNat, by rw [hlen]; rfl, hs, fun hne => ?_⟩
  have hv : rows ≠ [] := by intro e; subst e; simp at hne
  obtain ⟨b, q1, q2, q3⟩ := hb hv
  have hmc : m.toNat * c ≤ rows.length * c := Nat.mul_le_mul_right _ (by omega)
  have hlm : l.toNat * c + (m - l).toNat * c = m.toNat * c := by rw [← Nat.add_mul]; congr 1; omega
  refine ⟨b, q1, by rw [hlen]; omega, ?_⟩
  rw [hlen]
  have e1 : ∀ (L : List (List Value)) (k : Nat), (∀ x ∈ L, x.length = c) → k ≤ L.length → L.flatten.take (k * c) = (L.take k).flatten ∧ L.flatten.drop (k * c) = (L.drop k).flatten := by
   intro L k hL hk
   have hf : (L.take k).flatten.length = k * c := by rw [qcs (fun x hx => hL x (List.mem_of_mem_take hx)), List.length_take, Nat.min_eq_left hk]
   have e : L.flatten = (L.take k).flatten ++ (L.drop k).flatten := by rw [← List.flatten_append, List.take_append_drop]
   rw [e, List.take_append_of_le_length (by omega), List.take_of_length_le (by omega), List.drop_append_of_le_length (by omega), List.drop_of_length_le (by omega)]
   exact ⟨rfl, rfl⟩
  have f1 := (e1 rows m.toNat r.len (by omega)).1
  have f2 := (e1 (rows.take m.toNat) l.toNat (fun x hx => r.len x (List.mem_of_mem_take hx)) (by rw [List.length_take]; omega)).2
  rw [← f2, ← f1, ← q3, List.take_take, Nat.min_eq_left hmc, List.drop_take, List.drop_drop]
  congr 1
  omega
theorem qfP {c : Nat} {t e : TypeId} {x : Operand} {lo hi : Option Operand} {by_ : Nat} {z v : Value} {l m : Int} {rows : List (List Value)} [td : TyD P t (.slice e)] [ti : TyI P e c by_ z] (r : RN c h v rows) (hx : ρ x = v)
  (hl : bnd ρ lo 0 = some l) (hm : bnd ρ hi rows.length = some m) (h0 : 0 ≤ l) (h1 : l ≤ m) (h2 : m ≤ rows.length) (kk : K (subN c v l m) h) : AOp P ⟨dst, .slice t x lo hi none, ty, pos, aft, g⟩ ρ h K := by
 rcases r.at_ with ⟨rfl, rfl⟩ | ⟨i, o, s, cap, rfl, hs, hb⟩
 ·
  simp only [List.length_nil] at h2 hm
  obtain rfl : l = 0 := by omega
  obtain rfl : m = 0 := by omega
  exact qgN hx hl hm kk
 ·
  exact op_slice hx hl hm h0 h1 h2 hs kk
def Shp (c : Nat) (v : Value) (n : Nat) : Prop := (v = .slice none 0 0 ∧ n = 0) ∨ ∃ i o s cap, v = .slice (some ⟨i, o, s⟩) n cap ∧ (s = none ∨ s = some c)
structure ON (B c : Nat) (h : Heap) (e : TypeId) (v : Value) (rows : List (List Value)) : Prop where
 len : ∀ r ∈ rows, r.length = c
 at_ : (v = .slice none 0 0 ∧ rows = []) ∨ ∃ i cap, B ≤ i ∧ v = .slice (some ⟨i, 0, some c⟩) rows.length cap ∧ h.get i = some ⟨rows.flatten, e, true⟩
section
variable {B c : Nat} {e : TypeId} {v : Value} {rows : List (List Value)} {h' : Heap}
theorem ON.rn (r : ON B c h e v rows) : RN c h v rows := by
 rcases r.at_ with ⟨rfl, rfl⟩ | ⟨i, cap, _, rfl, hi⟩
 ·
  exact RN.nil c h
 ·
  exact RN.own r.len hi rfl
theorem ON.nil (B c : Nat) (h : Heap) (e : TypeId) : ON B c h e (.slice none 0 0) [] := ⟨by simp, .inl ⟨rfl, rfl⟩⟩
theorem ON.ext (r : ON B c h e v rows) (hx : Ext h h') : ON B c h' e v rows :=
 ⟨r.len, r.at_.imp id fun ⟨i, cap, h1, h2, h3⟩ => ⟨i, cap, h1, h2, hx.c _ _ h3⟩⟩
theorem ON.one (r : ON B c h e v rows) : oneB v = true := by
 rcases r.at_ with ⟨rfl, _⟩ | ⟨i', cap, hi', rfl, _⟩ <;> rfl
theorem RN.one {c : Nat} {v : Value} {rows : List (List Value)} (r : RN c h v rows) : oneB v = true := by
 rcases r.at_ with ⟨rfl, _⟩ | ⟨i', o, s, cap, rfl, _⟩ <;> rfl
theorem Keeps.extN {h0 : Heap} (k : Keeps v h h') (r : ON B c h e v rows) (wf0 : WF h0) (hB : h0.next ≤ B) (hx : Ext h0 h) : Ext h0 h' := by
 refine ⟨fun j b hj => ?_, fun j o hj => k.o j o (hx.o j o hj)⟩
 refine k.c j b (hx.c j b hj) fun s n c' hv => ?_
 have hlt := wf0.lt hj
 rcases r.at_ with ⟨rfl, _⟩ | ⟨i, cap, hi, rfl, _⟩
 ·
  cases hv
 ·
  cases hv; omega
end
theorem qdh {t t2 e : TypeId} {d2 : TypeDesc} {x y : Operand} {c by_ B m : Nat} {z u v : Value} {rows news : List (List Value)} [td : TyD P t (.slice e)] [t2d : TyD P t2 d2] [ti : TyI P e c by_ z] (hd2 : appB d2 = true) (wf : WF h) (hB : B ≤ h.next)
  (r : ON B c h e u rows) (hx : ρ x = u) (hy : ρ y = v) (hs : Src h c v m news.flatten) (hm : news.length = m) (hl : ∀ r ∈ news, r.length = c) (hone : news.flatten.all oneB = true) (h1 : rows.length + m ≤ maxLen) (h2 : (rows.length + m) * by_ ≤ 140737488355328)
  (kk : ∀ u' h', ON B c h' e u' (rows ++ news) → (∀ j s n k, u' = .slice (some ⟨j, 0, s⟩) n k → h.next ≤ j) → Keeps u h h' → WF h' → h.next ≤ h'.next → K u' h') : AOp P ⟨dst, .call ⟨.builtin .append, #[x, y], #[t, t2]⟩, ty, pos, aft, g⟩ ρ h K := by
 have hlen : ∀ r' ∈ rows ++ news, r'.length = c := fun r' hr => (List.mem_append.1 hr).elim (r.len r') (hl r')
 rcases r.at_ with ⟨rfl, rfl⟩ | ⟨i, cap, hBi, rfl, hi⟩
 ·
  refine qdo (z := z) hd2 hx hy hs (by simpa using h1) (by simpa using h2) (fun hm0 => ?_) (fun hm0 => ?_)
  ·
   have : news = [] := List.eq_nil_of_length_eq_zero (by omega)
   subst this
   exact kk _ _ ⟨hlen, .inl ⟨rfl, rfl⟩⟩ (fun j s n k e => by cases e) ⟨fun j b hj _ => hj, fun j b hj => hj⟩ wf (Nat.le_refl _)
  ·
   exact kk _ _ ⟨hlen, .inr ⟨h.next, m + 1, hB, by simp [hm], by simp [Heap.alloc_new]⟩⟩ (fun j s n k e => by cases e; exact Nat.le_refl _) ⟨fun j b hj _ => (wf.ext _).c j b hj, fun j b hj => hj⟩ (wf.alloc _) (by simp [Heap.alloc])
 ·
  refine qgj (z := z) hd2 hx hy hi rfl rfl (qcs r.len) hs hone h1 h2 ?_
  refine kk _ _ ⟨hlen, .inr ⟨h.next, rows.length + m + 1, hB, by simp [hm], by rw [Heap.kill_alloc_new, List.flatten_append]⟩⟩ (fun j s n k e => by cases e; exact Nat.le_refl _) ⟨fun j b hj hne => ?_, fun j b hj => hj⟩ ((wf.kill i).alloc _) (by simp [Heap.alloc, Heap.kill])
  have := wf.lt hj
  rw [Heap.kill_alloc_old (by omega) (fun e => hne (some c) rows.length cap (by rw [e]))]
  exact hj
theorem qez {t e sz by_ : Nat} {z : Value} {len : Nat} {parts : Array (Nat × Operand)} {out : List Value} [td : TyD P t (.slice e)] [ti : TyI P e sz by_ z] (hl : len * sz ≤ 16777216) (hl0 : 0 < len) (hs0 : 0 < sz) (hu : ∀ p ∈ parts.toList, ρ p.2 ≠ undef)
  (hf : fillA (fun i => some (i * sz, sz)) ((List.range (len * sz)).map fun k => z.cells.toList.getD (k % sz) undef) (parts.toList.map fun p => (p.1, ρ p.2)) = some out) (hlen : out.length = len * sz)
  (kk : K (.slice (some ⟨h.next, 0, some sz⟩) len len) (h.alloc ⟨out, e, true⟩)) : AOp P ⟨dst, .buildSlice t len parts, ty, pos, aft, g⟩ ρ h K :=
 .of_run fun φ ac w r => by
  have hzs : z.cells.size = sz := ti.sz
  have hzp := ti.plain
  have hget : ∀ k, z.cells.toList.getD (k % sz) undef = z.cells[k % z.cells.size]! := by
   intro k
   have hk : k % sz < z.cells.size := by rw [hzs]; exact Nat.mod_lt _ hs0
   rw [hzs, getElem!_pos z.cells (k % sz) hk]
   simp [List.getD_eq_getElem?_getD, hk]
  have hinit : (Array.map (fun x => z.cells[x % z.cells.size]!) (Array.range (len * sz))).toList = (List.range (len * sz)).map fun k => z.cells.toList.getD (k % sz) undef := by
   rw [Array.toList_map, Array.toList_range]
   exact List.map_congr_left fun k _ => (hget k).symm
  obtain ⟨arr', h1, h2⟩ := qcW (φ := φ) (n := h.next) (fun i => some (i * sz, sz)) ac parts.toList _ out (Array.map (fun x => z.cells[x % z.cells.size]!) (Array.range (len * sz))) (by
   rw [hinit]
   refine VRels.scalars (List.all_eq_true.2 fun v hv => ?_)
   obtain ⟨k, _, rfl⟩ := List.mem_map.1 hv
   have hk : k % sz < z.cells.toList.length := by rw [Array.length_toList, hzs]; exact Nat.mod_lt _ hs0
   rw [List.getD_eq_getElem?_getD, List.getElem?_eq_getElem hk]
   exact List.all_eq_true.1 hzp _ (List.getElem_mem hk)) (fun p hp => r.ev p.2 (by simp [Op.operands]; exact ⟨p.1, by simpa using hp⟩)) hu hf
  have hal : arr'.size = len * sz := by have := h2.length; simp at this; omega
  obtain ⟨s1, s2⟩ := r.sim.alloc out arr' e (0, 0) (.inl rfl) (by omega) h2.toArr
  have he : (parts.map fun (p : Nat × Operand) => (p.1, ac.eval p.2)).toList = parts.toList.map fun p => (p.1, ac.eval p.2) := by simp
  have hn0 : ¬ (len * sz = 0) := by
   have := Nat.mul_pos hl0 hs0
   omega
  have hrun : (Instr.buildSlice t len (parts.map fun (p : Nat × Operand) => (p.1, ac.eval p.2))).run P w = .ok (.slice (some ⟨w.heap.size, 0, none⟩) len len) (w.alloc (.cells arr' e)) := by
   have hb : ¬ (len * sz > 2 ^ 24) := by omega
   simp only [Instr.buildSlice, Sem.run_bind, td.run, Result.andThen_ok, ti.size, if_neg hb, if_neg hn0, ti.zero, Sem.run_pure, he]
   rw [h1]
   simp [newRow]
  refine ⟨_, _, _, _, _, by simp [execOp, hrun]; rfl, kk, ?_, s1, s2⟩
  have h3 : len * 1 ≤ len * sz := Nat.mul_le_mul_left _ hs0
  have h24 : len ≤ maxLen := by simp only [maxLen]; omega
  refine .newSlice (Nat.le_refl _) (Nat.le_refl _) ⟨fun _ => rfl, fun hb => by simp only [maxLen] at h24; omega⟩ h24 ?_
  intro t ht
  cases ht
  omega
theorem qe7 {t e sz by_ : Nat} {z : Value} {x : Operand} {row : List Value} [td : TyD P t (.slice e)] [ti : TyI P e sz by_ z] (hl : sz ≤ 16777216) (hs0 : 0 < sz) (hx : ρ x = .agg row.toArray) (hr : row.length = sz)
  (kk : K (.slice (some ⟨h.next, 0, some sz⟩) 1 1) (h.alloc ⟨row, e, true⟩)) : AOp P ⟨dst, .buildSlice t 1 #[(0, x)], ty, pos, aft, g⟩ ρ h K := by
 refine qez (out := row) (by omega) (by omega) hs0 (fun p hp => ?_) ?_ (by omega) kk
 ·
  simp only [List.mem_singleton] at hp
  rw [hp, hx]; intro e; cases e
 ·
  show fillA _ _ [(0, ρ x)] = _
  rw [hx]
  have hc : (Value.agg row.toArray).cells = row.toArray := rfl
  simp only [fillA, hc, List.size_toArray, hr, Nat.zero_mul, List.length_map, List.length_range, Nat.one_mul, Nat.zero_add]
  rw [if_neg (by simp)]
  congr 1
  exact qeN _ _ (by simp [hr])
end
section
variable {P : Program} {φ : Ren} {h : Heap} {w w' : World}
theorem Sim.below (s : Sim P φ h w) (b : Go.RowKit.Below w.heap.size w w') : Sim P φ h w' where
 next := s.next
 blk i c hi := (s.blk i c hi).world (fun _ _ => rfl) (s.lt hi) (Nat.le_refl _) (b.block _ (s.low i c hi))
 low i c hi := Nat.lt_of_lt_of_le (s.low i c hi) b.size
 apart := s.apart
 glob := s.glob
 objs i o hi := (s.objs i o hi).world (fun _ _ => rfl) (s.ltO hi) (Nat.le_refl _) (b.block _ (s.lowO hi))
 apartO := s.apartO
theorem Step.below (b : Go.RowKit.Below w.heap.size w w') : Step φ h w φ h w' :=
 ⟨Nat.le_refl _, fun _ _ => rfl, b.os, b.tape, b.output, b.size, fun k hk _ => b.block k hk, fun _ hk => .inl hk⟩
def solid : Value → Bool
 | .bool _ | .int _ _ | .string _ | .pointer none | .slice none 0 0 | .nilIface => true
 | _ => false
theorem VRel.solid_inv {n : Nat} {v c : Value} (hs : solid v = true) (r : VRel φ n v c) : c = v := by
 cases r <;> first | rfl | (cases hs; done) | skip
 all_goals (simp [solid] at hs)
theorem VRels.solid_inv {n : Nat} : ∀ {vs cs : List Value}, vs.all solid = true → VRels φ n vs cs → cs = vs
 | [], _, _, r => by cases r; rfl
 | v :: vs, _, hs, r => by
  cases r with
  | cons h t =>
   simp only [List.all_cons, Bool.and_eq_true] at hs
   rw [h.solid_inv hs.1, t.solid_inv hs.2]
end
section
variable {P : Program} {φ : Ren} {h : Heap} {W : World}
def Free (h : Heap) : Prop := (∀ i b, h.get i = some b → b.own = false) ∧ ∀ i, h.obj i = none
def tabB (k : IntKind) (zs : List Int) : Blk := ⟨zs.map (Value.int k), 1, false⟩
theorem qg8 {G : Nat} {bs : List RoB} : Free (roHeap G bs) := by
 refine ⟨fun i b hb => ?_, fun i => rfl⟩
 have : (if i < G then none else (bs[i - G]?).bind fun b => if b.cells.isEmpty then none else some (⟨b.cells, 0, false⟩ : Blk)) = some b := hb
 split at this
 ·
  cases this
 ·
  cases hq : bs[i - G]? with
  | none => rw [hq] at this; cases this
  | some rb =>
   rw [hq] at this
   simp only [Option.bind_some] at this
   split at this
   ·
    cases this
   ·
    cases this; rfl
theorem Free.tell (hf : Free h) {g : Nat} {b : Blk} (hb : b.own = false) : Free (h.set g b) := by
 refine ⟨fun i c hc => ?_, hf.2⟩
 simp only [Heap.set] at hc
 split at hc
 ·
  cases hc; exact hb
 ·
  exact hf.1 i c hc
structure Told (P : Program) (W : World) (g : Nat) (b : Blk) : Prop where
 isg : g < P.globals.size
 lt : g < W.heap.size
 own : b.own = false
 rel : ∀ (φ : Ren) n, (φ g).b = g → (φ g).o = 0 → BRel P φ n g b W
theorem told_tab {g : Nat} {k : IntKind} {zs : List Int} {t : TypeId} {fr : Nat × Nat} (hg : g < P.globals.size) (hw : W.heap[g]? = some (.cells (zs.map (Value.int k)).toArray t fr)) : Told P W g (tabB k zs) where
 isg := hg
 lt := (Array.getElem?_eq_some_iff.1 hw).1
 own := rfl
 rel φ n e1 e2 := by
  unfold BRel tabB
  rw [if_neg (by simp)]
  refine ⟨.inr ⟨e2, _, t, fr, by rw [e1]; exact hw, by simp⟩, fun j v hj => ?_⟩
  simp only at hj
  refine ⟨v, ?_, ?_⟩
  ·
   rw [e1, e2]
   simp [World.cell?, hw, hj]
  ·
   obtain ⟨z, _, rfl⟩ := List.mem_map.1 (List.mem_of_getElem? hj)
   exact .int k z
def errB (t : TypeId) : Blk := ⟨[.iface t undef], 0, false⟩
theorem told_err {g : Nat} {te : TypeId} {v : Value} (hg : g < P.globals.size) (hw : W.cell? ⟨g, 0, none⟩ = some (.iface te v)) : Told P W g (errB te) where
 isg := hg
 lt := by
  unfold World.cell? at hw
  split at hw
  ·
   rename_i h1
   exact (Array.getElem?_eq_some_iff.1 h1).1
  ·
   cases hw
 own := rfl
 rel φ n e1 e2 := by
  unfold BRel errB
  rw [if_neg (by simp)]
  refine ⟨.inl rfl, fun j u hj => ?_⟩
  match j, hj with
  | 0, hj =>
   cases hj
   refine ⟨_, ?_, .iface te undef v (.und v)⟩
   rw [e1, e2]
   exact hw
theorem Sim.tell (s : Sim P φ h W) (hf : Free h) {g : Nat} {b : Blk} (ht : Told P W g b) : Sim P φ (h.set g b) W where
 next := by
  refine ⟨fun i hi => ?_, s.next.2⟩
  have h1 := (s.glob g ht.isg).2
  simp only [Heap.set] at hi ⊢
  rw [if_neg (by omega)]
  exact s.next.1 i hi
 blk i c hi := by
  simp only [Heap.set] at hi
  split at hi
  ·
   rename_i he
   subst he
   cases hi
   exact ht.rel φ _ (s.glob i ht.isg).1.1 (s.glob i ht.isg).1.2
  ·
   exact s.blk i c hi
 low i c hi := by
  simp only [Heap.set] at hi
  split at hi
  ·
   rename_i he
   subst he
   rw [(s.glob i ht.isg).1.1]
   exact ht.lt
  ·
   exact s.low i c hi
 apart i j c hi ho hj he := by
  simp only [Heap.set] at hi
  split at hi
  ·
   cases hi
   rw [ht.own] at ho
   cases ho
  ·
   have := hf.1 i c hi
   rw [this] at ho
   cases ho
 glob := s.glob
 objs := s.objs
 apartO i j o hi := by
  have : h.obj i = some o := hi
  rw [hf.2 i] at this
  cases this
theorem tells : ∀ (T : List (Nat × Blk)) {h : Heap}, Sim P φ h W → Free h → (∀ x ∈ T, Told P W x.1 x.2 ∧ h.get x.1 = none) → (T.map (·.1)).Nodup →
  ∃ h', Sim P φ h' W ∧ Free h' ∧ h'.next = h.next ∧ Ext h h' ∧ ∀ x ∈ T, h'.get x.1 = some x.2
 | [], h, s, hf, _, _ => ⟨h, s, hf, rfl, ⟨fun _ _ e => e, fun _ _ e => e⟩, fun x hx => by cases hx⟩
 | x :: T, h, s, hf, ht, hn => by
  obtain ⟨h1, h2⟩ := ht x List.mem_cons_self
  rw [List.map_cons, List.nodup_cons] at hn
  have hne : ∀ y ∈ T, y.1 ≠ x.1 := fun y hy e => hn.1 (e ▸ List.mem_map_of_mem hy)
  obtain ⟨h', q1, q2, q3, q4, q5⟩ := tells T (h := h.set x.1 x.2) (s.tell hf h1) (hf.tell h1.own) (fun y hy => by
   obtain ⟨a, b⟩ := ht y (List.mem_cons_of_mem x hy)
   refine ⟨a, ?_⟩
   simp only [Heap.set]
   rw [if_neg (hne y hy)]
   exact b) hn.2
  have he : Ext h (h.set x.1 x.2) := ⟨fun i b hi => by
   simp only [Heap.set]
   split
   ·
    rename_i e
    subst e
    rw [h2] at hi
    cases hi
   ·
    exact hi, fun _ _ e => e⟩
  refine ⟨h', q1, q2, q3, ⟨fun i b hi => q4.c i b (he.c i b hi), fun i o hi => q4.o i o (he.o i o hi)⟩, fun y hy => ?_⟩
  rcases List.mem_cons.1 hy with rfl | hy
  ·
   exact q4.c _ _ (by simp [Heap.set])
  ·
   exact q5 y hy
theorem law_free {f : FuncId} {args cargs : List Value} (s : Sim P φ h W) (hf : Free h) (hargs : VRels φ h.next args cargs) (p : ACalls P f args h fun v _ => v = .bool true) :
  Calls P f cargs.toArray W fun e W' => e = .returned (.bool true) ∧ Go.RowKit.Below W.heap.size W W' :=
 (p _ W cargs s hargs).mono fun e W' hr => by
  cases e with
  | returned c =>
   obtain ⟨v, h', φ', rfl, hv, _, st⟩ := hr
   refine ⟨by rw [hv.bool_inv], st.os, st.tape, st.output, st.size, fun k hk => st.frame k hk ?_⟩
   rintro (⟨i, b, hb, ho, _⟩ | ⟨i, o, hb, _⟩)
   ·
    rw [hf.1 i b hb] at ho
    cases ho
   ·
    rw [hf.2 i] at hb
    cases hb
  | panicked c => exact hr.elim
  | outgrown => exact hr.elim
theorem Sim.tab (s : Sim P φ h W) {g : Nat} {name : String} {k : IntKind} {zs : List Int} (hn : P.globalNamed name = some g) (hg : g < P.globals.size) (ht : h.get g = some (tabB k zs)) : Lib.TabIs P W name k zs := by
 obtain ⟨⟨e1, e2⟩, _⟩ := s.glob g hg
 have hb := s.blk g _ ht
 unfold BRel tabB at hb
 rw [if_neg (by simp)] at hb
 obtain ⟨hw | ⟨_, arr, t, fr, hw, hsz⟩, hc⟩ := hb
 ·
  cases hw
 ·
  simp only at hsz hc
  rw [e1] at hw
  have ha : arr = (zs.map (Value.int k)).toArray := by
   apply Array.ext'
   apply List.ext_getElem?
   intro j
   have hj : (arr.toList)[j]? = arr[j]? := by simp
   by_cases hjl : j < (zs.map (Value.int k)).length
   ·
    obtain ⟨c, h1, h2⟩ := hc j _ (List.getElem?_eq_getElem hjl)
    rw [e1, e2] at h1
    simp only [World.cell?, hw, Nat.zero_add] at h1
    have h3 : c = (zs.map (Value.int k))[j] := by
     rw [List.getElem_map] at h2 ⊢
     cases h2
     rfl
    rw [hj]
    simp only [List.getElem?_eq_getElem hjl]
    rw [← h3]
    simpa using h1
   ·
    rw [hj, Array.getElem?_eq_none (by omega), List.getElem?_eq_none (by simpa using hjl)]
  unfold Lib.TabIs World.var?
  rw [hn]
  simp only [Option.bind_some, hw, ha]
theorem ACalls.of_sim {f : FuncId} {args : List Value} {v : Value} (ha : args.all solid = true) (hv : plainV v = true) (c : ∀ φ w, Sim P φ h w → Calls P f args.toArray w fun e w' => e = .returned v ∧ Go.RowKit.Below w.heap.size w w') :
  ACalls P f args h fun u h' => u = v ∧ h' = h := by
 intro φ w cargs s va
 rw [va.solid_inv ha]
 refine (c φ w s).mono fun e w' ⟨he, hb⟩ => ?_
 subst he
 exact ⟨v, h, φ, ⟨rfl, rfl⟩, .of_plain hv, s.below hb, Step.below hb⟩
variable {H : Type} {enc : TypeId × Value → H}
end
section
variable {P : Program} {φ : Ren} {h : Heap} {w : World}
theorem RS.conc {v c : Value} {vs : List Value} (r : RS h v vs) (hs : vs.all solid = true) (s : Sim P φ h w) (rv : VRel φ h.next v c) :
  ∃ a cap, c = .slice a vs.length cap ∧ vs.length ≤ cap ∧ cap ≤ maxLen ∧ (vs = [] ∨ ∃ b o, a = some ⟨b, o, none⟩ ∧ b < w.heap.size ∧ ∀ (j : Nat) x, vs[j]? = some x → w.cell? ⟨b, o + j, none⟩ = some x) := by
 rcases r with ⟨rfl, rfl⟩ | ⟨i, o, st, k, rfl, hst, hb⟩
 ·
  cases rv
  exact ⟨none, 0, rfl, Nat.le_refl _, Nat.zero_le _, .inl rfl⟩
 ·
  cases rv with
  | slice i o len cap cap' st a' hi h1 h2 h3 h4 h5 h6 =>
   refine ⟨some a', cap', rfl, h2, h5, ?_⟩
   by_cases hv : vs = []
   ·
    exact .inl hv
   ·
    right
    obtain ⟨b, g1, g2, g3⟩ := hb hv
    have hpos : 0 < vs.length := List.length_pos_iff.2 hv
    have ha : a' = ⟨(φ i).b, (φ i).o + o, none⟩ := by
     rcases h4 with h4 | h4
     ·
      exact h4
     ·
      omega
    refine ⟨(φ i).b, (φ i).o + o, by rw [ha], s.low i b g1, fun j x hj => ?_⟩
    have hjl := (List.getElem?_eq_some_iff.1 hj).1
    have hc : b.cells[o + j]? = some x := by
     have : ((b.cells.drop o).take vs.length)[j]? = some x := by rw [g3]; exact hj
     rw [List.getElem?_take_of_lt hjl, List.getElem?_drop] at this
     exact this
    obtain ⟨c, q1, q2⟩ := s.cell g1 hc
    have hx := q2.solid_inv (List.all_eq_true.1 hs x (List.mem_of_getElem? hj))
    rw [← Nat.add_assoc] at q1
    rw [q1, hx]
theorem ACalls.of_conc {f : FuncId} {args : List Value} {v : Value} (hv : plainV v = true) (c : ∀ φ w cargs, Sim P φ h w → VRels φ h.next args cargs → Calls P f cargs.toArray w fun e w' => e = .returned v ∧ Go.RowKit.Below w.heap.size w w') :
  ACalls P f args h fun u h' => u = v ∧ h' = h := by
 intro φ w cargs s va
 refine (c φ w cargs s va).mono fun e w' ⟨he, hb⟩ => ?_
 subst he
 exact ⟨v, h, φ, ⟨rfl, rfl⟩, .of_plain hv, s.below hb, Step.below hb⟩
theorem ACalls.of_rel {f : FuncId} {args : List Value} {v : Value} (c : ∀ φ w cargs, Sim P φ h w → VRels φ h.next args cargs → Calls P f cargs.toArray w fun e w' => ∃ c, e = .returned c ∧ VRel φ h.next v c ∧ Go.RowKit.Below w.heap.size w w') :
  ACalls P f args h fun u h' => u = v ∧ h' = h := by
 intro φ w cargs s va
 refine (c φ w cargs s va).mono fun e w' ⟨c, he, hv, hb⟩ => ?_
 subst he
 exact ⟨v, h, φ, ⟨rfl, rfl⟩, hv, s.below hb, Step.below hb⟩
end
structure Spec where
 p : Value → Heap → Prop
 mono : ∀ v h h', p v h → Ext h h' → p v h'
def Spec.any : Spec := ⟨fun _ _ => True, fun _ _ _ _ _ => trivial⟩
def Spec.eq (c : Value) : Spec := ⟨fun v _ => v = c, fun _ _ _ h _ => h⟩
def Spec.rs (vs : List Value) : Spec := ⟨fun v h => RS h v vs, fun _ _ _ h x => RS.ext h x⟩
def Spec.rb (l : List UInt8) : Spec := ⟨fun v h => RB h v l, fun _ _ _ h x => RB.ext h x⟩
def Spec.rbb (l : List (List UInt8)) : Spec := ⟨fun v h => RBB h v l, fun _ _ _ h x => RBB.ext h x⟩
def dstOf (ops : Array Oper) (j : Nat) : Nat :=
 match ops[j]? with
 | some o => o.dst.getD 0
 | none => 0
def lowB (ops : Array Oper) (t : Nat) : Bool := ops.toList.all fun o => match o.dst with
 | some d => !Nat.beq d t
 | none => true
def flowB (N : Nat) (ops : Array Oper) : Bool :=
 (List.range ops.size).all fun i => (match ops[i]? with
  | some o => (match o.dst with
   | some d => Nat.blt d N
   | none => false) && o.after.all (fun e => !Region.binds .any e || Nat.blt e.on i)
  | none => false) && (List.range i).all fun j => !Nat.beq (dstOf ops i) (dstOf ops j)
section
variable {P : Program} {N : Nat} {ops : Array Oper} {Q : Exit → Env → Heap → Prop} {env : Env} {h : Heap} {S : List Spec}
def spec (S : List Spec) (i : Nat) : Spec := S.getD i .any
def FlowAt (P : Program) (ops : Array Oper) (env : Env) (h : Heap) (S : List Spec) (i : Nat) (o : Oper) : Prop :=
 ∀ e h', Ext h h' → WF h' → h.next ≤ h'.next → (∀ t, lowB ops t = true → e.get t = env.get t) → (∀ j, edgeB ops i j = true → (spec S j).p (e.get (dstOf ops j)) h') →
  (gv ops e o = some true ∧ AOp P o (ev P e) h' fun v h'' => Ext h' h'' ∧ (spec S i).p v h'') ∨ (gv ops e o = some false ∧ (spec S i).p undef h')
def FlowL (P : Program) (ops : Array Oper) (env : Env) (h : Heap) (S : List Spec) : Nat → List Oper → Prop
 | _, [] => True
 | i, o :: l => FlowAt P ops env h S i o ∧ FlowL P ops env h S (i + 1) l
end
variable {P : Program} {ρ : Operand → Value} {h : Heap} {K : Value → Heap → Prop} {dst : Option Tmp} {ty : TypeId} {pos : String} {aft : Array Edge} {g : Option (Nat × Bool)}
theorem ResV.cell2 {fn : Func} {env : Env} {a u : Tmp} {t : TypeId} {i o sz by_ : Nat} {z : Value} {s : Option Nat} {b : Blk} {d : TypeDesc} [td : TyD P t d] [ti : TyI P t sz by_ z] (hr : fn.results = #[.cell a t, .tmp u]) (hx : env.get a = .pointer (some ⟨i, o, s⟩)) (ha : aggB d = true)
  (hi : h.get i = some b) (hl : o + sz ≤ b.cells.length) : ResV P fn env h (.tuple #[.agg ((b.cells.drop o).take sz).toArray, env.get u]) := by
 intro N φ tmps w r
 obtain ⟨v, h1, h2⟩ := qdH (P := P) (t := t) r.sim (hx ▸ r.env a) ha hi hl
 refine ⟨.tuple #[v, tmps.getD u undef], ?_, .tuple2 h2 (r.env u)⟩
 have h3 : (results fn tmps).run P w = (do let x ← loadVar t (← asAddr (tmps.getD a undef)); pure (.tuple #[x, tmps.getD u undef]) : Sem Value).run P w := by
  simp only [results, hr]
  simp only [List.mapM_toArray, List.mapM_cons, List.mapM_nil, Sem.run_bind, Sem.run_map, Sem.run_pure]
  cases (asAddr (tmps.getD a undef)).run P w with
  | halt x w1 => rfl
  | ok x w1 =>
   simp only [Result.andThen_ok]
   cases (loadVar t x).run P w1 with
   | halt y w2 => rfl
   | ok y w2 => rfl
 rw [h3]
 simp only [Sem.run_bind] at h1 ⊢
 cases h4 : (asAddr (tmps.getD a undef)).run P w with
 | halt x w1 => rw [h4] at h1; cases h1
 | ok x w1 =>
  rw [h4] at h1
  simp only [Result.andThen_ok] at h1 ⊢
  rw [h1]
  simp
theorem ACalls.resetB {f : FuncId} {args : List Value} {Q : Value → Heap → Prop} (p : ACalls P f args h fun v h' => Bdd h.next v ∧ Ext h h' ∧ Q v h) : ACalls P f args h Q :=
 fun φ w cargs s va => (p φ w cargs s va).mono fun e w' hr => by
  cases e with
  | returned c =>
   obtain ⟨v, h', φ', ⟨⟨φ0, c0, hb⟩, hx, q⟩, r1, r2, r3⟩ := hr
   exact ⟨v, h, φ', q, r1.lower hb, s.reset r2 r3.agree hx, r3.reset hx⟩
  | _ => exact hr
theorem Bdd.plain {n : Nat} {v : Value} (h : plainV v = true) : Bdd n v := ⟨fun _ => ⟨0, 0, 0⟩, v, .of_plain h⟩
variable {P : Program} {ρ : Operand → Value} {h : Heap} {K : Value → Heap → Prop} {dst : Option Tmp} {ty : TypeId} {pos : String} {aft : Array Edge} {g : Option (Nat × Bool)}
theorem qab {x : Operand} {f : FuncId} {fi ca : Array Value} {args : Array Operand} {aT : Array TypeId} [fc : FnC P f] {evs : List Value} {v : Value} (hx : ρ x = .func (.func f) fi ca) (he : fi.toList ++ (args.toList.map ρ ++ ca.toList) = evs)
  (c : ACalls P f evs h fun u h' => u = v ∧ h' = h) (kk : K v h) : AOp P ⟨dst, .call ⟨.value x, args, aT⟩, ty, pos, aft, g⟩ ρ h K :=
 qar hx he (c.mono (by rintro u h' ⟨rfl, rfl⟩; exact kk))
theorem ACalls.val {f : FuncId} {args : List Value} {v v' : Value} (e : v = v') (c : ACalls P f args h fun u h' => u = v ∧ h' = h) : ACalls P f args h fun u h' => u = v' ∧ h' = h := e ▸ c
structure Aside (w w' : World) : Prop where
 size : w.heap.size ≤ w'.heap.size
 cells : ∀ (k : Nat) (o : Obj), w.heap[k]? = some o → keptB o = true → w'.heap[k]? = some o
theorem qfp {o : Obj} (h : o.isCells = true) : keptB o = true := by
 cases o <;> first | rfl | cases h
theorem Sim.aside {P : Program} {φ : Ren} {h : Heap} {w w' : World} (s : Sim P φ h w) (q : Aside w w') : Sim P φ h w' where
 next := s.next
 low i b hi := Nat.lt_of_lt_of_le (s.low i b hi) q.size
 apart := s.apart
 glob := s.glob
 objs i o hi := by
  obtain ⟨x, h1, h2, _⟩ := (s.objs i o hi).obj
  exact (s.objs i o hi).world (fun _ _ => rfl) (s.ltO hi) (Nat.le_refl _) (by rw [q.cells _ _ h1 h2, h1])
 apartO := s.apartO
 blk i b hi := by
  have hb := s.blk i b hi
  unfold BRel at hb ⊢
  split
  ·
   rename_i ho
   rw [if_pos ho] at hb
   obtain ⟨arr, fr, h1, h2⟩ := hb
   exact ⟨arr, fr, q.cells _ _ h1 rfl, h2⟩
  ·
   rename_i ho
   rw [if_neg ho] at hb
   refine ⟨?_, fun k v hk => ?_⟩
   ·
    rcases hb.1 with e | ⟨e, arr, t, fr, e1, e2⟩
    ·
     exact .inl e
    ·
     exact .inr ⟨e, arr, t, fr, q.cells _ _ e1 rfl, e2⟩
   obtain ⟨c, hc, hr⟩ := hb.2 k v hk
   obtain ⟨o, h1, h2⟩ := cells_of_cell hc
   have h3 := q.cells _ _ h1 (qfp h2)
   refine ⟨c, ?_, hr⟩
   unfold World.cell? at hc ⊢
   rw [h3]
   rw [h1] at hc
   exact hc
theorem Sim.not_owned {P : Program} {φ : Ren} {h : Heap} {w : World} (s : Sim P φ h w) {k : Nat} {o : Obj} (hk : w.heap[k]? = some o) (ho : keptB o = false) : ¬ Owned φ h k := by
 rintro (⟨i, b, h1, h2, rfl⟩ | ⟨i, x, h1, rfl⟩)
 ·
  obtain ⟨arr, fr, h3, _⟩ := s.owned h1 h2
  rw [hk] at h3
  cases h3
  cases ho
 ·
  obtain ⟨y, h3, h4, _⟩ := (s.objs i x h1).obj
  rw [hk] at h3
  cases h3
  rw [ho] at h4
  cases h4
theorem qbM {w : World} {k : Nat} {o : Obj} (hk : w.heap[k]? = some o) : k < w.heap.size := (Array.getElem?_eq_some_iff.1 hk).1
theorem Step.other {P : Program} {φ φ' : Ren} {h h' : Heap} {w w' : World} (s : Sim P φ h w) (t : Step φ h w φ' h' w') {k : Nat} {o : Obj} (hk : w.heap[k]? = some o) (ho : keptB o = false) : w'.heap[k]? = some o := by
 rw [t.frame k (qbM hk) (s.not_owned hk ho)]; exact hk
theorem Aside.put {w : World} {l : Nat} {o o' : Obj} (hl : w.heap[l]? = some o) (ho : keptB o = false) : Aside w (w.putObj l o') where
 size := by simp [World.putObj]
 cells k x hk hx := by
  rw [World.putObj_heap_other (by rintro rfl; rw [hl] at hk; cases hk; rw [ho] at hx; cases hx)]
  exact hk
theorem Aside.alloc (w : World) (o : Obj) : Aside w (w.alloc o) where
 size := by show w.heap.size ≤ (w.heap.push o).size; simp
 cells k x hk hx := by
  have := qbM hk
  show (w.heap.push o)[k]? = _
  rw [Array.getElem?_push_lt this]
  rw [Array.getElem?_eq_getElem this] at hk
  exact hk
theorem qfi {w : World} {o x : Obj} {k : Nat} (hk : w.heap[k]? = some x) : (w.alloc o).heap[k]? = some x := by
 have := qbM hk
 show (w.heap.push o)[k]? = _
 rw [Array.getElem?_push_lt this]
 rw [Array.getElem?_eq_getElem this] at hk
 exact hk
structure StepX (x : Nat → Prop) (φ : Ren) (h : Heap) (w : World) (φ' : Ren) (h' : Heap) (w' : World) : Prop where
 next : h.next ≤ h'.next
 agree : ∀ i, i < h.next → φ' i = φ i
 os : w'.os = w.os
 tape : w'.tape = w.tape
 output : w'.output = w.output
 size : w.heap.size ≤ w'.heap.size
 frame : ∀ k, k < w.heap.size → ¬ Owned φ h k → ¬ x k → w'.heap[k]? = w.heap[k]?
 own : ∀ k, Owned φ' h' k → Owned φ h k ∨ w.heap.size ≤ k
theorem Step.x {x : Nat → Prop} {φ φ' : Ren} {h h' : Heap} {w w' : World} (s : Step φ h w φ' h' w') : StepX x φ h w φ' h' w' :=
 ⟨s.next, s.agree, s.os, s.tape, s.output, s.size, fun k a b _ => s.frame k a b, s.own⟩
theorem StepX.full {x : Nat → Prop} {φ φ' : Ren} {h h' : Heap} {w w' : World} (s : StepX x φ h w φ' h' w') (hx : ∀ k, k < w.heap.size → ¬ x k) : Step φ h w φ' h' w' :=
 ⟨s.next, s.agree, s.os, s.tape, s.output, s.size, fun k a b => s.frame k a b (hx k a), s.own⟩
theorem StepX.wider {x y : Nat → Prop} {φ φ' : Ren} {h h' : Heap} {w w' : World} (s : StepX x φ h w φ' h' w') (hx : ∀ k, k < w.heap.size → x k → y k) : StepX y φ h w φ' h' w' :=
 ⟨s.next, s.agree, s.os, s.tape, s.output, s.size, fun k a b c => s.frame k a b (fun d => c (hx k a d)), s.own⟩
theorem StepX.refl (x : Nat → Prop) (φ : Ren) (h : Heap) (w : World) : StepX x φ h w φ h w := (Step.refl φ h w).x
theorem StepX.trans {x : Nat → Prop} {φ1 φ2 φ3 : Ren} {h1 h2 h3 : Heap} {w1 w2 w3 : World} (a : StepX x φ1 h1 w1 φ2 h2 w2) (b : StepX x φ2 h2 w2 φ3 h3 w3) : StepX x φ1 h1 w1 φ3 h3 w3 where
 next := Nat.le_trans a.next b.next
 agree i hi := (b.agree i (Nat.lt_of_lt_of_le hi a.next)).trans (a.agree i hi)
 os := b.os.trans a.os
 tape := b.tape.trans a.tape
 output := b.output.trans a.output
 size := Nat.le_trans a.size b.size
 frame k hk ho hx := by
  rw [b.frame k (Nat.lt_of_lt_of_le hk a.size) (fun h => (a.own k h).elim ho (fun h' => by omega)) hx, a.frame k hk ho hx]
 own k hk := (b.own k hk).elim (fun h => a.own k h) (fun h => .inr (Nat.le_trans a.size h))
theorem StepX.mono {x : Nat → Prop} {φ φ' : Ren} {h h' : Heap} {w w' : World} (s : StepX x φ h w φ' h' w') {v c : Value} (r : VRel φ h.next v c) : VRel φ' h'.next v c := r.mono s.agree s.next
theorem StepX.put {x : Nat → Prop} {φ φ' : Ren} {h h' : Heap} {w w' : World} (s : StepX x φ h w φ' h' w') {l : Nat} (o : Obj) (hl : w.heap.size ≤ l ∨ x l) : StepX x φ h w φ' h' (w'.putObj l o) :=
 ⟨s.next, s.agree, s.os, s.tape, s.output, by simpa [World.putObj] using s.size, fun k a b c => by
  rw [World.putObj_heap_other (by rintro rfl; rcases hl with hl | hl; omega; exact c hl)]
  exact s.frame k a b c, s.own⟩
theorem StepX.alloc {x : Nat → Prop} {φ φ' : Ren} {h h' : Heap} {w w' : World} (s : StepX x φ h w φ' h' w') (o : Obj) : StepX x φ h w φ' h' (w'.alloc o) :=
 ⟨s.next, s.agree, s.os, s.tape, s.output, by have := s.size; show w.heap.size ≤ (w'.heap.push o).size; simp; omega, fun k a b c => by
  have := s.size
  have h1 : k < w'.heap.size := by omega
  show (w'.heap.push o)[k]? = _
  rw [Array.getElem?_push_lt h1, ← Array.getElem?_eq_getElem h1]
  exact s.frame k a b c, s.own⟩
def Marks (B : Nat → Prop) (ds : List Deferred) (w : World) : Prop :=
 ∃ Ds : List Nat, ds = Ds.map (fun D => { target := .collected D, args := #[] }) ∧ Ds.Nodup ∧ ∀ D ∈ Ds, B D ∧ w.heap[D]? = some (.deferred (some []))
theorem Marks.nil (B : Nat → Prop) (w : World) : Marks B [] w := ⟨[], rfl, .nil, by simp⟩
theorem Marks.keep {B : Nat → Prop} {ds : List Deferred} {w w' : World} (m : Marks B ds w) (hk : ∀ (D : Nat), w.heap[D]? = some (Obj.deferred (some [])) → w'.heap[D]? = some (Obj.deferred (some []))) : Marks B ds w' := by
 obtain ⟨Ds, h1, h2, h3⟩ := m
 exact ⟨Ds, h1, h2, fun D hD => ⟨(h3 D hD).1, hk D (h3 D hD).2⟩⟩
theorem Marks.step {P : Program} {B : Nat → Prop} {ds : List Deferred} {φ φ' : Ren} {h h' : Heap} {w w' : World} (m : Marks B ds w) (s : Sim P φ h w) (t : Step φ h w φ' h' w') : Marks B ds w' :=
 m.keep fun _D hD => t.other s hD rfl
structure Ctx (P : Program) where
 x : Nat → Prop
 L : Option Code → Ren → Heap → World → Prop
 B : Nat → Prop
 st : ∀ {s : Option Code} {φ φ' : Ren} {h h' : Heap} {w w' : World}, Sim P φ h w → L s φ h w → Step φ h w φ' h' w' → L s φ' h' w'
abbrev Fc (ro : Option Nat) : Fence := { Fence.wide with round := ro }
abbrev XQ := Env → Heap → Option Code → Prop
def XPost {P : Program} (C : Ctx P) (N : Nat) (φ : Ren) (h : Heap) (w : World) (K : XQ) (a' : Act) (w' : World) : Prop :=
 ∃ env' h' s' φ', K env' h' s' ∧ Marks C.B a'.defers w' ∧ Rel P N φ' env' h' a'.tmps w' ∧ StepX C.x φ h w φ' h' w' ∧ C.L s' φ' h' w'
def XWp {P : Program} (C : Ctx P) (ro : Option Nat) (N : Nat) (c : Code) (Q : Exit → XQ) (env : Env) (h : Heap) (s : Option Code) : Prop :=
 ∀ φ a w, C.L s φ h w → Marks C.B a.defers w → Rel P N φ env h a.tmps w → c.wpIn (Fc ro) 0 P (fun ex a' w' => XPost C N φ h w (Q ex) a' w') a w
section rules
variable {P : Program} {C : Ctx P} {ro : Option Nat} {N : Nat} {Q : Exit → XQ} {env : Env} {h : Heap} {s : Option Code}
theorem XPost.trans {φ φ' : Ren} {h h' : Heap} {w w' : World} {K : XQ} {a : Act} {w2 : World} (p : XPost C N φ' h' w' K a w2) (t : StepX C.x φ h w φ' h' w') : XPost C N φ h w K a w2 := by
 obtain ⟨e, h2, s2, φ2, k, d, r, u, l⟩ := p
 exact ⟨e, h2, s2, φ2, k, d, r, t.trans u, l⟩
theorem XPost.mono {φ : Ren} {h : Heap} {w : World} {K K' : XQ} {a : Act} {w2 : World} (p : XPost C N φ h w K a w2) (hk : ∀ e h' s', K e h' s' → K' e h' s') : XPost C N φ h w K' a w2 := by
 obtain ⟨e, h2, s2, φ2, k, r⟩ := p
 exact ⟨e, h2, s2, φ2, hk _ _ _ k, r⟩
theorem XPost.now {φ : Ren} {h : Heap} {w : World} {K : XQ} {env : Env} {a : Act} (k : K env h s) (l : C.L s φ h w) (d : Marks C.B a.defers w) (r : Rel P N φ env h a.tmps w) : XPost C N φ h w K a w :=
 ⟨env, h, s, φ, k, d, r, StepX.refl _ _ _ _, l⟩
theorem XWp.wf {c : Code} (p : WF h → XWp C ro N c Q env h s) : XWp C ro N c Q env h s := fun φ a w l d r => p r.sim.next φ a w l d r
theorem XWp.skip (k : Q .normal env h s) : XWp C ro N .skip Q env h s := fun _ _ _ l d r => wpIn_skip (XPost.now k l d r)
theorem XWp.exit {id : Nat} (k : Q (.exit id) env h s) : XWp C ro N (.exit id) Q env h s := fun _ _ _ l d r => wpIn_exit (XPost.now k l d r)
theorem XWp.ret (k : Q .ret env h s) : XWp C ro N .ret Q env h s := fun _ _ _ l d r => wpIn_ret (XPost.now k l d r)
@[reducible] def thenX (K : XQ) (Q : Exit → XQ) : Exit → XQ
 | .normal => K
 | ex => Q ex
@[reducible] def seqX (C : Ctx P) (ro : Option Nat) (N : Nat) (y : Code) (Q : Exit → XQ) : Exit → XQ
 | .normal => XWp C ro N y Q
 | ex => Q ex
theorem XWp.seq {x y : Code} (p : XWp C ro N x (seqX C ro N y Q) env h s) : XWp C ro N (.seq x y) Q env h s := by
 intro φ a w l d r
 refine wpIn_seq (wpIn_mono (p φ a w l d r) fun ex a' w' hp => ?_)
 cases ex with
 | normal =>
  obtain ⟨e, h2, s2, φ2, k, d2, r2, t, l2⟩ := hp
  exact wpIn_mono (k φ2 a' w' l2 d2 r2) fun _ _ _ hp2 => hp2.trans t
 | _ => exact hp
theorem XWp.cond {c : Operand} {x y : Code} {t : Bool} (hc : ev P env c = .bool t) (ht : t = true → XWp C ro N x Q env h s) (hf : t = false → XWp C ro N y Q env h s) : XWp C ro N (.cond c x y) Q env h s := by
 intro φ a w l d r
 have hv := r.ev c
 rw [hc] at hv
 exact wpIn_cond_split hv.bool_inv (fun e => ht e φ a w l d r) (fun e => hf e φ a w l d r)
theorem XWp.condT {c : Operand} {x y : Code} (hc : ev P env c = .bool true) (p : XWp C ro N x Q env h s) : XWp C ro N (.cond c x y) Q env h s := .cond hc (fun _ => p) (fun e => by cases e)
theorem XWp.condF {c : Operand} {x y : Code} (hc : ev P env c = .bool false) (p : XWp C ro N y Q env h s) : XWp C ro N (.cond c x y) Q env h s := .cond hc (fun e => by cases e) (fun _ => p)
@[reducible] def blockX (id : Nat) (Q : Exit → XQ) : Exit → XQ
 | .exit id', e, h, s => if id' = id then Q .normal e h s else Q (.exit id') e h s
 | ex, e, h, s => Q ex e h s
theorem XWp.block {id : Nat} {c : Code} (p : XWp C ro N c (blockX id Q) env h s) : XWp C ro N (.block id c) Q env h s := by
 intro φ a w l d r
 refine wpIn_block (wpIn_mono (p φ a w l d r) fun ex a' w' hp => ?_)
 cases ex with
 | exit id' =>
  simp only [Exit.inBlock]
  split
  ·
   rename_i he
   exact hp.mono fun e h' s' k => by simpa [blockX, he] using k
  ·
   rename_i he
   exact hp.mono fun e h' s' k => by simpa [blockX, he] using k
 | _ => exact hp
theorem XWp.loop {α : Type} {c : Code} (E : α → Env) (H : α → Heap) (V : α → Prop) (m : α → Nat) (y0 : α) (hx : V y0) (hw : Weak env h (E y0) (H y0))
  (round : ∀ y, V y → XWp C ro N c (thenX (fun e h' s' => s' = s ∧ ∃ z, V z ∧ m z < m y ∧ Weak e h' (E z) (H z)) Q) (E y) (H y) s) : XWp C ro N (.loop c) Q env h s := by
 intro φ a w l d r b k cs hro hb hr
 have key : ∀ n y φ' a' w', m y = n → V y → C.L s φ' (H y) w' → Marks C.B a'.defers w' → Rel P N φ' (E y) (H y) a'.tmps w' → StepX C.x φ h w φ' (H y) w' →
   ∃ e a2 w2, XPost C N φ h w (Q e) a2 w2 ∧ ArrivesIn (Machine.fenced P (Fc ro)) P (lone (b.atR a' (.code c :: .inLoop c :: k)) cs w') b k cs e a2 w2 := by
  intro n
  induction n using Nat.strongRecOn with
  | _ n ih =>
   intro y φ' a' w' hn hv hl' hd' r' st
   obtain ⟨e, a1, w1, hq, harr⟩ := round y hv φ' a' w' hl' hd' r' b (.inLoop c :: k) cs hro hb hr
   cases e with
   | normal =>
    obtain ⟨e1, h1, s1, φ1, ⟨rfl, z, hz, hlt, hwk⟩, d1, r1, t1, l1⟩ := hq
    have st1 : StepX C.x φ h w φ1 (H z) w1 := (st.trans t1).trans (Step.weak hwk.next hwk.ext).x
    obtain ⟨e2, a2, w2, hq2, harr2⟩ := ih (m z) (hn ▸ hlt) z φ1 a1 w1 rfl hz (C.st r1.sim l1 (Step.weak hwk.next hwk.ext)) d1 (r1.weak hwk) st1
    exact ⟨e2, a2, w2, hq2, .of_steps (StepsIn.trans harr (.one (fenced_calm hb hr rfl) stepR_inLoop)) harr2⟩
   | exit id => exact ⟨_, a1, w1, hq.trans st, .pass (x := .inLoop c) rfl (fun _ _ => .inl (by simp)) harr⟩
   | goto i => exact ⟨_, a1, w1, hq.trans st, .pass (x := .inLoop c) rfl (fun _ _ => .inl (by simp)) harr⟩
   | ret => exact ⟨_, a1, w1, hq.trans st, .pass (x := .inLoop c) rfl (fun _ _ => .inl (by simp)) harr⟩
   | panic ch => exact ⟨_, a1, w1, hq.trans st, .pass (x := .inLoop c) rfl (fun _ _ => .inl (by simp)) harr⟩
   | outgrown => exact ⟨_, a1, w1, hq.trans st, .pass (x := .inLoop c) rfl (fun _ _ => .inl (by simp)) harr⟩
 obtain ⟨e, a2, w2, hq, harr⟩ := key _ y0 φ a w rfl hx (C.st r.sim l (Step.weak hw.next hw.ext)) d (r.weak hw) (Step.weak hw.next hw.ext).x
 exact ⟨e, a2, w2, hq, .of_steps (.one (fenced_calm hb hr rfl) stepR_loop) harr⟩
end rules
theorem qc7 {P : Program} {ro : Option Nat} {o : Oper} {a : Act} {w : World} {next : Act → World → Prop} {Q : Exit → Act → World → Prop} (hnd : ∀ c, o.op ≠ .defer c) (p : o.wp P a w next Q) : o.wpIn (Fc ro) 0 P a w next Q := by
 refine ⟨fun _ _ => trivial, ?_⟩
 rw [show (Fc ro).round = ro from rfl, Oper.semAt_eq ro a.eval o hnd]
 unfold Oper.wp at p
 generalize (execOp a.eval o).run P w = r at p ⊢
 unfold Oper.upon at p
 split at p
 ·
  exact p
 ·
  exact p
 ·
  exact p
 ·
  refine ⟨(fun e => by cases e), ?_⟩
  have := (callsIn_wide (n := 0 - 1)).2 p
  exact this
 ·
  rename_i row args w' 
  refine ⟨(fun e => by cases e), ?_⟩
  intro c cs _
  obtain ⟨v, w2, hr, hs⟩ := p c cs
  exact ⟨v, w2, hr, stepsIn_wide.2 hs⟩
 ·
  exact p
 ·
  exact p.elim
def deferB : Op → Bool
 | .defer _ => true
 | _ => false
theorem qd0 {op : Op} (h : deferB op = false) : ∀ c, op ≠ .defer c := by
 rintro c rfl
 cases h
theorem qeh {P : Program} {F : Fence} {o : Oper} {a : Act} {next next' : Act → World → Prop} {Q Q' : Exit → Act → World → Prop} (hn : ∀ a w, next a w → next' a w) (hq : ∀ e a w, Q e a w → Q' e a w) :
  ∀ r, o.uponIn F 0 P a next Q r → o.uponIn F 0 P a next' Q' r := by
 intro r hr
 unfold Oper.uponIn at hr ⊢
 split at hr
 ·
  exact hn _ _ hr
 ·
  exact hn _ _ hr
 ·
  exact hn _ _ hr
 ·
  refine ⟨hr.1, CallsIn.mono hr.2 fun e w' k => ?_⟩
  cases e with
  | returned v => exact hn _ _ k
  | panicked c => exact hq _ _ _ k
  | outgrown => exact qbJ hq k
 ·
  exact ⟨hr.1, RowsIn.mono hr.2 fun _ _ k => hn _ _ k⟩
 ·
  refine ⟨hr.1, RoundIn.mono hr.2 fun e w' k => ?_⟩
  cases e with
  | returned v => exact hn _ _ k
  | panicked c => exact hq _ _ _ k
  | outgrown => exact qbJ hq k
 ·
  exact hq _ _ _ hr
 ·
  exact hr.elim
theorem qbz {P : Program} {F : Fence} {ops : Array Oper} {Q Q' : Exit → Act → World → Prop} (hq : ∀ e a w, Q e a w → Q' e a w) : ∀ (l : List Oper) (a : Act) (w : World), wpListIn F 0 P ops Q l a w → wpListIn F 0 P ops Q' l a w
 | [], _, _, p => hq _ _ _ p
 | o :: rest, a, w, p => by
  simp only [wpListIn] at p ⊢
  split
  ·
   rename_i hw
   rw [if_pos hw] at p
   exact ⟨p.1, qeh (qbz hq rest) hq _ p.2⟩
  ·
   rename_i hw
   rw [if_neg hw] at p
   exact ⟨p.1, qbz hq rest _ _ p.2⟩
def XL {P : Program} (C : Ctx P) (ro : Option Nat) (N : Nat) (ops : Array Oper) (l : List Oper) (Q : Exit → XQ) (env : Env) (h : Heap) (s : Option Code) : Prop :=
 ∀ φ a w, C.L s φ h w → Marks C.B a.defers w → Rel P N φ env h a.tmps w → wpListIn (Fc ro) 0 P ops (fun ex a' w' => XPost C N φ h w (Q ex) a' w') l a w
section ops
variable {P : Program} {C : Ctx P} {ro : Option Nat} {N : Nat} {ops : Array Oper} {rest : List Oper} {Q : Exit → XQ} {env : Env} {h : Heap} {s : Option Code}
theorem XWp.region {id : Nat} (p : XL C ro N ops ops.toList Q env h s) : XWp C ro N (.region id ops false) Q env h s :=
 fun φ a w l d r => wpIn_region_list (p φ a w l d r)
theorem XL.nil (k : Q .normal env h s) : XL C ro N ops [] Q env h s := fun _ _ _ l d r => XPost.now k l d r
theorem XL.heap {l : List Oper} {h' : Heap} (e : h' = h) (p : XL C ro N ops l Q env h s) : XL C ro N ops l Q env h' s := e ▸ p
theorem XL.set {d : Tmp} {op : Op} {ty : TypeId} {pos : String} {aft : Array Edge} {g : Option (Nat × Bool)} (hd : Nat.blt d N = true) (hg : gv ops env ⟨some d, op, ty, pos, aft, g⟩ = some true) (hnd : deferB op = false)
  (p : AOp P ⟨some d, op, ty, pos, aft, g⟩ (ev P env) h fun v h' => XL C ro N ops rest Q ((d, v) :: env) h' s) : XL C ro N ops (⟨some d, op, ty, pos, aft, g⟩ :: rest) Q env h s := by
 intro φ a w l hdf r
 simp only [wpListIn, qbm r hg, if_true]
 refine qc7 (qd0 hnd) (p φ a w ⟨r.sim, fun x _ => r.ev x⟩ _ _ fun c w' φ' h' v k vr sm st => ?_)
 exact qbz (fun _ _ _ hp => hp.trans st.x) _ _ _ (k φ' _ w' (C.st r.sim l st) (by rw [qbb]; exact hdf.step r.sim st) ((r.step sm st).put (some d) (qbX hd) vr))
theorem XL.eff {op : Op} {ty : TypeId} {pos : String} {aft : Array Edge} {g : Option (Nat × Bool)} (hg : gv ops env ⟨none, op, ty, pos, aft, g⟩ = some true) (hnd : deferB op = false) (p : AOp P ⟨none, op, ty, pos, aft, g⟩ (ev P env) h fun _ h' => XL C ro N ops rest Q env h' s) :
  XL C ro N ops (⟨none, op, ty, pos, aft, g⟩ :: rest) Q env h s := by
 intro φ a w l hdf r
 simp only [wpListIn, qbm r hg, if_true]
 refine qc7 (qd0 hnd) (p φ a w ⟨r.sim, fun x _ => r.ev x⟩ _ _ fun c w' φ' h' v k vr sm st => ?_)
 exact qbz (fun _ _ _ hp => hp.trans st.x) _ _ _ (k φ' _ w' (C.st r.sim l st) (by rw [qbb]; exact hdf.step r.sim st) (r.step sm st))
theorem XL.skip {d : Option Tmp} {op : Op} {ty : TypeId} {pos : String} {aft : Array Edge} {g : Option (Nat × Bool)} (hd : dstB N d = true) (hg : gv ops env ⟨d, op, ty, pos, aft, g⟩ = some false)
  (p : XL C ro N ops rest Q (env.put d skipV) h s) : XL C ro N ops (⟨d, op, ty, pos, aft, g⟩ :: rest) Q env h s := by
 intro φ a w l hdf r
 simp only [wpListIn, qbm r hg, Bool.false_eq_true, if_false]
 exact ⟨fun _ _ => trivial, p φ _ w l (by rw [qbb]; exact hdf) (r.put d (qbX hd) .skip)⟩
end ops
end Go.Eng
