/-
  The engine, part A: an abstract heap, and what it says of a world. No program is in sight.
-/
import Derived.WalkKit
import Derived.WalkSpells
import Derived.WalkLawsBesides
namespace Go.Eng
open Go

/-- A row of cells as the engine knows it: its first cells; 'own': the call may write it. -/
structure Blk where
  cells : List Value
  elem : TypeId
  own : Bool

/-- An abstract heap: what is known of it, by number; from 'next' on there is nothing. -/
structure Heap where
  get : Nat → Option Blk
  next : Nat

def Heap.alloc (h : Heap) (b : Blk) : Heap := ⟨fun i => if i = h.next then some b else h.get i, h.next + 1⟩
def Heap.set (h : Heap) (i : Nat) (b : Blk) : Heap := ⟨fun j => if j = i then some b else h.get j, h.next⟩
def Heap.kill (h : Heap) (i : Nat) : Heap := ⟨fun j => if j = i then none else h.get j, h.next⟩

/-- Where an abstract block lies: its block, the place there, and how far a slice over it may go. -/
structure Pl where
  b : Nat
  o : Nat
  l : Nat
abbrev Ren := Nat → Pl

/-- An abstract value and the value that it stands for. -/
inductive VRel (φ : Ren) (n : Nat) : Value → Value → Prop
  | und (c : Value) : VRel φ n undef c
  | bool (b : Bool) : VRel φ n (.bool b) (.bool b)
  | int (k : IntKind) (a : Int) : VRel φ n (.int k a) (.int k a)
  | float (k : FloatKind) (a : Nat) : VRel φ n (.float k a) (.float k a)
  | complex (k : FloatKind) (a b : Nat) : VRel φ n (.complex k a b) (.complex k a b)
  | string (s : ByteArray) : VRel φ n (.string s) (.string s)
  | nilPtr : VRel φ n (.pointer none) (.pointer none)
  | ptr (i o : Nat) (hi : i < n) : VRel φ n (.pointer (some ⟨i, o, none⟩)) (.pointer (some ⟨(φ i).b, (φ i).o + o, none⟩))
  | nilSlice : VRel φ n (.slice none 0 0) (.slice none 0 0)
  | slice (i o len cap cap' : Nat) (s : Option Nat) (a' : Addr) (hi : i < n) (h1 : len ≤ cap) (h2 : len ≤ cap') (h3 : cap = len → cap' = len)
      (h4 : a' = ⟨(φ i).b, (φ i).o + o, none⟩ ∨ cap' = 0) (h5 : cap' ≤ maxLen) (h6 : ∀ t, s = some t → o + cap' * t ≤ (φ i).l) : VRel φ n (.slice (some ⟨i, o, s⟩) len cap) (.slice (some a') len cap')
  | func (fn : Fn) (f c f' c' : Array Value) (h1 : f.size = f'.size) (h2 : c.size = c'.size) (h3 : ∀ (k : Nat) x y, f[k]? = some x → f'[k]? = some y → VRel φ n x y)
      (h4 : ∀ (k : Nat) x y, c[k]? = some x → c'[k]? = some y → VRel φ n x y) : VRel φ n (.func fn f c) (.func fn f' c')
  | nilFunc : VRel φ n .nilFunc .nilFunc
  | iface (t : TypeId) (v v' : Value) (h : VRel φ n v v') : VRel φ n (.iface t v) (.iface t v')
  | nilIface : VRel φ n .nilIface .nilIface
  | agg (c c' : Array Value) (h1 : c.size = c'.size) (h2 : ∀ (k : Nat) x y, c[k]? = some x → c'[k]? = some y → VRel φ n x y) : VRel φ n (.agg c) (.agg c')
  | tuple (c c' : Array Value) (h1 : c.size = c'.size) (h2 : ∀ (k : Nat) x y, c[k]? = some x → c'[k]? = some y → VRel φ n x y) : VRel φ n (.tuple c) (.tuple c')
  | nilMap : VRel φ n (.map none) (.map none)
  | map (i : Nat) (hi : i < n) : VRel φ n (.map (some i)) (.map (some (φ i).b))

theorem VRel.mono {φ φ' : Ren} {n n' : Nat} (ha : ∀ i, i < n → φ' i = φ i) (hn : n ≤ n') {v c : Value} (h : VRel φ n v c) : VRel φ' n' v c := by
  induction h with
  | und c => exact .und c
  | bool b => exact .bool b
  | int k a => exact .int k a
  | float k a => exact .float k a
  | complex k a b => exact .complex k a b
  | string s => exact .string s
  | nilPtr => exact .nilPtr
  | ptr i o hi => rw [← ha i hi]; exact .ptr i o (by omega)
  | nilSlice => exact .nilSlice
  | slice i o len cap cap' s a' hi h1 h2 h3 h4 h5 h6 => exact .slice i o len cap cap' s a' (by omega) h1 h2 h3 (by rw [ha i hi]; exact h4) h5 (by rw [ha i hi]; exact h6)
  | func fn f c f' c' h1 h2 _ _ i3 i4 => exact .func fn f c f' c' h1 h2 (fun k x y hx hy => i3 k x y hx hy) (fun k x y hx hy => i4 k x y hx hy)
  | nilFunc => exact .nilFunc
  | iface t v v' _ ih => exact .iface t v v' ih
  | nilIface => exact .nilIface
  | agg c c' h1 _ ih => exact .agg c c' h1 ih
  | tuple c c' h1 _ ih => exact .tuple c c' h1 ih
  | nilMap => exact .nilMap
  | map i hi => rw [← ha i hi]; exact .map i (by omega)

/-- A value in which no number of a block stands. -/
def scalar : Value → Bool
  | .bool _ | .int _ _ | .float _ _ | .complex _ _ _ | .string _ | .pointer none | .slice none 0 0 | .map none | .nilFunc | .nilIface => true
  | .func _ f c => f.size == 0 && c.size == 0
  | .tuple c => c.size == 0
  | _ => false
/-- A value in which no number of a block stands: a row or a pair of such, too. -/
def plainV : Value → Bool
  | .agg c => c.all scalar
  | .tuple c => c.all scalar
  | .iface _ v => scalar v
  | v => scalar v

theorem size_zero_eq {α : Type} {a : Array α} (h : (a.size == 0) = true) : a = #[] := by
  simpa using h
theorem VRel.of_scalar {φ : Ren} {n : Nat} {v : Value} (h : scalar v = true) : VRel φ n v v := by
  unfold scalar at h
  split at h
  · exact .bool _
  · exact .int _ _
  · exact .float _ _
  · exact .complex _ _ _
  · exact .string _
  · exact .nilPtr
  · exact .nilSlice
  · exact .nilMap
  · exact .nilFunc
  · exact .nilIface
  · simp only [Bool.and_eq_true] at h
    have h1 := size_zero_eq h.1
    have h2 := size_zero_eq h.2
    subst h1 h2
    exact .func _ _ _ _ _ rfl rfl (by simp) (by simp)
  · have h1 := size_zero_eq h
    subst h1
    exact .und _
  · cases h
theorem VRel.of_plain {φ : Ren} {n : Nat} {v : Value} (h : plainV v = true) : VRel φ n v v := by
  unfold plainV at h
  split at h
  · rename_i c
    refine .agg _ _ rfl fun k x y hx hy => ?_
    rw [hx] at hy; cases hy
    exact .of_scalar (Array.all_eq_true_iff_forall_mem.1 h x (Array.mem_of_getElem? hx))
  · rename_i c
    refine .tuple _ _ rfl fun k x y hx hy => ?_
    rw [hx] at hy; cases hy
    exact .of_scalar (Array.all_eq_true_iff_forall_mem.1 h x (Array.mem_of_getElem? hx))
  · exact .iface _ _ _ (.of_scalar h)
  · exact .of_scalar h

section inversions
variable {φ : Ren} {n : Nat} {c : Value}
theorem undef_ne_agg : ∀ x, undef ≠ Value.agg x := by intro x h; cases h
theorem VRel.bool_inv {b : Bool} (h : VRel φ n (.bool b) c) : c = .bool b := by cases h; rfl
theorem VRel.int_inv {k : IntKind} {a : Int} (h : VRel φ n (.int k a) c) : c = .int k a := by cases h; rfl
theorem VRel.float_inv {k : FloatKind} {a : Nat} (h : VRel φ n (.float k a) c) : c = .float k a := by cases h; rfl
theorem VRel.complex_inv {k : FloatKind} {a b : Nat} (h : VRel φ n (.complex k a b) c) : c = .complex k a b := by cases h; rfl
theorem VRel.string_inv {s : ByteArray} (h : VRel φ n (.string s) c) : c = .string s := by cases h; rfl
theorem VRel.nilPtr_inv (h : VRel φ n (.pointer none) c) : c = .pointer none := by cases h; rfl
theorem VRel.ptr_inv {i o : Nat} {s : Option Nat} (h : VRel φ n (.pointer (some ⟨i, o, s⟩)) c) : s = none ∧ i < n ∧ c = .pointer (some ⟨(φ i).b, (φ i).o + o, none⟩) := by
  cases h with
  | ptr _ _ hi => exact ⟨rfl, hi, rfl⟩
theorem VRel.nilSlice_inv {k m : Nat} (h : VRel φ n (.slice none k m) c) : k = 0 ∧ m = 0 ∧ c = .slice none 0 0 := by cases h; exact ⟨rfl, rfl, rfl⟩
theorem VRel.slice_inv {i o len cap : Nat} {s : Option Nat} (h : VRel φ n (.slice (some ⟨i, o, s⟩) len cap) c) :
    ∃ cap' a', c = .slice (some a') len cap' ∧ i < n ∧ len ≤ cap ∧ len ≤ cap' ∧ (cap = len → cap' = len) ∧ (a' = ⟨(φ i).b, (φ i).o + o, none⟩ ∨ cap' = 0) ∧ cap' ≤ maxLen ∧ (∀ t, s = some t → o + cap' * t ≤ (φ i).l) := by
  cases h with
  | slice _ _ _ _ cap' _ a' hi h1 h2 h3 h4 h5 h6 => exact ⟨cap', a', rfl, hi, h1, h2, h3, h4, h5, h6⟩
theorem VRel.func_inv {fn : Fn} {f d : Array Value} (h : VRel φ n (.func fn f d) c) :
    ∃ f' d', c = .func fn f' d' ∧ f.size = f'.size ∧ d.size = d'.size ∧ (∀ (k : Nat) x y, f[k]? = some x → f'[k]? = some y → VRel φ n x y) ∧ (∀ (k : Nat) x y, d[k]? = some x → d'[k]? = some y → VRel φ n x y) := by
  cases h with
  | func _ _ _ f' c' h1 h2 h3 h4 => exact ⟨f', c', rfl, h1, h2, h3, h4⟩
theorem VRel.nilFunc_inv (h : VRel φ n .nilFunc c) : c = .nilFunc := by cases h; rfl
theorem VRel.iface_inv {t : TypeId} {v : Value} (h : VRel φ n (.iface t v) c) : ∃ v', c = .iface t v' ∧ VRel φ n v v' := by
  cases h with
  | iface _ _ v' h => exact ⟨v', rfl, h⟩
theorem VRel.nilIface_inv (h : VRel φ n .nilIface c) : c = .nilIface := by cases h; rfl
theorem VRel.agg_inv {v : Array Value} (h : VRel φ n (.agg v) c) : ∃ v', c = .agg v' ∧ v.size = v'.size ∧ ∀ (k : Nat) x y, v[k]? = some x → v'[k]? = some y → VRel φ n x y := by
  cases h with
  | agg _ c' h1 h2 => exact ⟨c', rfl, h1, h2⟩
theorem VRel.tuple_inv {v : Array Value} (h : VRel φ n (.tuple v) c) (h0 : v.size ≠ 0) : ∃ v', c = .tuple v' ∧ v.size = v'.size ∧ ∀ (k : Nat) x y, v[k]? = some x → v'[k]? = some y → VRel φ n x y := by
  generalize hv : Value.tuple v = u at h
  cases h with
  | und => simp only [undef, Value.tuple.injEq] at hv; subst hv; simp at h0
  | tuple c c' h1 h2 => cases hv; exact ⟨c', rfl, h1, h2⟩
  | _ => cases hv
theorem VRel.nilMap_inv (h : VRel φ n (.map none) c) : c = .map none := by cases h; rfl
theorem VRel.map_inv {i : Nat} (h : VRel φ n (.map (some i)) c) : i < n ∧ c = .map (some (φ i).b) := by
  cases h with
  | map _ hi => exact ⟨hi, rfl⟩
end inversions

/-- What an abstract block says of a world. -/
def BRel (φ : Ren) (n : Nat) (i : Nat) (b : Blk) (w : World) : Prop :=
  if b.own = true then
    ∃ arr fr, w.heap[(φ i).b]? = some (.cells arr b.elem fr) ∧ ((φ i).o = 0 ∧ (φ i).l ≤ arr.size) ∧ (fr.1 = fr.2 ∨ arr.size ≤ fr.1) ∧ b.cells.length ≤ arr.size ∧
      ∀ (k : Nat) v, b.cells[k]? = some v → ∃ c, arr[k]? = some c ∧ VRel φ n v c
  else ∀ (k : Nat) v, b.cells[k]? = some v → ∃ c, w.cell? ⟨(φ i).b, (φ i).o + k, none⟩ = some c ∧ VRel φ n v c

def Owned (φ : Ren) (h : Heap) (k : Nat) : Prop := ∃ i b, h.get i = some b ∧ b.own = true ∧ (φ i).b = k

structure Sim (P : Program) (φ : Ren) (h : Heap) (w : World) : Prop where
  next : ∀ i, h.next ≤ i → h.get i = none
  blk : ∀ i b, h.get i = some b → BRel φ h.next i b w
  low : ∀ i b, h.get i = some b → (φ i).b < w.heap.size
  apart : ∀ i j b, h.get i = some b → b.own = true → h.get j ≠ none → (φ j).b = (φ i).b → j = i
  glob : ∀ g, g < P.globals.size → ((φ g).b = g ∧ (φ g).o = 0) ∧ g < h.next

/-- One step of the world, and of what is known of it. -/
structure Step (φ : Ren) (h : Heap) (w : World) (φ' : Ren) (h' : Heap) (w' : World) : Prop where
  next : h.next ≤ h'.next
  agree : ∀ i, i < h.next → φ' i = φ i
  os : w'.os = w.os
  tape : w'.tape = w.tape
  output : w'.output = w.output
  size : w.heap.size ≤ w'.heap.size
  frame : ∀ k, k < w.heap.size → ¬ Owned φ h k → w'.heap[k]? = w.heap[k]?
  own : ∀ k, Owned φ' h' k → Owned φ h k ∨ w.heap.size ≤ k

theorem Step.refl (φ : Ren) (h : Heap) (w : World) : Step φ h w φ h w :=
  ⟨Nat.le_refl _, fun _ _ => rfl, rfl, rfl, rfl, Nat.le_refl _, fun _ _ _ => rfl, fun _ hk => .inl hk⟩
theorem Step.trans {φ1 φ2 φ3 : Ren} {h1 h2 h3 : Heap} {w1 w2 w3 : World} (a : Step φ1 h1 w1 φ2 h2 w2) (b : Step φ2 h2 w2 φ3 h3 w3) : Step φ1 h1 w1 φ3 h3 w3 where
  next := Nat.le_trans a.next b.next
  agree i hi := (b.agree i (Nat.lt_of_lt_of_le hi a.next)).trans (a.agree i hi)
  os := b.os.trans a.os
  tape := b.tape.trans a.tape
  output := b.output.trans a.output
  size := Nat.le_trans a.size b.size
  frame k hk ho := by
    rw [b.frame k (Nat.lt_of_lt_of_le hk a.size) (fun h => (a.own k h).elim ho (fun h' => by omega)), a.frame k hk ho]
  own k hk := (b.own k hk).elim (fun h => a.own k h) (fun h => .inr (Nat.le_trans a.size h))
theorem Step.mono {φ φ' : Ren} {h h' : Heap} {w w' : World} (s : Step φ h w φ' h' w') {v c : Value} (r : VRel φ h.next v c) : VRel φ' h'.next v c :=
  r.mono s.agree s.next

theorem Step.drew {φ : Ren} {h : Heap} {w : World} : Step φ h w φ h w.drew :=
  ⟨Nat.le_refl _, fun _ _ => rfl, rfl, rfl, rfl, Nat.le_refl _, fun _ _ _ => rfl, fun _ hk => .inl hk⟩
theorem Sim.drew {P : Program} {φ : Ren} {h : Heap} {w : World} (s : Sim P φ h w) : Sim P φ h w.drew := ⟨s.next, s.blk, s.low, s.apart, s.glob⟩

theorem Sim.lt {P : Program} {φ : Ren} {h : Heap} {w : World} (s : Sim P φ h w) {i : Nat} {b : Blk} (hi : h.get i = some b) : i < h.next := by
  rcases Nat.lt_or_ge i h.next with h1 | h1
  · exact h1
  · rw [s.next i h1] at hi; cases hi

/-- Forgetting: a heap that says less. -/
theorem Sim.forget {P : Program} {φ : Ren} {h h' : Heap} {w : World} (s : Sim P φ h w) (hn : h'.next = h.next) (hg : ∀ i b, h'.get i = some b → h.get i = some b) : Sim P φ h' w where
  next i hi := by
    cases hx : h'.get i with
    | none => rfl
    | some b => have := hg i b hx; rw [s.next i (by omega)] at this; cases this
  blk i b hi := by rw [hn]; exact s.blk i b (hg i b hi)
  low i b hi := s.low i b (hg i b hi)
  apart i j b hi ho hj he := by
    cases hx : h'.get j with
    | none => exact absurd hx hj
    | some c => exact s.apart i j b (hg i b hi) ho (by rw [hg j c hx]; simp) he
  glob g hg' := by rw [hn]; exact s.glob g hg'
theorem Owned.forget {φ : Ren} {h h' : Heap} (hg : ∀ i b, h'.get i = some b → h.get i = some b) {k : Nat} (o : Owned φ h' k) : Owned φ h k := by
  obtain ⟨i, b, h1, h2, h3⟩ := o
  exact ⟨i, b, hg i b h1, h2, h3⟩

/-- A block of the engine's own, and what lies in the world. -/
theorem Sim.owned {P : Program} {φ : Ren} {h : Heap} {w : World} (s : Sim P φ h w) {i : Nat} {b : Blk} (hi : h.get i = some b) (ho : b.own = true) :
    ∃ arr fr, w.heap[(φ i).b]? = some (.cells arr b.elem fr) ∧ ((φ i).o = 0 ∧ (φ i).l ≤ arr.size) ∧ (fr.1 = fr.2 ∨ arr.size ≤ fr.1) ∧ b.cells.length ≤ arr.size ∧
      ∀ (k : Nat) v, b.cells[k]? = some v → ∃ c, arr[k]? = some c ∧ VRel φ h.next v c := by
  have := s.blk i b hi
  simpa [BRel, ho] using this
/-- A cell of a known block, read. -/
theorem Sim.cell {P : Program} {φ : Ren} {h : Heap} {w : World} (s : Sim P φ h w) {i : Nat} {b : Blk} (hi : h.get i = some b) {k : Nat} {v : Value} (hk : b.cells[k]? = some v) :
    ∃ c, w.cell? ⟨(φ i).b, (φ i).o + k, none⟩ = some c ∧ VRel φ h.next v c := by
  by_cases ho : b.own = true
  · obtain ⟨arr, fr, h1, h2, _, _, h5⟩ := s.owned hi ho
    obtain ⟨c, hc, hr⟩ := h5 k v hk
    exact ⟨c, by simp [World.cell?, h1, h2.1, hc], hr⟩
  · have := s.blk i b hi
    simp only [BRel, ho, if_false, Bool.false_eq_true] at this
    exact this k v hk

end Go.Eng
