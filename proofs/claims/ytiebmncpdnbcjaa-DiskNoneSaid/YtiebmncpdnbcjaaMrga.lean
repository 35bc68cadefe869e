/-
  Texts of one claim, merged: 9 parts.
-/
import Derived.WalkKit
import Derived.WalkSpells
import Derived.WalkLawsBesides
import Derived.Laws.IdiomStrings
/-
  The engine, part A: an abstract heap, and what it says of a world. No program is in sight.
-/
namespace Go.Eng
open Go

/-- A row of cells avs the engine knows it: its first cells; 'own': the call may write it. -/
structure Blk where
  cells : List Value
  elem : TypeId
  own : Bool

/-- An entry of a map; what is no row of cells: a map, a walk over a map, over a string. -/
structure AEnt where
  key : Value
  val : Value
  born : Nat
inductive AObj where
  | map (es : List AEnt) (clock : Nat)
  | mapIter (m : Option Nat) (since : Nat) (seen : List Nat) (stepped : Nat)
  | strIter (s : ByteArray) (pos : Nat)
/-- An abstract heap: what is known of it, by number; from 'next' on there is nothing. -/
structure Heap where
  get : Nat → Option Blk
  next : Nat
  obj : Nat → Option AObj

def Heap.alloc (h : Heap) (b : Blk) : Heap := ⟨fun i => if i = h.next then some b else h.get i, h.next + 1, h.obj⟩
def Heap.set (h : Heap) (i : Nat) (b : Blk) : Heap := ⟨fun j => if j = i then some b else h.get j, h.next, h.obj⟩
def Heap.kill (h : Heap) (i : Nat) : Heap := ⟨fun j => if j = i then none else h.get j, h.next, h.obj⟩
def Heap.allocO (h : Heap) (o : AObj) : Heap := ⟨h.get, h.next + 1, fun i => if i = h.next then some o else h.obj i⟩
def Heap.setO (h : Heap) (i : Nat) (o : AObj) : Heap := ⟨h.get, h.next, fun j => if j = i then some o else h.obj j⟩
/-- A heap that says all that another one says. -/
structure Ext (h h' : Heap) : Prop where
  c : ∀ i b, h.get i = some b → h'.get i = some b
  o : ∀ i b, h.obj i = some b → h'.obj i = some b
instance (h h' : Heap) : CoeFun (Ext h h') (fun _ => ∀ i b, h.get i = some b → h'.get i = some b) := ⟨Ext.c⟩
/-- From 'next' on there is nothing. -/
structure WF (h : Heap) : Prop where
  c : ∀ i, h.next ≤ i → h.get i = none
  o : ∀ i, h.next ≤ i → h.obj i = none
instance (h : Heap) : CoeFun (WF h) (fun _ => ∀ i, h.next ≤ i → h.get i = none) := ⟨WF.c⟩
/-- The slot of an operation that was not asked for. -/
def skipV : Value := .chan none

/-- Where an abstract block lies: its block, the place there, and how far a slice over it may go. -/
structure Pl where
  b : Nat
  o : Nat
  l : Nat
abbrev Ren := Nat → Pl

/-- An abstract value and the value that it stands for. -/
inductive VRel (φ : Ren) (n : Nat) : Value → Value → Prop
  | und (c : Value) : VRel φ n undef c
  | skip : VRel φ n (.chan none) undef
  | bool (b : Bool) : VRel φ n (.bool b) (.bool b)
  | int (k : IntKind) (a : Int) : VRel φ n (.int k a) (.int k a)
  | float (k : FloatKind) (a : Nat) : VRel φ n (.float k a) (.float k a)
  | complex (k : FloatKind) (a b : Nat) : VRel φ n (.complex k a b) (.complex k a b)
  | string (s : ByteArray) : VRel φ n (.string s) (.string s)
  | nilPtr : VRel φ n (.pointer none) (.pointer none)
  | ptr (i o : Nat) (hi : i < n) : VRel φ n (.pointer (some ⟨i, o, none⟩)) (.pointer (some ⟨(φ i).b, (φ i).o + o, none⟩))
  | nilSlice : VRel φ n (.slice none 0 0) (.slice none 0 0)
  | slice (i o len cap cap' : Nat) (s : Option Nat) (a' : Addr) (hi : i < n) (h1 : len ≤ cap) (h2 : len ≤ cap') (h3 : (cap = len → cap' = len) ∧ (18446744073709551616 ≤ cap → cap' + 18446744073709551616 = cap))
      (h4 : a' = ⟨(φ i).b, (φ i).o + o, none⟩ ∨ cap' = 0) (h5 : cap' ≤ maxLen) (h6 : ∀ t, s = some t → o + cap' * t ≤ (φ i).l) : VRel φ n (.slice (some ⟨i, o, s⟩) len cap) (.slice (some a') len cap')
  | func (fn : Fn) (f c f' c' : Array Value) (h1 : f.size = f'.size) (h2 : c.size = c'.size) (h3 : ∀ (k : Nat) x y, f[k]? = some x → f'[k]? = some y → VRel φ n x y)
      (h4 : ∀ (k : Nat) x y, c[k]? = some x → c'[k]? = some y → VRel φ n x y) : VRel φ n (.func fn f c) (.func fn f' c')
  | nilFunc : VRel φ n .nilFunc .nilFunc
  | iface (t : TypeId) (v v' : Value) (h : VRel φ n v v') : VRel φ n (.iface t v) (.iface t v')
  | nilIface : VRel φ n .nilIface .nilIface
  | agg (c c' : Array Value) (h1 : c.size = c'.size) (h2 : ∀ (k : Nat) x y, c[k]? = some x → c'[k]? = some y → VRel φ n x y) : VRel φ n (.agg c) (.agg c')
  | tuple (c c' : Array Value) (h1 : c.size = c'.size) (h2 : ∀ (k : Nat) x y, c[k]? = some x → c'[k]? = some y → VRel φ n x y) : VRel φ n (.tuple c) (.tuple c')
  | nilMap : VRel φ n (.map none) (.map none)
  | map (i : Nat) (hi : i < n) : VRel φ n (.map (some i)) (.map (some (φ i).b))

theorem VRel.mono {φ φ' : Ren} {n n' : Nat} (ha : ∀ i, i < n → φ' i = φ i) (hn : n ≤ n') {v c : Value} (h : VRel φ n v c) : VRel φ' n' v c := by
  induction h with
  | und c => exact .und c
  | skip => exact .skip
  | bool b => exact .bool b
  | int k a => exact .int k a
  | float k a => exact .float k a
  | complex k a b => exact .complex k a b
  | string s => exact .string s
  | nilPtr => exact .nilPtr
  | ptr i o hi => rw [← ha i hi]; exact .ptr i o (by omega)
  | nilSlice => exact .nilSlice
  | slice i o len cap cap' s a' hi h1 h2 h3 h4 h5 h6 => exact .slice i o len cap cap' s a' (by omega) h1 h2 h3 (by rw [ha i hi]; exact h4) h5 (by rw [ha i hi]; exact h6)
  | func fn f c f' c' h1 h2 _ _ i3 i4 => exact .func fn f c f' c' h1 h2 (fun k x y hx hy => i3 k x y hx hy) (fun k x y hx hy => i4 k x y hx hy)
  | nilFunc => exact .nilFunc
  | iface t v v' _ ih => exact .iface t v v' ih
  | nilIface => exact .nilIface
  | agg c c' h1 _ ih => exact .agg c c' h1 ih
  | tuple c c' h1 _ ih => exact .tuple c c' h1 ih
  | nilMap => exact .nilMap
  | map i hi => rw [← ha i hi]; exact .map i (by omega)

/-- A value in which no number of a block stands. -/
def scalar : Value → Bool
  | .bool _ | .int _ _ | .float _ _ | .complex _ _ _ | .string _ | .pointer none | .slice none 0 0 | .map none | .nilFunc | .nilIface => true
  | .func _ f c => f.size == 0 && c.size == 0
  | .tuple c => c.size == 0
  | _ => false
/-- A value in which no number of a block stands: a row or a pair of such, too. -/
def plainV : Value → Bool
  | .agg c => c.all scalar
  | .tuple c => c.all scalar
  | .iface _ v => scalar v
  | v => scalar v

theorem size_zero_eq {α : Type} {a : Array α} (h : (a.size == 0) = true) : a = #[] := by
  simpa using h
theorem VRel.of_scalar {φ : Ren} {n : Nat} {v : Value} (h : scalar v = true) : VRel φ n v v := by
  unfold scalar at h
  split at h
  · exact .bool _
  · exact .int _ _
  · exact .float _ _
  · exact .complex _ _ _
  · exact .string _
  · exact .nilPtr
  · exact .nilSlice
  · exact .nilMap
  · exact .nilFunc
  · exact .nilIface
  · simp only [Bool.and_eq_true] at h
    have h1 := size_zero_eq h.1
    have h2 := size_zero_eq h.2
    subst h1 h2
    exact .func _ _ _ _ _ rfl rfl (by simp) (by simp)
  · have h1 := size_zero_eq h
    subst h1
    exact .und _
  · cases h
theorem VRel.of_plain {φ : Ren} {n : Nat} {v : Value} (h : plainV v = true) : VRel φ n v v := by
  unfold plainV at h
  split at h
  · rename_i c
    refine .agg _ _ rfl fun k x y hx hy => ?_
    rw [hx] at hy; cases hy
    exact .of_scalar (Array.all_eq_true_iff_forall_mem.1 h x (Array.mem_of_getElem? hx))
  · rename_i c
    refine .tuple _ _ rfl fun k x y hx hy => ?_
    rw [hx] at hy; cases hy
    exact .of_scalar (Array.all_eq_true_iff_forall_mem.1 h x (Array.mem_of_getElem? hx))
  · exact .iface _ _ _ (.of_scalar h)
  · exact .of_scalar h

section inversions
variable {φ : Ren} {n : Nat} {c : Value}
theorem undef_ne_agg : ∀ x, undef ≠ Value.agg x := by intro x h; cases h
theorem VRel.bool_inv {b : Bool} (h : VRel φ n (.bool b) c) : c = .bool b := by cases h; rfl
theorem VRel.int_inv {k : IntKind} {a : Int} (h : VRel φ n (.int k a) c) : c = .int k a := by cases h; rfl
theorem VRel.float_inv {k : FloatKind} {a : Nat} (h : VRel φ n (.float k a) c) : c = .float k a := by cases h; rfl
theorem VRel.complex_inv {k : FloatKind} {a b : Nat} (h : VRel φ n (.complex k a b) c) : c = .complex k a b := by cases h; rfl
theorem VRel.string_inv {s : ByteArray} (h : VRel φ n (.string s) c) : c = .string s := by cases h; rfl
theorem VRel.nilPtr_inv (h : VRel φ n (.pointer none) c) : c = .pointer none := by cases h; rfl
theorem VRel.ptr_inv {i o : Nat} {s : Option Nat} (h : VRel φ n (.pointer (some ⟨i, o, s⟩)) c) : s = none ∧ i < n ∧ c = .pointer (some ⟨(φ i).b, (φ i).o + o, none⟩) := by
  cases h with
  | ptr _ _ hi => exact ⟨rfl, hi, rfl⟩
theorem VRel.nilSlice_inv {k m : Nat} (h : VRel φ n (.slice none k m) c) : k = 0 ∧ m = 0 ∧ c = .slice none 0 0 := by cases h; exact ⟨rfl, rfl, rfl⟩
theorem VRel.slice_inv {i o len cap : Nat} {s : Option Nat} (h : VRel φ n (.slice (some ⟨i, o, s⟩) len cap) c) :
    ∃ cap' a', c = .slice (some a') len cap' ∧ i < n ∧ len ≤ cap ∧ len ≤ cap' ∧ ((cap = len → cap' = len) ∧ (18446744073709551616 ≤ cap → cap' + 18446744073709551616 = cap)) ∧ (a' = ⟨(φ i).b, (φ i).o + o, none⟩ ∨ cap' = 0) ∧ cap' ≤ maxLen ∧ (∀ t, s = some t → o + cap' * t ≤ (φ i).l) := by
  cases h with
  | slice _ _ _ _ cap' _ a' hi h1 h2 h3 h4 h5 h6 => exact ⟨cap', a', rfl, hi, h1, h2, h3, h4, h5, h6⟩
theorem VRel.func_inv {fn : Fn} {f d : Array Value} (h : VRel φ n (.func fn f d) c) :
    ∃ f' d', c = .func fn f' d' ∧ f.size = f'.size ∧ d.size = d'.size ∧ (∀ (k : Nat) x y, f[k]? = some x → f'[k]? = some y → VRel φ n x y) ∧ (∀ (k : Nat) x y, d[k]? = some x → d'[k]? = some y → VRel φ n x y) := by
  cases h with
  | func _ _ _ f' c' h1 h2 h3 h4 => exact ⟨f', c', rfl, h1, h2, h3, h4⟩
theorem VRel.nilFunc_inv (h : VRel φ n .nilFunc c) : c = .nilFunc := by cases h; rfl
theorem VRel.iface_inv {t : TypeId} {v : Value} (h : VRel φ n (.iface t v) c) : ∃ v', c = .iface t v' ∧ VRel φ n v v' := by
  cases h with
  | iface _ _ v' h => exact ⟨v', rfl, h⟩
theorem VRel.nilIface_inv (h : VRel φ n .nilIface c) : c = .nilIface := by cases h; rfl
theorem VRel.agg_inv {v : Array Value} (h : VRel φ n (.agg v) c) : ∃ v', c = .agg v' ∧ v.size = v'.size ∧ ∀ (k : Nat) x y, v[k]? = some x → v'[k]? = some y → VRel φ n x y := by
  cases h with
  | agg _ c' h1 h2 => exact ⟨c', rfl, h1, h2⟩
theorem VRel.tuple_inv {v : Array Value} (h : VRel φ n (.tuple v) c) (h0 : v.size ≠ 0) : ∃ v', c = .tuple v' ∧ v.size = v'.size ∧ ∀ (k : Nat) x y, v[k]? = some x → v'[k]? = some y → VRel φ n x y := by
  generalize hv : Value.tuple v = u at h
  cases h with
  | und => simp only [undef, Value.tuple.injEq] at hv; subst hv; simp at h0
  | tuple c c' h1 h2 => cases hv; exact ⟨c', rfl, h1, h2⟩
  | _ => cases hv
theorem VRel.skip_inv (h : VRel φ n (.chan none) c) : c = undef := by cases h; rfl
theorem VRel.nilMap_inv (h : VRel φ n (.map none) c) : c = .map none := by cases h; rfl
theorem VRel.map_inv {i : Nat} (h : VRel φ n (.map (some i)) c) : i < n ∧ c = .map (some (φ i).b) := by
  cases h with
  | map _ hi => exact ⟨hi, rfl⟩
end inversions

/-- Bytes. -/
def ByteT (P : Program) (e : TypeId) : Prop := P.underlying e = some (.int .u8)
/-- What an abstract block says of a world. -/
def BRel (P : Program) (φ : Ren) (n : Nat) (i : Nat) (b : Blk) (w : World) : Prop :=
  if b.own = true then
    ∃ arr fr, w.heap[(φ i).b]? = some (.cells arr b.elem fr) ∧ ((φ i).o = 0 ∧ (φ i).l ≤ arr.size) ∧ (fr.1 = fr.2 ∨ (arr.size ≤ fr.1 ∧ ByteT P b.elem)) ∧ b.cells.length ≤ arr.size ∧
      ∀ (k : Nat) v, b.cells[k]? = some v → ∃ c, arr[k]? = some c ∧ VRel φ n v c
  else ∀ (k : Nat) v, b.cells[k]? = some v → ∃ c, w.cell? ⟨(φ i).b, (φ i).o + k, none⟩ = some c ∧ VRel φ n v c

/-- What an abstract entry, an abstract object says. -/
def ERel (φ : Ren) (n : Nat) (e : AEnt) (c : MapEntry) : Prop := VRel φ n e.key c.key ∧ VRel φ n e.val c.val ∧ c.born = e.born
def ORel (φ : Ren) (n : Nat) (i : Nat) (o : AObj) (w : World) : Prop :=
  match o with
  | .map es clock => ∃ cs, w.heap[(φ i).b]? = some (.map cs clock) ∧ es.length = cs.size ∧ ∀ (k : Nat) e c, es[k]? = some e → cs[k]? = some c → ERel φ n e c
  | .mapIter m since seen stepped => w.heap[(φ i).b]? = some (.mapIter (m.map fun j => (φ j).b) since seen.toArray stepped) ∧ (φ i).o = 0 ∧ ∀ j, m = some j → j < n
  | .strIter s pos => w.heap[(φ i).b]? = some (.stringIter s pos) ∧ (φ i).o = 0
/-- Objects that an abstract heap may tell of. -/
def keptB : Obj → Bool
  | .cells _ _ _ => true
  | .map _ _ => true
  | .mapIter _ _ _ _ => true
  | .stringIter _ _ => true
  | _ => false
theorem ORel.obj {φ : Ren} {n i : Nat} {o : AObj} {w : World} (r : ORel φ n i o w) : ∃ x, w.heap[(φ i).b]? = some x ∧ keptB x = true ∧ ∀ arr e f, x ≠ .cells arr e f := by
  cases o with
  | map es clock => obtain ⟨cs, h1, _⟩ := r; exact ⟨_, h1, rfl, fun _ _ _ => by simp⟩
  | mapIter m since seen stepped => exact ⟨_, r.1, rfl, fun _ _ _ => by simp⟩
  | strIter s pos => exact ⟨_, r.1, rfl, fun _ _ _ => by simp⟩
theorem ORel.world {φ φ' : Ren} {n n' i : Nat} {o : AObj} {w w' : World} (r : ORel φ n i o w) (ha : ∀ i, i < n → φ' i = φ i) (hi : i < n) (hn : n ≤ n') (hb : w'.heap[(φ i).b]? = w.heap[(φ i).b]?) : ORel φ' n' i o w' := by
  cases o with
  | map es clock =>
    obtain ⟨cs, h1, h2, h3⟩ := r
    refine ⟨cs, by rw [ha i hi, hb, h1], h2, fun k e c he hc => ?_⟩
    obtain ⟨q1, q2, q3⟩ := h3 k e c he hc
    exact ⟨q1.mono ha hn, q2.mono ha hn, q3⟩
  | mapIter m since seen stepped =>
    obtain ⟨h1, h2, h3⟩ := r
    refine ⟨?_, by rw [ha i hi]; exact h2, fun j hj => by have := h3 j hj; omega⟩
    rw [ha i hi, hb, h1]
    cases m with
    | none => rfl
    | some j => simp only [Option.map_some]; rw [ha j (h3 j rfl)]
  | strIter s pos => exact ⟨by rw [ha i hi, hb, r.1], by rw [ha i hi]; exact r.2⟩

def Owned (φ : Ren) (h : Heap) (k : Nat) : Prop := (∃ i b, h.get i = some b ∧ b.own = true ∧ (φ i).b = k) ∨ ∃ i o, h.obj i = some o ∧ (φ i).b = k

structure Sim (P : Program) (φ : Ren) (h : Heap) (w : World) : Prop where
  next : WF h
  blk : ∀ i b, h.get i = some b → BRel P φ h.next i b w
  low : ∀ i b, h.get i = some b → (φ i).b < w.heap.size
  apart : ∀ i j b, h.get i = some b → b.own = true → h.get j ≠ none → (φ j).b = (φ i).b → j = i
  glob : ∀ g, g < P.globals.size → ((φ g).b = g ∧ (φ g).o = 0) ∧ g < h.next
  objs : ∀ i o, h.obj i = some o → ORel φ h.next i o w
  apartO : ∀ i j o, h.obj i = some o → h.obj j ≠ none → (φ j).b = (φ i).b → j = i

/-- One step of the world, and of what is known of it. -/
structure Step (φ : Ren) (h : Heap) (w : World) (φ' : Ren) (h' : Heap) (w' : World) : Prop where
  next : h.next ≤ h'.next
  agree : ∀ i, i < h.next → φ' i = φ i
  os : w'.os = w.os
  tape : w'.tape = w.tape
  output : w'.output = w.output
  size : w.heap.size ≤ w'.heap.size
  frame : ∀ k, k < w.heap.size → ¬ Owned φ h k → w'.heap[k]? = w.heap[k]?
  own : ∀ k, Owned φ' h' k → Owned φ h k ∨ w.heap.size ≤ k

theorem Step.refl (φ : Ren) (h : Heap) (w : World) : Step φ h w φ h w :=
  ⟨Nat.le_refl _, fun _ _ => rfl, rfl, rfl, rfl, Nat.le_refl _, fun _ _ _ => rfl, fun _ hk => .inl hk⟩
theorem Step.trans {φ1 φ2 φ3 : Ren} {h1 h2 h3 : Heap} {w1 w2 w3 : World} (a : Step φ1 h1 w1 φ2 h2 w2) (b : Step φ2 h2 w2 φ3 h3 w3) : Step φ1 h1 w1 φ3 h3 w3 where
  next := Nat.le_trans a.next b.next
  agree i hi := (b.agree i (Nat.lt_of_lt_of_le hi a.next)).trans (a.agree i hi)
  os := b.os.trans a.os
  tape := b.tape.trans a.tape
  output := b.output.trans a.output
  size := Nat.le_trans a.size b.size
  frame k hk ho := by
    rw [b.frame k (Nat.lt_of_lt_of_le hk a.size) (fun h => (a.own k h).elim ho (fun h' => by omega)), a.frame k hk ho]
  own k hk := (b.own k hk).elim (fun h => a.own k h) (fun h => .inr (Nat.le_trans a.size h))
theorem Step.mono {φ φ' : Ren} {h h' : Heap} {w w' : World} (s : Step φ h w φ' h' w') {v c : Value} (r : VRel φ h.next v c) : VRel φ' h'.next v c :=
  r.mono s.agree s.next

theorem Step.drew {φ : Ren} {h : Heap} {w : World} : Step φ h w φ h w.drew :=
  ⟨Nat.le_refl _, fun _ _ => rfl, rfl, rfl, rfl, Nat.le_refl _, fun _ _ _ => rfl, fun _ hk => .inl hk⟩
theorem Sim.drew {P : Program} {φ : Ren} {h : Heap} {w : World} (s : Sim P φ h w) : Sim P φ h w.drew := ⟨s.next, s.blk, s.low, s.apart, s.glob, s.objs, s.apartO⟩

theorem Sim.lt {P : Program} {φ : Ren} {h : Heap} {w : World} (s : Sim P φ h w) {i : Nat} {b : Blk} (hi : h.get i = some b) : i < h.next := by
  rcases Nat.lt_or_ge i h.next with h1 | h1
  · exact h1
  · rw [s.next.c i h1] at hi; cases hi

theorem Sim.ltO {P : Program} {φ : Ren} {h : Heap} {w : World} (s : Sim P φ h w) {i : Nat} {o : AObj} (hi : h.obj i = some o) : i < h.next := by
  rcases Nat.lt_or_ge i h.next with h1 | h1
  · exact h1
  · rw [s.next.o i h1] at hi; cases hi
theorem Sim.lowO {P : Program} {φ : Ren} {h : Heap} {w : World} (s : Sim P φ h w) {i : Nat} {o : AObj} (hi : h.obj i = some o) : (φ i).b < w.heap.size := by
  obtain ⟨x, h1, _⟩ := (s.objs i o hi).obj
  exact (Array.getElem?_eq_some_iff.1 h1).1
/-- Forgetting: a heap that says less. -/
theorem Sim.forget {P : Program} {φ : Ren} {h h' : Heap} {w : World} (s : Sim P φ h w) (hn : h'.next = h.next) (hg : Ext h' h) : Sim P φ h' w where
  next := by
    refine ⟨fun i hi => ?_, fun i hi => ?_⟩
    · cases hx : h'.get i with
      | none => rfl
      | some b => have := hg.c i b hx; rw [s.next.c i (by omega)] at this; cases this
    · cases hx : h'.obj i with
      | none => rfl
      | some b => have := hg.o i b hx; rw [s.next.o i (by omega)] at this; cases this
  blk i b hi := by rw [hn]; exact s.blk i b (hg.c i b hi)
  low i b hi := s.low i b (hg.c i b hi)
  apart i j b hi ho hj he := by
    cases hx : h'.get j with
    | none => exact absurd hx hj
    | some c => exact s.apart i j b (hg.c i b hi) ho (by rw [hg.c j c hx]; simp) he
  glob g hg' := by rw [hn]; exact s.glob g hg'
  objs i o hi := by rw [hn]; exact s.objs i o (hg.o i o hi)
  apartO i j o hi hj he := by
    cases hx : h'.obj j with
    | none => exact absurd hx hj
    | some c => exact s.apartO i j o (hg.o i o hi) (by rw [hg.o j c hx]; simp) he
theorem Owned.forget {φ : Ren} {h h' : Heap} (hg : Ext h' h) {k : Nat} (o : Owned φ h' k) : Owned φ h k := by
  rcases o with ⟨i, b, h1, h2, h3⟩ | ⟨i, x, h1, h2⟩
  · exact .inl ⟨i, b, hg.c i b h1, h2, h3⟩
  · exact .inr ⟨i, x, hg.o i x h1, h2⟩

/-- A block of the engine's own, and what lies in the world. -/
theorem Sim.owned {P : Program} {φ : Ren} {h : Heap} {w : World} (s : Sim P φ h w) {i : Nat} {b : Blk} (hi : h.get i = some b) (ho : b.own = true) :
    ∃ arr fr, w.heap[(φ i).b]? = some (.cells arr b.elem fr) ∧ ((φ i).o = 0 ∧ (φ i).l ≤ arr.size) ∧ (fr.1 = fr.2 ∨ (arr.size ≤ fr.1 ∧ ByteT P b.elem)) ∧ b.cells.length ≤ arr.size ∧
      ∀ (k : Nat) v, b.cells[k]? = some v → ∃ c, arr[k]? = some c ∧ VRel φ h.next v c := by
  have := s.blk i b hi
  simpa [BRel, ho] using this
/-- A cell of a known block, read. -/
theorem Sim.cell {P : Program} {φ : Ren} {h : Heap} {w : World} (s : Sim P φ h w) {i : Nat} {b : Blk} (hi : h.get i = some b) {k : Nat} {v : Value} (hk : b.cells[k]? = some v) :
    ∃ c, w.cell? ⟨(φ i).b, (φ i).o + k, none⟩ = some c ∧ VRel φ h.next v c := by
  by_cases ho : b.own = true
  · obtain ⟨arr, fr, h1, h2, _, _, h5⟩ := s.owned hi ho
    obtain ⟨c, hc, hr⟩ := h5 k v hk
    exact ⟨c, by simp [World.cell?, h1, h2.1, hc], hr⟩
  · have := s.blk i b hi
    simp only [BRel, ho, if_false, Bool.false_eq_true] at this
    exact this k v hk

end Go.Eng

/-
  The engine, part B: how the abstract heap follows the world: a new block, a block written, a block under a new number, a step back to an elder heap.
-/
namespace Go.Eng
open Go

variable {P : Program} {φ : Ren} {h : Heap} {w : World}

theorem heap_push (w : World) (o : Obj) (k : Nat) : (w.heap.push o)[k]? = if k = w.heap.size then some o else w.heap[k]? := by
  rw [Array.getElem?_push]

theorem BRel.world {P : Program} {φ φ' : Ren} {n n' : Nat} {i : Nat} {b : Blk} {w w' : World} (r : BRel P φ n i b w) (ha : ∀ i, i < n → φ' i = φ i) (hi : i < n) (hn : n ≤ n') (hb : w'.heap[(φ i).b]? = w.heap[(φ i).b]?) : BRel P φ' n' i b w' := by
  unfold BRel at r ⊢
  by_cases ho : b.own = true
  · simp only [ho, if_true] at r ⊢
    obtain ⟨arr, fr, h1, h2, h3, h4, h5⟩ := r
    refine ⟨arr, fr, by rw [ha i hi, hb, h1], by rw [ha i hi]; exact h2, h3, h4, fun k v hk => ?_⟩
    obtain ⟨c, hc, hr⟩ := h5 k v hk
    exact ⟨c, hc, hr.mono ha hn⟩
  · simp only [ho, if_false, Bool.false_eq_true] at r ⊢
    intro k v hk
    obtain ⟨c, hc, hr⟩ := r k v hk
    refine ⟨c, ?_, hr.mono ha hn⟩
    rw [ha i hi]
    rw [World.cell?_of_block (w := w) hb]
    exact hc

def Ren.put (φ : Ren) (n : Nat) (x : Pl) : Ren := fun i => if i = n then x else φ i
theorem Ren.put_lt {φ : Ren} {n : Nat} {x : Pl} : ∀ i, i < n → (Ren.put φ n x) i = φ i := fun i hi => by simp [Ren.put, Nat.ne_of_lt hi]
theorem Ren.put_at {φ : Ren} {n : Nat} {x : Pl} : (Ren.put φ n x) n = x := by simp [Ren.put]

/-- A new block. -/
theorem Sim.alloc (s : Sim P φ h w) (cs : List Value) (arr : Array Value) (e : TypeId) (fr : Nat × Nat) (hfr : fr.1 = fr.2 ∨ (arr.size ≤ fr.1 ∧ ByteT P e))
    (hl : cs.length ≤ arr.size) (hr : ∀ (k : Nat) v, cs[k]? = some v → ∃ c, arr[k]? = some c ∧ VRel φ h.next v c) :
    Sim P (Ren.put φ h.next ⟨w.heap.size, 0, arr.size⟩) (h.alloc ⟨cs, e, true⟩) (w.alloc (.cells arr e fr)) ∧
    Step φ h w (Ren.put φ h.next ⟨w.heap.size, 0, arr.size⟩) (h.alloc ⟨cs, e, true⟩) (w.alloc (.cells arr e fr)) := by
  have hheap : ∀ k : Nat, (w.alloc (.cells arr e fr)).heap[k]? = if k = w.heap.size then some (.cells arr e fr) else w.heap[k]? := fun k => heap_push w _ k
  have hold : ∀ i b, (h.alloc ⟨cs, e, true⟩).get i = some b → i ≠ h.next → h.get i = some b := by
    intro i b hb hne
    simpa [Heap.alloc, hne] using hb
  constructor
  · refine ⟨?_, ?_, ?_, ?_, ?_, ?_, ?_⟩
    · refine ⟨fun i hi => ?_, fun i hi => ?_⟩
      · have h1 : h.next + 1 ≤ i := hi
        simp only [Heap.alloc]
        rw [if_neg (by omega), s.next.c i (by omega)]
      · have h1 : h.next + 1 ≤ i := hi
        exact s.next.o i (by omega)
    · intro i b hb
      by_cases hin : i = h.next
      · subst hin
        have : b = ⟨cs, e, true⟩ := by simpa [Heap.alloc] using hb.symm
        subst this
        simp only [BRel, if_true, Ren.put_at]
        refine ⟨arr, fr, by rw [hheap]; simp, ⟨trivial, Nat.le_refl _⟩, hfr, hl, fun k v hk => ?_⟩
        obtain ⟨c, hc, hv⟩ := hr k v hk
        exact ⟨c, hc, hv.mono Ren.put_lt (by simp [Heap.alloc])⟩
      · have hb' := hold i b hb hin
        refine (s.blk i b hb').world Ren.put_lt (s.lt hb') (by simp [Heap.alloc]) ?_
        rw [hheap, if_neg (by have := s.low i b hb'; omega)]
    · intro i b hb
      by_cases hin : i = h.next
      · subst hin
        rw [Ren.put_at]
        simp
      · have hb' := hold i b hb hin
        rw [Ren.put_lt i (s.lt hb')]
        have := s.low i b hb'
        simp; omega
    · intro i j b hb ho hj he
      cases hxj : (h.alloc ⟨cs, e, true⟩).get j with
      | none => exact absurd hxj hj
      | some bj =>
        by_cases hin : i = h.next
        · by_cases hjn : j = h.next
          · omega
          · exfalso
            have hb' := hold j bj hxj hjn
            rw [hin, Ren.put_at, Ren.put_lt j (s.lt hb')] at he
            have := s.low j bj hb'
            simp at he; omega
        · have hb' := hold i b hb hin
          rw [Ren.put_lt i (s.lt hb')] at he
          by_cases hjn : j = h.next
          · exfalso
            rw [hjn, Ren.put_at] at he
            have := s.low i b hb'
            simp at he; omega
          · have hbj := hold j bj hxj hjn
            rw [Ren.put_lt j (s.lt hbj)] at he
            exact s.apart i j b hb' ho (by rw [hbj]; simp) he
    · intro g hg
      obtain ⟨h1, h2⟩ := s.glob g hg
      exact ⟨by rw [Ren.put_lt g h2]; exact h1, by simp only [Heap.alloc]; omega⟩
    · intro i o hi
      refine (s.objs i o hi).world Ren.put_lt (s.ltO hi) (by simp [Heap.alloc]) ?_
      rw [hheap, if_neg (by have := s.lowO hi; omega)]
    · intro i j o hi hj he
      cases hx : (h.alloc ⟨cs, e, true⟩).obj j with
      | none => exact absurd hx hj
      | some oj =>
        rw [Ren.put_lt i (s.ltO hi), Ren.put_lt j (s.ltO hx)] at he
        exact s.apartO i j o hi hj he
  · refine ⟨by simp [Heap.alloc], Ren.put_lt, rfl, rfl, rfl, by simp, fun k hk _ => by rw [hheap, if_neg (by omega)], ?_⟩
    rintro k (⟨i, b, h1, h2, h3⟩ | ⟨i, o, h1, h3⟩)
    · by_cases hin : i = h.next
      · subst hin
        rw [Ren.put_at] at h3
        exact .inr (by simp at h3; omega)
      · have hb' := hold i b h1 hin
        rw [Ren.put_lt i (s.lt hb')] at h3
        exact .inl (.inl ⟨i, b, hb', h2, h3⟩)
    · rw [Ren.put_lt i (s.ltO h1)] at h3
      exact .inl (.inr ⟨i, o, h1, h3⟩)

/-- A block of the engine's own, written: its cells are others. -/
theorem Sim.write (s : Sim P φ h w) {i : Nat} {b : Blk} (hi : h.get i = some b) (ho : b.own = true) {arr : Array Value} {fr : Nat × Nat} (harr : w.heap[(φ i).b]? = some (.cells arr b.elem fr))
    {w' : World} {arr' : Array Value} {fr' : Nat × Nat} (hsz : arr'.size = arr.size) (hfr' : fr'.1 = fr'.2 ∨ (arr'.size ≤ fr'.1 ∧ ByteT P b.elem)) (hw : ∀ k : Nat, w'.heap[k]? = if k = (φ i).b then some (.cells arr' b.elem fr') else w.heap[k]?)
    (hos : w'.os = w.os) (htape : w'.tape = w.tape) (hout : w'.output = w.output)
    (cs : List Value) (hl : cs.length ≤ arr'.size) (hr : ∀ (k : Nat) v, cs[k]? = some v → ∃ c, arr'[k]? = some c ∧ VRel φ h.next v c) :
    Sim P φ (h.set i ⟨cs, b.elem, true⟩) w' ∧ Step φ h w φ (h.set i ⟨cs, b.elem, true⟩) w' := by
  have hlow := s.low i b hi
  have hsize : w'.heap.size = w.heap.size := by
    apply Nat.le_antisymm
    · rcases Nat.lt_or_ge w.heap.size w'.heap.size with hlt | hge
      · have := hw w.heap.size
        rw [if_neg (by omega), Array.getElem?_eq_none (Nat.le_refl _), Array.getElem?_eq_getElem hlt] at this
        cases this
      · exact hge
    · rcases Nat.lt_or_ge w'.heap.size w.heap.size with hlt | hge
      · have := hw w'.heap.size
        rw [Array.getElem?_eq_none (Nat.le_refl _)] at this
        split at this
        · cases this
        · rw [Array.getElem?_eq_getElem hlt] at this; cases this
      · exact hge
  have hold : ∀ j bj, (h.set i ⟨cs, b.elem, true⟩).get j = some bj → j ≠ i → h.get j = some bj := by
    intro j bj hj hne
    simpa [Heap.set, hne] using hj
  obtain ⟨arr0, fr0, e1, e2, _, _, _⟩ := s.owned hi ho
  rw [harr] at e1
  simp only [Option.some.injEq, Obj.cells.injEq, true_and] at e1
  obtain ⟨rfl, rfl⟩ := e1
  have hob : ∀ j o, h.obj j = some o → (φ j).b ≠ (φ i).b := by
    intro j o hj he
    obtain ⟨x, q1, _, q2⟩ := (s.objs j o hj).obj
    rw [he, harr] at q1
    exact q2 _ _ _ (Option.some.inj q1).symm
  constructor
  · refine ⟨?_, ?_, ?_, ?_, ?_, ?_, ?_⟩
    · refine ⟨fun j hj => ?_, fun j hj => s.next.o j hj⟩
      have h1 : h.next ≤ j := hj
      have := s.lt hi
      simp only [Heap.set]
      rw [if_neg (by omega), s.next.c j h1]
    · intro j bj hj
      by_cases hji : j = i
      · subst hji
        have : bj = ⟨cs, b.elem, true⟩ := by simpa [Heap.set] using hj.symm
        subst this
        simp only [BRel, if_true]
        exact ⟨arr', fr', by rw [hw]; simp, by rw [hsz]; exact e2, hfr', hl, hr⟩
      · have hj' := hold j bj hj hji
        refine (s.blk j bj hj').world (fun _ _ => rfl) (s.lt hj') (Nat.le_refl _) ?_
        rw [hw, if_neg]
        intro he
        exact hji (s.apart i j b hi ho (by rw [hj']; simp) he)
    · intro j bj hj
      rw [hsize]
      by_cases hji : j = i
      · subst hji; exact hlow
      · exact s.low j bj (hold j bj hj hji)
    · intro j k bj hj hoj hk he
      cases hxk : (h.set i ⟨cs, b.elem, true⟩).get k with
      | none => exact absurd hxk hk
      | some bk =>
        have hk' : h.get k ≠ none := by
          by_cases hki : k = i
          · subst hki; rw [hi]; simp
          · rw [hold k bk hxk hki]; simp
        by_cases hji : j = i
        · subst hji; exact s.apart j k b hi ho hk' he
        · exact s.apart j k bj (hold j bj hj hji) hoj hk' he
    · exact s.glob
    · intro j o hj
      refine (s.objs j o hj).world (fun _ _ => rfl) (s.ltO hj) (Nat.le_refl _) ?_
      rw [hw, if_neg (hob j o hj)]
    · exact s.apartO
  · refine ⟨Nat.le_refl _, fun _ _ => rfl, hos, htape, hout, by omega, ?_, ?_⟩
    · intro k hk hno
      rw [hw, if_neg]
      intro he
      exact hno (.inl ⟨i, b, hi, ho, he.symm⟩)
    · rintro k (⟨j, bj, h1, h2, h3⟩ | ⟨j, o, h1, h3⟩)
      · by_cases hji : j = i
        · subst hji; exact .inl (.inl ⟨j, b, hi, ho, h3⟩)
        · exact .inl (.inl ⟨j, bj, hold j bj h1 hji, h2, h3⟩)
      · exact .inl (.inr ⟨j, o, h1, h3⟩)

/-- A block of the engine's own under a new number; the elder number is dead. -/
theorem Sim.renumber (s : Sim P φ h w) {i : Nat} {b : Blk} (hi : h.get i = some b) (ho : b.own = true) :
    Sim P (Ren.put φ h.next (φ i)) ((h.kill i).alloc b) w ∧ Step φ h w (Ren.put φ h.next (φ i)) ((h.kill i).alloc b) w := by
  have hlt := s.lt hi
  have hold : ∀ j bj, ((h.kill i).alloc b).get j = some bj → j ≠ h.next → h.get j = some bj ∧ j ≠ i := by
    intro j bj hj hne
    have : (if j = i then none else h.get j) = some bj := by simpa [Heap.alloc, Heap.kill, hne] using hj
    split at this
    · cases this
    · exact ⟨this, by assumption⟩
  have hnew : ∀ bj, ((h.kill i).alloc b).get h.next = some bj → bj = b := by
    intro bj hj
    simpa [Heap.alloc, Heap.kill] using hj.symm
  constructor
  · refine ⟨?_, ?_, ?_, ?_, ?_, ?_, ?_⟩
    · refine ⟨fun j hj => ?_, fun j hj => ?_⟩
      · have h1 : h.next + 1 ≤ j := hj
        show (if j = h.next then some b else if j = i then none else h.get j) = none
        rw [if_neg (by omega), if_neg (by omega), s.next.c j (by omega)]
      · have h1 : h.next + 1 ≤ j := hj
        exact s.next.o j (by omega)
    · intro j bj hj
      by_cases hjn : j = h.next
      · subst hjn
        obtain rfl := hnew bj hj
        obtain ⟨arr, fr, h1, h2, h3, h4, h5⟩ := s.owned hi ho
        simp only [BRel, ho, if_true, Ren.put_at]
        refine ⟨arr, fr, h1, h2, h3, h4, fun k v hk => ?_⟩
        obtain ⟨c, hc, hv⟩ := h5 k v hk
        exact ⟨c, hc, hv.mono Ren.put_lt (by simp [Heap.alloc, Heap.kill])⟩
      · obtain ⟨hj', _⟩ := hold j bj hj hjn
        exact (s.blk j bj hj').world Ren.put_lt (s.lt hj') (by simp [Heap.alloc, Heap.kill]) rfl
    · intro j bj hj
      by_cases hjn : j = h.next
      · subst hjn; rw [Ren.put_at]; exact s.low i b hi
      · obtain ⟨hj', _⟩ := hold j bj hj hjn
        rw [Ren.put_lt j (s.lt hj')]
        exact s.low j bj hj'
    · intro j k bj hj hoj hk he
      cases hxk : ((h.kill i).alloc b).get k with
      | none => exact absurd hxk hk
      | some bk =>
        by_cases hjn : j = h.next
        · by_cases hkn : k = h.next
          · omega
          · exfalso
            obtain ⟨hk', hki⟩ := hold k bk hxk hkn
            rw [hjn, Ren.put_at, Ren.put_lt k (s.lt hk')] at he
            exact hki (s.apart i k b hi ho (by rw [hk']; simp) he)
        · obtain ⟨hj', hji⟩ := hold j bj hj hjn
          rw [Ren.put_lt j (s.lt hj')] at he
          by_cases hkn : k = h.next
          · exfalso
            rw [hkn, Ren.put_at] at he
            exact hji (s.apart j i bj hj' hoj (by rw [hi]; simp) he).symm
          · obtain ⟨hk', _⟩ := hold k bk hxk hkn
            rw [Ren.put_lt k (s.lt hk')] at he
            exact s.apart j k bj hj' hoj (by rw [hk']; simp) he
    · intro g hg
      obtain ⟨h1, h2⟩ := s.glob g hg
      exact ⟨by rw [Ren.put_lt g h2]; exact h1, by simp only [Heap.alloc, Heap.kill]; omega⟩
    · intro j o hj
      exact (s.objs j o hj).world Ren.put_lt (s.ltO hj) (by simp [Heap.alloc, Heap.kill]) rfl
    · intro j k o hj hk he
      cases hx : ((h.kill i).alloc b).obj k with
      | none => exact absurd hx hk
      | some ok =>
        rw [Ren.put_lt j (s.ltO hj), Ren.put_lt k (s.ltO hx)] at he
        exact s.apartO j k o hj hk he
  · refine ⟨by simp [Heap.alloc, Heap.kill], Ren.put_lt, rfl, rfl, rfl, Nat.le_refl _, fun _ _ _ => rfl, ?_⟩
    rintro k (⟨j, bj, h1, h2, h3⟩ | ⟨j, o, h1, h3⟩)
    · by_cases hjn : j = h.next
      · subst hjn
        rw [Ren.put_at] at h3
        exact .inl (.inl ⟨i, b, hi, ho, h3⟩)
      · obtain ⟨hj', _⟩ := hold j bj h1 hjn
        rw [Ren.put_lt j (s.lt hj')] at h3
        exact .inl (.inl ⟨j, bj, hj', h2, h3⟩)
    · rw [Ren.put_lt j (s.ltO h1)] at h3
      exact .inl (.inr ⟨j, o, h1, h3⟩)

/-- Which numbers a value names. -/
def Bdd (n : Nat) (v : Value) : Prop := ∃ φ c, VRel φ n v c
theorem VRel.bdd {n : Nat} {v c : Value} (r : VRel φ n v c) : Bdd n v := ⟨φ, c, r⟩
theorem VRel.lower {n n' : Nat} {v c : Value} (r : VRel φ n' v c) : ∀ {φ0 : Ren} {c0 : Value}, VRel φ0 n v c0 → VRel φ n v c := by
  induction r with
  | und c => intro φ0 c0 _; exact .und c
  | skip => intro φ0 c0 _; exact .skip
  | bool b => intro φ0 c0 _; exact .bool b
  | int k a => intro φ0 c0 _; exact .int k a
  | float k a => intro φ0 c0 _; exact .float k a
  | complex k a b => intro φ0 c0 _; exact .complex k a b
  | string s => intro φ0 c0 _; exact .string s
  | nilPtr => intro φ0 c0 _; exact .nilPtr
  | ptr i o hi => intro φ0 c0 r0; exact .ptr i o r0.ptr_inv.2.1
  | nilSlice => intro φ0 c0 _; exact .nilSlice
  | slice i o len cap cap' s a' hi h1 h2 h3 h4 h5 h6 =>
    intro φ0 c0 r0
    obtain ⟨_, _, _, hlt, _⟩ := r0.slice_inv
    exact .slice i o len cap cap' s a' hlt h1 h2 h3 h4 h5 h6
  | func fn f c f' c' h1 h2 h3 h4 i3 i4 =>
    intro φ0 c0 r0
    obtain ⟨f0, d0, _, s1, s2, q1, q2⟩ := r0.func_inv
    refine .func fn f c f' c' h1 h2 (fun k x y hx hy => ?_) (fun k x y hx hy => ?_)
    · have hk : k < f0.size := by rw [← s1]; exact (Array.getElem?_eq_some_iff.1 hx).1
      exact i3 k x y hx hy (q1 k x _ hx (Array.getElem?_eq_getElem hk))
    · have hk : k < d0.size := by rw [← s2]; exact (Array.getElem?_eq_some_iff.1 hx).1
      exact i4 k x y hx hy (q2 k x _ hx (Array.getElem?_eq_getElem hk))
  | nilFunc => intro φ0 c0 _; exact .nilFunc
  | iface t v v' _ ih => intro φ0 c0 r0; obtain ⟨u, _, hu⟩ := r0.iface_inv; exact .iface t v v' (ih hu)
  | nilIface => intro φ0 c0 _; exact .nilIface
  | agg c c' h1 _ ih =>
    intro φ0 c0 r0
    obtain ⟨d0, _, s1, q1⟩ := r0.agg_inv
    refine .agg c c' h1 (fun k x y hx hy => ?_)
    have hk : k < d0.size := by rw [← s1]; exact (Array.getElem?_eq_some_iff.1 hx).1
    exact ih k x y hx hy (q1 k x _ hx (Array.getElem?_eq_getElem hk))
  | tuple c c' h1 _ ih =>
    intro φ0 c0 r0
    by_cases hz : c.size = 0
    · have : c = #[] := by simpa using hz
      subst this
      exact .und _
    · obtain ⟨d0, _, s1, q1⟩ := r0.tuple_inv hz
      refine .tuple c c' h1 (fun k x y hx hy => ?_)
      have hk : k < d0.size := by rw [← s1]; exact (Array.getElem?_eq_some_iff.1 hx).1
      exact ih k x y hx hy (q1 k x _ hx (Array.getElem?_eq_getElem hk))
  | nilMap => intro φ0 c0 _; exact .nilMap
  | map i hi => intro φ0 c0 r0; exact .map i r0.map_inv.1

/-! Back to the elder heap: all that was made since is let go. -/
theorem Ext.refl (h : Heap) : Ext h h := ⟨fun _ _ hi => hi, fun _ _ hi => hi⟩
theorem Ext.trans {h1 h2 h3 : Heap} (a : Ext h1 h2) (b : Ext h2 h3) : Ext h1 h3 := ⟨fun i c hi => b.c i c (a.c i c hi), fun i c hi => b.o i c (a.o i c hi)⟩
theorem ERel.lower {φ φ0 : Ren} {n n' : Nat} {e : AEnt} {c c0 : MapEntry} (r : ERel φ n' e c) (r0 : ERel φ0 n e c0) : ERel φ n e c := ⟨r.1.lower r0.1, r.2.1.lower r0.2.1, r.2.2⟩

theorem Sim.reset {φ' : Ren} {h' : Heap} {w' : World} (s0 : Sim P φ h w) (s : Sim P φ' h' w') (_ : ∀ i, i < h.next → φ' i = φ i) (hx : Ext h h') : Sim P φ' h w' where
  next := s0.next
  blk i b hi := by
    have r0 := s0.blk i b hi
    have r := s.blk i b (hx i b hi)
    unfold BRel at r r0 ⊢
    by_cases ho : b.own = true
    · simp only [ho, if_true] at r r0 ⊢
      obtain ⟨arr, fr, h1, h2, h3, h4, h5⟩ := r
      obtain ⟨arr0, fr0, _, _, _, _, g5⟩ := r0
      refine ⟨arr, fr, h1, h2, h3, h4, fun k v hk => ?_⟩
      obtain ⟨c, hc, hv⟩ := h5 k v hk
      obtain ⟨c0, _, hv0⟩ := g5 k v hk
      exact ⟨c, hc, hv.lower hv0⟩
    · simp only [ho, if_false, Bool.false_eq_true] at r r0 ⊢
      intro k v hk
      obtain ⟨c, hc, hv⟩ := r k v hk
      obtain ⟨c0, _, hv0⟩ := r0 k v hk
      exact ⟨c, hc, hv.lower hv0⟩
  low i b hi := s.low i b (hx i b hi)
  apart i j b hi ho hj he := by
    cases hxj : h.get j with
    | none => exact absurd hxj hj
    | some bj => exact s.apart i j b (hx i b hi) ho (by rw [hx j bj hxj]; simp) he
  glob g hg := ⟨(s.glob g hg).1, (s0.glob g hg).2⟩
  objs i o hi := by
    have r0 := s0.objs i o hi
    have r := s.objs i o (hx.o i o hi)
    cases o with
    | map es clock =>
      obtain ⟨cs, h1, h2, h3⟩ := r
      obtain ⟨cs0, g1, g2, g3⟩ := r0
      refine ⟨cs, h1, h2, fun k e c he hc => ?_⟩
      have hk : k < cs0.size := by rw [← g2]; exact (List.getElem?_eq_some_iff.1 he).1
      exact (h3 k e c he hc).lower (g3 k e _ he (Array.getElem?_eq_getElem hk))
    | mapIter m since seen stepped => exact ⟨r.1, r.2.1, r0.2.2⟩
    | strIter st pos => exact r
  apartO i j o hi hj he := by
    cases hxj : h.obj j with
    | none => exact absurd hxj hj
    | some oj => exact s.apartO i j o (hx.o i o hi) (by rw [hx.o j oj hxj]; simp) he
theorem Step.reset {φ' : Ren} {h' : Heap} {w' : World} (t : Step φ h w φ' h' w') (hx : Ext h h') : Step φ h w φ' h w' where
  next := Nat.le_refl _
  agree := t.agree
  os := t.os
  tape := t.tape
  output := t.output
  size := t.size
  frame := t.frame
  own k hk := t.own k (by
    rcases hk with ⟨i, b, h1, h2, h3⟩ | ⟨i, o, h1, h3⟩
    · exact .inl ⟨i, b, hx.c i b h1, h2, h3⟩
    · exact .inr ⟨i, o, hx.o i o h1, h3⟩)

theorem Heap.alloc_new (h : Heap) (b : Blk) : (h.alloc b).get h.next = some b := by simp [Heap.alloc]
theorem Heap.alloc_old {h : Heap} {b : Blk} {i : Nat} (hi : i ≠ h.next) : (h.alloc b).get i = h.get i := by simp [Heap.alloc, hi]
theorem Heap.set_alloc (h : Heap) (b c : Blk) : (h.alloc b).set h.next c = h.alloc c := by
  simp only [Heap.alloc, Heap.set, Heap.mk.injEq, and_true]
  funext j
  by_cases hj : j = h.next <;> simp [hj]
theorem Heap.set_at (h : Heap) (i : Nat) (b : Blk) : (h.set i b).get i = some b := by simp [Heap.set]
theorem Heap.set_other {h : Heap} {i j : Nat} {b : Blk} (hj : j ≠ i) : (h.set i b).get j = h.get j := by simp [Heap.set, hj]
theorem Heap.new1 (h : Heap) (b c : Blk) : ((h.alloc b).alloc c).get h.next = some b := by simp [Heap.alloc]
theorem Heap.new2 (h : Heap) (b c d : Blk) : (((h.alloc b).alloc c).alloc d).get h.next = some b := by
  rw [Heap.alloc_old (by show h.next ≠ h.next + 1 + 1; omega)]
  exact Heap.new1 h b c
theorem Heap.new3 (h : Heap) (b c d e : Blk) : ((((h.alloc b).alloc c).alloc d).alloc e).get h.next = some b := by
  rw [Heap.alloc_old (by show h.next ≠ h.next + 1 + 1 + 1; omega)]
  exact Heap.new2 h b c d
theorem WF.alloc {h : Heap} (wf : WF h) (b : Blk) : WF (h.alloc b) := by
  refine ⟨fun i hi => ?_, fun i hi => ?_⟩
  · have h1 : h.next + 1 ≤ i := hi
    rw [Heap.alloc_old (by omega)]
    exact wf.c i (by omega)
  · have h1 : h.next + 1 ≤ i := hi
    exact wf.o i (by omega)
theorem WF.lt {h : Heap} (wf : WF h) {i : Nat} {b : Blk} (hi : h.get i = some b) : i < h.next := by
  rcases Nat.lt_or_ge i h.next with h1 | h1
  · exact h1
  · rw [wf.c i h1] at hi; cases hi
theorem WF.ltO {h : Heap} (wf : WF h) {i : Nat} {o : AObj} (hi : h.obj i = some o) : i < h.next := by
  rcases Nat.lt_or_ge i h.next with h1 | h1
  · exact h1
  · rw [wf.o i h1] at hi; cases hi
theorem WF.ext {h : Heap} (wf : WF h) (b : Blk) : Ext h (h.alloc b) := by
  refine ⟨fun i c hi => ?_, fun _ _ hi => hi⟩
  have := wf.lt hi
  rw [Heap.alloc_old (by omega)]
  exact hi
/-- A new row in the place of one that the call has made since. -/
theorem WF.ext_kill {h h1 : Heap} (wf : WF h) (hx : Ext h h1) (wf1 : WF h1) {j : Nat} (hj : h.next ≤ j) (b : Blk) : Ext h ((h1.kill j).alloc b) := by
  refine ⟨fun i c hi => ?_, fun i o hi => hx.o i o hi⟩
  have h2 := wf.lt hi
  have h3 := hx.c i c hi
  have h4 := wf1.lt h3
  show (if i = h1.next then some b else if i = j then none else h1.get i) = some c
  rw [if_neg (by omega), if_neg (by omega)]
  exact h3
theorem WF.ext_set {h h1 : Heap} (wf : WF h) (hx : Ext h h1) {j : Nat} (hj : h.next ≤ j) (b : Blk) : Ext h (h1.set j b) := by
  refine ⟨fun i c hi => ?_, fun i o hi => hx.o i o hi⟩
  have h2 := wf.lt hi
  rw [Heap.set_other (by omega)]
  exact hx.c i c hi
theorem WF.ext_alloc {h h1 : Heap} (hx : Ext h h1) (wf1 : WF h1) (b : Blk) : Ext h (h1.alloc b) := hx.trans (wf1.ext b)
theorem WF.kill {h : Heap} (wf : WF h) (i : Nat) : WF (h.kill i) := by
  refine ⟨fun j hj => ?_, fun j hj => wf.o j hj⟩
  show (if j = i then none else h.get j) = none
  split
  · rfl
  · exact wf.c j hj
theorem WF.set {h : Heap} (wf : WF h) {i : Nat} (hi : i < h.next) (b : Blk) : WF (h.set i b) := by
  refine ⟨fun j hj => ?_, fun j hj => wf.o j hj⟩
  have h1 : h.next ≤ j := hj
  rw [Heap.set_other (by omega)]
  exact wf.c j h1
theorem Heap.kill_alloc_new (h : Heap) (i : Nat) (b : Blk) : ((h.kill i).alloc b).get h.next = some b := by
  show (if h.next = h.next then some b else _) = some b
  simp
theorem Heap.kill_alloc_old {h : Heap} {i j : Nat} {b : Blk} (h1 : j ≠ h.next) (h2 : j ≠ i) : ((h.kill i).alloc b).get j = h.get j := by
  show (if j = h.next then some b else if j = i then none else h.get j) = h.get j
  rw [if_neg h1, if_neg h2]
end Go.Eng

/-
  The engine, part C: frames by what is known of them, and the rules of code over abstract heaps.
-/
namespace Go.Eng
open Go

abbrev Env := List (Nat × Value)
def Env.get : Env → Nat → Value
  | [], _ => undef
  | (k, v) :: e, t => bif Nat.beq k t then v else Env.get e t
def Env.put (e : Env) (d : Option Tmp) (v : Value) : Env :=
  match d with
  | some d => (d, v) :: e
  | none => e

def ev (P : Program) (e : Env) : Operand → Value
  | .tmp t => e.get t
  | .const v => bif plainV v then v else undef
  | .global g => bif Nat.blt g P.globals.size then .pointer (some ⟨g, 0, none⟩) else undef
  | .func f => .func (.func f) #[] #[]

structure Rel (P : Program) (N : Nat) (φ : Ren) (env : Env) (h : Heap) (tmps : Array Value) (w : World) : Prop where
  sim : Sim P φ h w
  size : tmps.size = N
  env : ∀ t, VRel φ h.next (env.get t) (tmps.getD t undef)

theorem Env.get_put (e : Env) (d : Nat) (v : Value) (t : Nat) : Env.get ((d, v) :: e) t = if d = t then v else e.get t := by
  simp only [Env.get]
  by_cases h : d = t
  · subst h; have : Nat.beq d d = true := Nat.beq_refl d
    simp
  · have : Nat.beq d t = false := by
      cases hb : Nat.beq d t with
      | true => exact absurd (Nat.eq_of_beq_eq_true hb) h
      | false => rfl
    simp [this, h]

theorem getD_set (a : Array Value) (d : Nat) (v : Value) (t : Nat) (hd : d < a.size) : (a.setIfInBounds d v).getD t undef = if d = t then v else a.getD t undef := by
  simp only [Array.getD_eq_getD_getElem?, Array.getElem?_setIfInBounds]
  by_cases h : d = t
  · subst h; simp [hd]
  · simp [h]

theorem Rel.put {P : Program} {N : Nat} {φ : Ren} {env : Env} {h : Heap} {a : Act} {w : World} (r : Rel P N φ env h a.tmps w) (d : Option Tmp) (hd : ∀ t, d = some t → t < N) {v c : Value} (hv : VRel φ h.next v c) :
    Rel P N φ (env.put d v) h (a.put d c).tmps w := by
  cases d with
  | none => exact r
  | some d =>
    have hdn := hd d rfl
    refine ⟨r.sim, by simp [Act.put, r.size], fun t => ?_⟩
    show VRel φ h.next (Env.get ((d, v) :: env) t) ((a.tmps.setIfInBounds d c).getD t undef)
    rw [Env.get_put, getD_set _ _ _ _ (by rw [r.size]; exact hdn)]
    split
    · exact hv
    · exact r.env t

theorem Rel.ev {P : Program} {N : Nat} {φ : Ren} {env : Env} {h : Heap} {a : Act} {w : World} (r : Rel P N φ env h a.tmps w) (x : Operand) : VRel φ h.next (ev P env x) (a.eval x) := by
  cases x with
  | tmp t => exact r.env t
  | const v =>
    simp only [Eng.ev, Act.eval]
    cases hp : plainV v with
    | true => exact .of_plain hp
    | false => exact .und _
  | global g =>
    simp only [Eng.ev, Act.eval]
    cases hp : Nat.blt g P.globals.size with
    | true =>
      have hg : g < P.globals.size := by simpa [Nat.blt_eq] using hp
      obtain ⟨h1, h2⟩ := r.sim.glob g hg
      have := VRel.ptr (φ := φ) (n := h.next) g 0 h2
      rw [h1.1, h1.2] at this
      exact this
    | false => exact .und _
  | func f => exact .of_scalar rfl

theorem Rel.step {P : Program} {N : Nat} {φ φ' : Ren} {env : Env} {h h' : Heap} {t : Array Value} {w w' : World} (r : Rel P N φ env h t w) (s : Sim P φ' h' w') (st : Step φ h w φ' h' w') : Rel P N φ' env h' t w' :=
  ⟨s, r.size, fun t => st.mono (r.env t)⟩

/-- What is known behind a piece of code. -/
def Post (P : Program) (N : Nat) (φ : Ren) (h : Heap) (w : World) (K : Env → Heap → Prop) (a' : Act) (w' : World) : Prop :=
  ∃ env' h' φ', K env' h' ∧ a'.defers = [] ∧ Rel P N φ' env' h' a'.tmps w' ∧ Step φ h w φ' h' w'

def AWp (P : Program) (N : Nat) (c : Code) (Q : Exit → Env → Heap → Prop) (env : Env) (h : Heap) : Prop :=
  ∀ φ a w, a.defers = [] → Rel P N φ env h a.tmps w → c.wp P (fun ex a' w' => Post P N φ h w (Q ex) a' w') a w

theorem Post.trans {P : Program} {N : Nat} {φ φ' : Ren} {h h' : Heap} {w w' : World} {K : Env → Heap → Prop} {a : Act} {w2 : World} (p : Post P N φ' h' w' K a w2) (s : Step φ h w φ' h' w') : Post P N φ h w K a w2 := by
  obtain ⟨e, h2, φ2, k, d, r, t⟩ := p
  exact ⟨e, h2, φ2, k, d, r, s.trans t⟩
theorem Post.mono {P : Program} {N : Nat} {φ : Ren} {h : Heap} {w : World} {K K' : Env → Heap → Prop} {a : Act} {w2 : World} (p : Post P N φ h w K a w2) (hk : ∀ e h', K e h' → K' e h') : Post P N φ h w K' a w2 := by
  obtain ⟨e, h2, φ2, k, d, r, t⟩ := p
  exact ⟨e, h2, φ2, hk _ _ k, d, r, t⟩
theorem Post.now {P : Program} {N : Nat} {φ : Ren} {h : Heap} {w : World} {K : Env → Heap → Prop} {env : Env} {a : Act} (k : K env h) (d : a.defers = []) (r : Rel P N φ env h a.tmps w) : Post P N φ h w K a w :=
  ⟨env, h, φ, k, d, r, Step.refl _ _ _⟩

section rules
variable {P : Program} {N : Nat} {Q : Exit → Env → Heap → Prop} {env : Env} {h : Heap}

theorem AWp.mono {c : Code} {Q' : Exit → Env → Heap → Prop} (p : AWp P N c Q env h) (hq : ∀ ex e h', Q ex e h' → Q' ex e h') : AWp P N c Q' env h :=
  fun φ a w hd r => wp_mono (p φ a w hd r) fun ex _ _ hp => hp.mono (hq ex)

/-- Less is known. -/
structure Weak (env : Env) (h : Heap) (env0 : Env) (h0 : Heap) : Prop where
  env : ∀ t, env0.get t = env.get t ∨ env0.get t = undef
  next : h0.next = h.next
  ext : Ext h0 h
theorem Weak.refl (env : Env) (h : Heap) : Weak env h env h := ⟨fun _ => .inl rfl, rfl, Ext.refl h⟩
/-- A frame that names no more than a frame knows. -/
def EW (env env0 : Env) : Prop := ∀ t, env0.get t = env.get t ∨ env0.get t = undef
theorem EW.nil {env : Env} : EW env [] := fun _ => .inr rfl
theorem EW.cons {env env0 : Env} {k : Nat} {v : Value} (h : env.get k = v) (r : EW env env0) : EW env ((k, v) :: env0) := fun t => by
  rw [Env.get_put]
  split
  · rename_i e; subst e; exact .inl h.symm
  · exact r t
theorem Weak.of {env : Env} {h : Heap} {env0 : Env} {h0 : Heap} (he : EW env env0) (hn : h0.next = h.next) (hx : Ext h0 h) : Weak env h env0 h0 := ⟨he, hn, hx⟩
theorem Weak.same {env : Env} {h : Heap} {env0 : Env} (he : EW env env0) : Weak env h env0 h := ⟨he, rfl, Ext.refl h⟩
theorem Rel.weak {φ : Ren} {env0 : Env} {h0 : Heap} {t : Array Value} {w : World} (r : Rel P N φ env h t w) (k : Weak env h env0 h0) : Rel P N φ env0 h0 t w := by
  refine ⟨r.sim.forget k.next k.ext, r.size, fun t => ?_⟩
  rw [k.next]
  rcases k.env t with e | e
  · rw [e]; exact r.env t
  · rw [e]; exact .und _
theorem Step.weak {φ : Ren} {h0 : Heap} {w : World} (hn : h0.next = h.next) (hx : Ext h0 h) : Step φ h w φ h0 w :=
  ⟨by omega, fun _ _ => rfl, rfl, rfl, rfl, Nat.le_refl _, fun _ _ _ => rfl, fun _ hk => .inl (hk.forget hx)⟩
theorem AWp.weak {c : Code} {env0 : Env} {h0 : Heap} (p : AWp P N c Q env0 h0) (k : Weak env h env0 h0) : AWp P N c Q env h :=
  fun φ a w hd r => wp_mono (p φ a w hd (r.weak k)) fun _ _ _ hp => hp.trans (Step.weak k.next k.ext)

theorem AWp.skip (k : Q .normal env h) : AWp P N .skip Q env h := fun _ _ _ hd r => wp_skip (Post.now k hd r)
theorem AWp.label {l : Nat} (k : Q .normal env h) : AWp P N (.label l) Q env h := fun _ _ _ hd r => wp_label (Post.now k hd r)
theorem AWp.exit {id : Nat} (k : Q (.exit id) env h) : AWp P N (.exit id) Q env h := fun _ _ _ hd r => wp_exit (Post.now k hd r)
theorem AWp.goto {l : Nat} (k : Q (.goto l) env h) : AWp P N (.goto l) Q env h := fun _ _ _ hd r => wp_goto (Post.now k hd r)
theorem AWp.ret (k : Q .ret env h) : AWp P N .ret Q env h := fun _ _ _ hd r => wp_ret (Post.now k hd r)

@[reducible] def thenQ (K : Env → Heap → Prop) (Q : Exit → Env → Heap → Prop) : Exit → Env → Heap → Prop
  | .normal => K
  | ex => Q ex
/-- As thenQ, but Q stands there once alone (the goals stay small). -/
@[reducible] def seqQ (P : Program) (N : Nat) (y : Code) (Q : Exit → Env → Heap → Prop) : Exit → Env → Heap → Prop
  | .normal => AWp P N y Q
  | ex => Q ex
theorem AWp.seq {x y : Code} (p : AWp P N x (seqQ P N y Q) env h) : AWp P N (.seq x y) Q env h := by
  intro φ a w hd r
  refine wp_seq (wp_mono (p φ a w hd r) fun ex a' w' hp => ?_)
  cases ex with
  | normal =>
    obtain ⟨e, h2, φ2, k, d, r2, t⟩ := hp
    exact wp_mono (k φ2 a' w' d r2) fun _ _ _ hp2 => hp2.trans t
  | _ => exact hp

theorem AWp.cond {c : Operand} {x y : Code} {t : Bool} (hc : ev P env c = .bool t) (ht : t = true → AWp P N x Q env h) (hf : t = false → AWp P N y Q env h) : AWp P N (.cond c x y) Q env h := by
  intro φ a w hd r
  have hv := r.ev c
  rw [hc] at hv
  exact wp_cond_split hv.bool_inv (fun e => ht e φ a w hd r) (fun e => hf e φ a w hd r)
theorem AWp.condP {c : Operand} {x y : Code} {p : Prop} {ip : Decidable p} (hc : ev P env c = .bool (@decide p ip)) (ht : p → AWp P N x Q env h) (hf : ¬ p → AWp P N y Q env h) : AWp P N (.cond c x y) Q env h :=
  .cond hc (fun e => ht (of_decide_eq_true e)) (fun e => hf (of_decide_eq_false e))
theorem AWp.condT {c : Operand} {x y : Code} (hc : ev P env c = .bool true) (p : AWp P N x Q env h) : AWp P N (.cond c x y) Q env h := .cond hc (fun _ => p) (fun e => by cases e)
theorem AWp.condF {c : Operand} {x y : Code} (hc : ev P env c = .bool false) (p : AWp P N y Q env h) : AWp P N (.cond c x y) Q env h := .cond hc (fun e => by cases e) (fun _ => p)

@[reducible] def blockQ (id : Nat) (Q : Exit → Env → Heap → Prop) : Exit → Env → Heap → Prop
  | .exit id', e, h => if id' = id then Q .normal e h else Q (.exit id') e h
  | ex, e, h => Q ex e h
theorem AWp.block {id : Nat} {c : Code} (p : AWp P N c (blockQ id Q) env h) : AWp P N (.block id c) Q env h := by
  intro φ a w hd r
  refine wp_block (wp_mono (p φ a w hd r) fun ex a' w' hp => ?_)
  cases ex with
  | exit id' =>
    simp only [Exit.inBlock]
    split
    · rename_i he
      exact hp.mono fun e h' k => by simpa [blockQ, he] using k
    · rename_i he
      exact hp.mono fun e h' k => by simpa [blockQ, he] using k
  | _ => exact hp

/-- A place where ways meet. -/
theorem AWp.seqI {α : Type} {x y : Code} (E : α → Env) (H : α → Heap) (V : α → Prop) (p : AWp P N x (thenQ (fun e h' => ∃ z, V z ∧ Weak e h' (E z) (H z)) Q) env h) (q : ∀ z, V z → AWp P N y Q (E z) (H z)) : AWp P N (.seq x y) Q env h :=
  .seq (p.mono fun ex e h' k => by
    cases ex with
    | normal => obtain ⟨z, hz, hw⟩ := k; exact (q z hz).weak hw
    | _ => exact k)

theorem AWp.cutI {α : Type} {x y : Code} (E : α → Env) (H : α → Heap) (V : α → Prop) (p : AWp P N x (thenQ (fun e h' => ∃ z, V z ∧ Weak e h' (E z) (H z)) Q) env h) (q : ∀ z, V z → AWp P N y Q (E z) (H z)) :
    AWp P N x (seqQ P N y Q) env h :=
  p.mono fun ex e h' k => by
    cases ex with
    | normal => obtain ⟨z, hz, hw⟩ := k; exact (q z hz).weak hw
    | _ => exact k

theorem AWp.cutB {α : Type} {id : Nat} {x y : Code} (E : α → Env) (H : α → Heap) (V : α → Prop) (p : AWp P N x (blockQ id (thenQ (fun e h' => ∃ z, V z ∧ Weak e h' (E z) (H z)) Q)) env h) (q : ∀ z, V z → AWp P N y Q (E z) (H z)) :
    AWp P N x (blockQ id (seqQ P N y Q)) env h :=
  p.mono fun ex e h' k => by
    cases ex with
    | normal => obtain ⟨z, hz, hw⟩ := k; exact (q z hz).weak hw
    | exit id' =>
      simp only [blockQ] at k ⊢
      split
      · rename_i hi
        rw [if_pos hi] at k
        obtain ⟨z, hz, hw⟩ := k
        exact (q z hz).weak hw
      · rename_i hi
        rw [if_neg hi] at k
        exact k
    | _ => exact k

/-- A loop: the states of its head by a family; a measure. -/
theorem AWp.loop {α : Type} {c : Code} (E : α → Env) (H : α → Heap) (V : α → Prop) (m : α → Nat) (x : α) (hx : V x) (hw : Weak env h (E x) (H x))
    (round : ∀ y, V y → AWp P N c (thenQ (fun e h' => ∃ z, V z ∧ m z < m y ∧ Weak e h' (E z) (H z)) Q) (E y) (H y)) : AWp P N (.loop c) Q env h := by
  intro φ a w hd r b k cs
  have key : ∀ n y φ' a' w', m y = n → V y → a'.defers = [] → Rel P N φ' (E y) (H y) a'.tmps w' → Step φ h w φ' (H y) w' →
      ∃ e a2 w2, Post P N φ h w (Q e) a2 w2 ∧ Arrives P (lone (b.at a' (.code c :: .inLoop c :: k)) cs w') b k cs e a2 w2 := by
    intro n
    induction n using Nat.strongRecOn with
    | _ n ih =>
      intro y φ' a' w' hn hv hd' r' st
      obtain ⟨e, a1, w1, hq, harr⟩ := round y hv φ' a' w' hd' r' b (.inLoop c :: k) cs
      cases e with
      | normal =>
        obtain ⟨e1, h1, φ1, ⟨z, hz, hlt, hwk⟩, d1, r1, t1⟩ := hq
        have st1 : Step φ h w φ1 (H z) w1 := (st.trans t1).trans (Step.weak hwk.next hwk.ext)
        obtain ⟨e2, a2, w2, hq2, harr2⟩ := ih (m z) (hn ▸ hlt) z φ1 a1 w1 rfl hz d1 (r1.weak hwk) st1
        exact ⟨e2, a2, w2, hq2, .of_steps (Steps.trans harr (.one step_inLoop)) harr2⟩
      | exit id => exact ⟨_, a1, w1, hq.trans st, .pass (x := .inLoop c) rfl (fun _ _ => .inl (by simp)) harr⟩
      | goto l => exact ⟨_, a1, w1, hq.trans st, .pass (x := .inLoop c) rfl (fun _ _ => .inl (by simp)) harr⟩
      | ret => exact ⟨_, a1, w1, hq.trans st, .pass (x := .inLoop c) rfl (fun _ _ => .inl (by simp)) harr⟩
      | panic ch => exact ⟨_, a1, w1, hq.trans st, .pass (x := .inLoop c) rfl (fun _ _ => .inl (by simp)) harr⟩
      | outgrown => exact ⟨_, a1, w1, hq.trans st, .pass (x := .inLoop c) rfl (fun _ _ => .inl (by simp)) harr⟩
  obtain ⟨e, a2, w2, hq, harr⟩ := key _ x φ a w rfl hx hd (r.weak hw) (Step.weak hw.next hw.ext)
  exact ⟨e, a2, w2, hq, .of_steps (.one step_loop) harr⟩
end rules

/-- A call: what comes back, and the heap behind it. -/
def ARes (P : Program) (φ : Ren) (h : Heap) (w : World) (Q : Value → Heap → Prop) : Ending → World → Prop
  | .returned c, w' => ∃ v h' φ', Q v h' ∧ VRel φ' h'.next v c ∧ Sim P φ' h' w' ∧ Step φ h w φ' h' w'
  | _, _ => False
inductive VRels (φ : Ren) (n : Nat) : List Value → List Value → Prop
  | nil : VRels φ n [] []
  | cons {v c : Value} {vs cs : List Value} (h : VRel φ n v c) (t : VRels φ n vs cs) : VRels φ n (v :: vs) (c :: cs)
def ACalls (P : Program) (f : FuncId) (args : List Value) (h : Heap) (Q : Value → Heap → Prop) : Prop :=
  ∀ φ w cargs, Sim P φ h w → VRels φ h.next args cargs → Calls P f cargs.toArray w (ARes P φ h w Q)

theorem ACalls.mono {P : Program} {f : FuncId} {args : List Value} {h : Heap} {Q Q' : Value → Heap → Prop} (p : ACalls P f args h Q) (hq : ∀ v h', Q v h' → Q' v h') : ACalls P f args h Q' :=
  fun φ w cargs s va => (p φ w cargs s va).mono fun e w' hr => by
    cases e with
    | returned c => obtain ⟨v, h', φ', q, r⟩ := hr; exact ⟨v, h', φ', hq v h' q, r⟩
    | _ => exact hr

theorem ACalls.wf {P : Program} {f : FuncId} {args : List Value} {h : Heap} {Q : Value → Heap → Prop} (p : WF h → ACalls P f args h Q) : ACalls P f args h Q :=
  fun φ w cargs s va => p s.next φ w cargs s va
theorem AWp.wf {P : Program} {N : Nat} {c : Code} {Q : Exit → Env → Heap → Prop} {env : Env} {h : Heap} (p : WF h → AWp P N c Q env h) : AWp P N c Q env h :=
  fun φ a w hd r => p r.sim.next φ a w hd r
/-- Behind a call: what is there now has nothing beyond, either. -/
theorem ACalls.wf_post {P : Program} {f : FuncId} {args : List Value} {h : Heap} {Q : Value → Heap → Prop} (p : ACalls P f args h Q) : ACalls P f args h fun v h' => Q v h' ∧ WF h' ∧ h.next ≤ h'.next :=
  fun φ w cargs s va => (p φ w cargs s va).mono fun e w' hr => by
    cases e with
    | returned c => obtain ⟨v, h', φ', q, r1, r2, r3⟩ := hr; exact ⟨v, h', φ', ⟨q, r2.next, r3.next⟩, r1, r2, r3⟩
    | _ => exact hr
theorem VRels.length {φ : Ren} {n : Nat} {vs cs : List Value} (h : VRels φ n vs cs) : vs.length = cs.length := by
  induction h with
  | nil => rfl
  | cons _ _ ih => simp [ih]
theorem VRels.at {φ : Ren} {n : Nat} {vs cs : List Value} (h : VRels φ n vs cs) : ∀ i : Nat, VRel φ n (vs.getD i undef) (cs.getD i undef) := by
  induction h with
  | nil => intro i; simp; exact .und _
  | cons hv _ ih =>
    intro i
    cases i with
    | zero => simpa using hv
    | succ i => simpa using ih i

/-- The frame at a function's entry. -/
def entryFrom : Nat → List Value → Env
  | _, [] => []
  | k, v :: vs => (k, v) :: entryFrom (k + 1) vs
theorem entryFrom_get : ∀ (vs : List Value) (k t : Nat), (entryFrom k vs).get t = if k ≤ t then vs.getD (t - k) undef else undef
  | [], k, t => by simp [entryFrom, Env.get]
  | v :: vs, k, t => by
    simp only [entryFrom]
    rw [Env.get_put, entryFrom_get vs (k + 1) t]
    by_cases h : k = t
    · subst h; simp
    · by_cases h2 : k ≤ t
      · rw [if_neg h, if_pos (by omega), if_pos h2]
        have : t - k = (t - (k + 1)) + 1 := by omega
        rw [this]; simp
      · rw [if_neg h, if_neg (by omega), if_neg h2]
def entry (vs : List Value) : Env := entryFrom 0 vs

/-- The results that a frame bears. -/
def ResV (P : Program) (fn : Func) (env : Env) (h : Heap) (v : Value) : Prop :=
  ∀ N φ tmps w, Rel P N φ env h tmps w → ∃ c, (results fn tmps).run P w = .ok c w ∧ VRel φ h.next v c

theorem ResV.tmp {P : Program} {fn : Func} {env : Env} {h : Heap} {t : Tmp} (hr : fn.results = #[.tmp t]) : ResV P fn env h (env.get t) := by
  intro N φ tmps w r
  refine ⟨tmps.getD t undef, ?_, r.env t⟩
  simp [results, hr]
theorem ResV.none {P : Program} {fn : Func} {env : Env} {h : Heap} (hr : fn.results = #[]) : ResV P fn env h (.tuple #[]) := by
  intro N φ tmps w r
  exact ⟨.tuple #[], by simp [results, hr], .und _⟩
theorem VRel.tuple2 {φ : Ren} {n : Nat} {a b a' b' : Value} (h1 : VRel φ n a a') (h2 : VRel φ n b b') : VRel φ n (.tuple #[a, b]) (.tuple #[a', b']) := by
  refine .tuple _ _ rfl fun k x y hx hy => ?_
  match k with
  | 0 => simp at hx hy; subst hx hy; exact h1
  | 1 => simp at hx hy; subst hx hy; exact h2
  | k + 2 => simp at hx
theorem VRel.tuple3 {φ : Ren} {n : Nat} {a b c a' b' c' : Value} (h1 : VRel φ n a a') (h2 : VRel φ n b b') (h3 : VRel φ n c c') : VRel φ n (.tuple #[a, b, c]) (.tuple #[a', b', c']) := by
  refine .tuple _ _ rfl fun k x y hx hy => ?_
  match k with
  | 0 => simp at hx hy; subst hx hy; exact h1
  | 1 => simp at hx hy; subst hx hy; exact h2
  | 2 => simp at hx hy; subst hx hy; exact h3
  | k + 3 => simp at hx
theorem ResV.tmp2 {P : Program} {fn : Func} {env : Env} {h : Heap} {t u : Tmp} (hr : fn.results = #[.tmp t, .tmp u]) : ResV P fn env h (.tuple #[env.get t, env.get u]) := by
  intro N φ tmps w r
  refine ⟨.tuple #[tmps.getD t undef, tmps.getD u undef], ?_, .tuple2 (r.env t) (r.env u)⟩
  simp [results, hr]
theorem ResV.tmp3 {P : Program} {fn : Func} {env : Env} {h : Heap} {t u s : Tmp} (hr : fn.results = #[.tmp t, .tmp u, .tmp s]) : ResV P fn env h (.tuple #[env.get t, env.get u, env.get s]) := by
  intro N φ tmps w r
  refine ⟨.tuple #[tmps.getD t undef, tmps.getD u undef, tmps.getD s undef], ?_, .tuple3 (r.env t) (r.env u) (r.env s)⟩
  simp [results, hr]

@[reducible] def endQ (K : Env → Heap → Prop) : Exit → Env → Heap → Prop
  | .normal, e, h => K e h
  | .ret, e, h => K e h
  | _, _, _ => False

/-- A function's body, walked: whatever it leaves. -/
theorem ACalls.body {P : Program} {f : FuncId} {fn : Func} {c : Code} {args : List Value} {h : Heap} {Q : Value → Heap → Prop} (hf : P.funcs[f]? = some fn) (hb : fn.body = some c) (hn : Nat.ble args.length fn.ntmps = true)
    (p : AWp P fn.ntmps c (endQ fun env h' => ∃ v, ResV P fn env h' v ∧ Q v h') (entry args) h) : ACalls P f args h Q := by
  intro φ w cargs s va
  have hn := Nat.le_of_ble_eq_true hn
  refine calls_of_wp hf hb (wp_mono (p φ _ w rfl ⟨s, ?_, ?_⟩) ?_)
  · have := va.length
    simp; omega
  · intro t
    unfold entry
    rw [entryFrom_get]
    simp only [Nat.zero_le, if_true, Nat.sub_zero]
    have h1 := va.at t
    have hlen := va.length
    by_cases ht : t < cargs.length
    · have e : (cargs.toArray ++ Array.replicate (fn.ntmps - cargs.toArray.size) undef).getD t undef = cargs.getD t undef := by
        simp [Array.getD_eq_getD_getElem?, Array.getElem?_append, ht]
      rw [e]; exact h1
    · have e : args.getD t undef = undef := by simp [List.getD_eq_getElem?_getD, List.getElem?_eq_none (show args.length ≤ t by omega)]
      rw [e]; exact .und _
  · intro ex a' w' hp
    cases ex with
    | normal =>
      obtain ⟨e, h2, φ2, ⟨v, hv, q⟩, d, r, t⟩ := hp
      obtain ⟨cv, hc, hvr⟩ := hv _ _ _ _ r
      exact ⟨d, cv, hc, v, h2, φ2, q, hvr, r.sim, t⟩
    | ret =>
      obtain ⟨e, h2, φ2, ⟨v, hv, q⟩, d, r, t⟩ := hp
      obtain ⟨cv, hc, hvr⟩ := hv _ _ _ _ r
      exact ⟨d, cv, hc, v, h2, φ2, q, hvr, r.sim, t⟩
    | _ => obtain ⟨e, h2, φ2, k, _⟩ := hp; exact k.elim

/-- A call that leaves nothing behind: the heap is the elder one. -/
theorem ACalls.reset {P : Program} {f : FuncId} {args : List Value} {h : Heap} {Q : Value → Heap → Prop} (p : ACalls P f args h fun v h' => scalar v = true ∧ Ext h h' ∧ Q v h) : ACalls P f args h Q :=
  fun φ w cargs s va => (p φ w cargs s va).mono fun e w' hr => by
    cases e with
    | returned c =>
      obtain ⟨v, h', φ', ⟨hs, hx, q⟩, r1, r2, r3⟩ := hr
      refine ⟨v, h, φ', q, ?_, s.reset r2 r3.agree hx, r3.reset hx⟩
      exact r1.lower (VRel.of_scalar (φ := φ) (n := h.next) hs)
    | _ => exact hr
end Go.Eng

/-
  The engine, part D: a region's operations, one behind the other.
-/
namespace Go.Eng
open Go

theorem letsOut_mono {Q Q' : Exit → Act → World → Prop} (hq : ∀ e a w, Q e a w → Q' e a w) (l : LetsOut Q) : LetsOut Q' := by
  obtain ⟨a, w, k⟩ := l
  exact ⟨a, w, hq _ _ _ k⟩
theorem upon_mono {P : Program} {o : Oper} {a : Act} {next next' : Act → World → Prop} {Q Q' : Exit → Act → World → Prop} (hn : ∀ a w, next a w → next' a w) (hq : ∀ e a w, Q e a w → Q' e a w) :
    ∀ r, o.upon P a next Q r → o.upon P a next' Q' r := by
  intro r hr
  unfold Oper.upon at hr ⊢
  split at hr
  · exact hn _ _ hr
  · exact hn _ _ hr
  · exact hn _ _ hr
  · refine hr.mono fun e w' k => ?_
    cases e with
    | returned v => exact hn _ _ k
    | panicked c => exact hq _ _ _ k
    | outgrown => exact letsOut_mono hq k
  · exact hr.mono fun _ _ k => hn _ _ k
  · exact hq _ _ _ hr
  · exact hr.elim
theorem wpList_mono {P : Program} {ops : Array Oper} {Q Q' : Exit → Act → World → Prop} (hq : ∀ e a w, Q e a w → Q' e a w) : ∀ (l : List Oper) (a : Act) (w : World), wpList P ops Q l a w → wpList P ops Q' l a w
  | [], _, _, p => hq _ _ _ p
  | o :: rest, a, w, p => by
    simp only [wpList] at p ⊢
    split
    · rename_i hw
      rw [if_pos hw] at p
      rcases p with p | ⟨p1, p2⟩
      · exact .inl (upon_mono (wpList_mono hq rest) hq _ p)
      · exact .inr ⟨p1, letsOut_mono hq p2⟩
    · rename_i hw
      rw [if_neg hw] at p
      exact wpList_mono hq rest _ _ p

/-- The operations that are left of a region. -/
def AL (P : Program) (N : Nat) (ops : Array Oper) (l : List Oper) (Q : Exit → Env → Heap → Prop) (env : Env) (h : Heap) : Prop :=
  ∀ φ a w, a.defers = [] → Rel P N φ env h a.tmps w → wpList P ops (fun ex a' w' => Post P N φ h w (Q ex) a' w') l a w
/-- One operation: what it yields, and the heap behind it. -/
structure RelO (P : Program) (φ : Ren) (ρ : Operand → Value) (o : Oper) (h : Heap) (a : Act) (w : World) : Prop where
  sim : Sim P φ h w
  ev : ∀ x, x ∈ o.op.operands → VRel φ h.next (ρ x) (a.eval x)
def AOp (P : Program) (o : Oper) (ρ : Operand → Value) (h : Heap) (K : Value → Heap → Prop) : Prop :=
  ∀ φ a w, RelO P φ ρ o h a w → ∀ (next : Act → World → Prop) (Qc : Exit → Act → World → Prop),
    (∀ c w' φ' h' v, K v h' → VRel φ' h'.next v c → Sim P φ' h' w' → Step φ h w φ' h' w' → next (a.put o.dst c) w') → o.wp P a w next Qc
def dstB (N : Nat) : Option Tmp → Bool
  | none => true
  | some d => Nat.blt d N

variable {P : Program} {N : Nat} {ops : Array Oper} {rest : List Oper} {o : Oper} {Q : Exit → Env → Heap → Prop} {env : Env} {ρ : Operand → Value} {h : Heap} {K : Value → Heap → Prop}

theorem dstB_lt {d : Option Tmp} (hd : dstB N d = true) : ∀ t, d = some t → t < N := by
  rintro t rfl
  simpa [dstB, Nat.blt_eq] using hd
theorem AWp.region {id : Nat} (p : AL P N ops ops.toList Q env h) : AWp P N (.region id ops false) Q env h :=
  fun φ a w hd r => wp_region_list (p φ a w hd r)
theorem AL.nil (k : Q .normal env h) : AL P N ops [] Q env h := fun _ _ _ hd r => Post.now k hd r
theorem put_defers (a : Act) (d : Option Tmp) (c : Value) : (a.put d c).defers = a.defers := by cases d <;> rfl
def gv (ops : Array Oper) (env : Env) (o : Oper) : Option Bool :=
  match o.guard with
  | none => some true
  | some (j, want) => match (ops[j]?).bind (·.dst) with
    | some t => match env.get t with
      | .bool b => some (b == want)
      | .chan none => some false
      | _ => none
    | none => none

theorem wanted_of {φ : Ren} {env : Env} {h : Heap} {tmps : Array Value} {w : World} {o : Oper} {b : Bool} (r : Rel P N φ env h tmps w) (hg : gv ops env o = some b) : Region.wanted o (yielded ops tmps) = b := by
  unfold gv at hg
  unfold Region.wanted
  cases hgd : o.guard with
  | none => rw [hgd] at hg; simpa using hg
  | some jw =>
    obtain ⟨j, want⟩ := jw
    rw [hgd] at hg
    simp only at hg ⊢
    cases hj : (ops[j]?).bind (·.dst) with
    | none => rw [hj] at hg; simp at hg
    | some t =>
      rw [hj] at hg
      simp only at hg
      cases hv : env.get t with
      | bool x =>
        rw [hv] at hg
        simp only [Option.some.injEq] at hg
        have h1 := r.env t
        rw [hv] at h1
        have h2 := h1.bool_inv
        have ht : t < tmps.size := by
          rcases Nat.lt_or_ge t tmps.size with hl | hl
          · exact hl
          · rw [Array.getD_eq_getD_getElem?, Array.getElem?_eq_none hl] at h2
            simp [undef] at h2
        have h3 : tmps[t]? = some (.bool x) := by
          rw [Array.getElem?_eq_getElem ht]
          rw [← h2]
          simp [Array.getD_eq_getD_getElem?, Array.getElem?_eq_getElem ht]
        simp only [yielded, hj, Option.bind_some, h3]
        rw [← hg]
        cases x <;> cases want <;> rfl
      | chan x =>
        cases x with
        | some x => rw [hv] at hg; simp at hg
        | none =>
          rw [hv] at hg
          simp only [Option.some.injEq] at hg
          have h1 := r.env t
          rw [hv] at h1
          have h2 := h1.skip_inv
          rw [← hg]
          simp only [yielded, hj, Option.bind_some]
          rw [Array.getD_eq_getD_getElem?] at h2
          cases h3 : tmps[t]? with
          | none => rfl
          | some u => rw [h3] at h2; simp only [Option.getD_some] at h2; rw [h2]; rfl
      | _ => rw [hv] at hg; simp at hg

theorem AL.set {d : Tmp} {op : Op} {ty : TypeId} {pos : String} {aft : Array Edge} {g : Option (Nat × Bool)} (hd : Nat.blt d N = true) (hg : gv ops env ⟨some d, op, ty, pos, aft, g⟩ = some true)
    (p : AOp P ⟨some d, op, ty, pos, aft, g⟩ (ev P env) h fun v h' => AL P N ops rest Q ((d, v) :: env) h') : AL P N ops (⟨some d, op, ty, pos, aft, g⟩ :: rest) Q env h := by
  intro φ a w hdf r
  simp only [wpList, wanted_of r hg, if_true]
  refine .inl (p φ a w ⟨r.sim, fun x _ => r.ev x⟩ _ _ fun c w' φ' h' v k vr s st => ?_)
  exact wpList_mono (fun _ _ _ hp => hp.trans st) _ _ _ (k φ' _ w' (by rw [put_defers]; exact hdf) ((r.step s st).put (some d) (dstB_lt hd) vr))
theorem AL.eff {op : Op} {ty : TypeId} {pos : String} {aft : Array Edge} {g : Option (Nat × Bool)} (hg : gv ops env ⟨none, op, ty, pos, aft, g⟩ = some true) (p : AOp P ⟨none, op, ty, pos, aft, g⟩ (ev P env) h fun _ h' => AL P N ops rest Q env h') :
    AL P N ops (⟨none, op, ty, pos, aft, g⟩ :: rest) Q env h := by
  intro φ a w hdf r
  simp only [wpList, wanted_of r hg, if_true]
  refine .inl (p φ a w ⟨r.sim, fun x _ => r.ev x⟩ _ _ fun c w' φ' h' v k vr s st => ?_)
  exact wpList_mono (fun _ _ _ hp => hp.trans st) _ _ _ (k φ' _ w' (by rw [put_defers]; exact hdf) (r.step s st))
theorem AL.skip {d : Option Tmp} {op : Op} {ty : TypeId} {pos : String} {aft : Array Edge} {g : Option (Nat × Bool)} (hd : dstB N d = true) (hg : gv ops env ⟨d, op, ty, pos, aft, g⟩ = some false)
    (p : AL P N ops rest Q (env.put d skipV) h) : AL P N ops (⟨d, op, ty, pos, aft, g⟩ :: rest) Q env h := by
  intro φ a w hdf r
  simp only [wpList, wanted_of r hg, Bool.false_eq_true, if_false]
  exact p φ _ w (by rw [put_defers]; exact hdf) (r.put d (dstB_lt hd) .skip)
theorem AL.heap {l : List Oper} {h' : Heap} (e : h' = h) (p : AL P N ops l Q env h) : AL P N ops l Q env h' := e ▸ p
theorem AWp.heap {c : Code} {h' : Heap} (e : h' = h) (p : AWp P N c Q env h) : AWp P N c Q env h' := e ▸ p
theorem AOp.of_run (p : ∀ φ (a : Act) w, RelO P φ ρ o h a w → ∃ c w' φ' h' v, (execOp a.eval o).run P w = .ok (.value c) w' ∧ K v h' ∧ VRel φ' h'.next v c ∧ Sim P φ' h' w' ∧ Step φ h w φ' h' w') : AOp P o ρ h K := by
  intro φ a w r next Qc kk
  obtain ⟨c, w', φ', h', v, hr, k, v1, s, st⟩ := p φ a w r
  unfold Oper.wp
  rw [hr]
  exact kk c w' φ' h' v k v1 s st
theorem AOp.of_skip (p : ∀ φ (a : Act) w, RelO P φ ρ o h a w → ∃ w' φ' h', (execOp a.eval o).run P w = .ok .skip w' ∧ K undef h' ∧ Sim P φ' h' w' ∧ Step φ h w φ' h' w') : AOp P o ρ h K := by
  intro φ a w r next Qc kk
  obtain ⟨w', φ', h', hr, k, s, st⟩ := p φ a w r
  unfold Oper.wp
  rw [hr]
  exact kk undef w' φ' h' undef k (.und _) s st
theorem AOp.of_pure {v : Value} (k : K v h) (p : ∀ φ (a : Act) w, RelO P φ ρ o h a w → ∃ c, (execOp a.eval o).run P w = .ok (.value c) w ∧ VRel φ h.next v c) : AOp P o ρ h K :=
  .of_run fun φ a w r => by
    obtain ⟨c, hr, hv⟩ := p φ a w r
    exact ⟨c, w, φ, h, v, hr, k, hv, r.sim, Step.refl _ _ _⟩

/-- A type's text; what its values take, and its zero. -/
class TyD (P : Program) (t : TypeId) (d : outParam TypeDesc) : Prop where
  eq : P.underlying t = some d
class TyI (P : Program) (t : TypeId) (size bytes : outParam Nat) (zero : outParam Value) : Prop where
  ex : ∃ i, P.info? t = some i ∧ i.size = size ∧ i.bytes = bytes ∧ i.zero = some zero
  sz : zero.cells.size = size
  plain : zero.cells.toList.all scalar = true
theorem rep_plain (n : Nat) {z : Value} (hz : scalar z = true) : (Value.agg (Array.replicate n z)).cells.toList.all scalar = true := by
  show (Array.replicate n z).toList.all scalar = true
  rw [Array.toList_replicate]
  exact List.all_eq_true.2 fun v hv => by rw [List.eq_of_mem_replicate hv]; exact hz
theorem info_of {P : Program} {t : TypeId} {s b : Nat} {z : Value} (h : (P.info? t).map (fun i => (i.size, i.bytes, i.zero)) = some (s, b, some z)) : ∃ i, P.info? t = some i ∧ i.size = s ∧ i.bytes = b ∧ i.zero = some z := by
  cases hi : P.info? t with
  | none => rw [hi] at h; cases h
  | some i =>
    rw [hi] at h
    simp only [Option.map_some, Option.some.injEq, Prod.mk.injEq] at h
    exact ⟨i, rfl, h.1, h.2.1, h.2.2⟩
theorem TyI.size {t : TypeId} {s b : Nat} {z : Value} [k : TyI P t s b z] (w : World) : (sizeOf t).run P w = .ok s w := by
  obtain ⟨i, h1, h2, h3, h4⟩ := k.ex
  simp [sizeOf, typeInfo, h1, h2]
theorem TyI.zero {t : TypeId} {s b : Nat} {z : Value} [k : TyI P t s b z] (w : World) : (zeroValue t).run P w = .ok z w := by
  obtain ⟨i, h1, h2, h3, h4⟩ := k.ex
  simp [zeroValue, typeInfo, h1, h4]
theorem TyI.info {t : TypeId} {s b : Nat} {z : Value} [k : TyI P t s b z] (w : World) : ∃ i : TypeInfo, (typeInfo t).run P w = .ok i w ∧ i.size = s ∧ i.bytes = b ∧ i.zero = some z := by
  obtain ⟨i, h1, h2, h3, h4⟩ := k.ex
  exact ⟨i, by simp [typeInfo, h1], h2, h3, h4⟩
theorem TyD.run {t : TypeId} {d : TypeDesc} [k : TyD P t d] (w : World) : (underlying t).run P w = .ok d w := run_underlying k.eq w
def aggB : TypeDesc → Bool
  | .struct _ | .array _ _ => true
  | _ => false
theorem TyD.isAgg {t : TypeId} {d : TypeDesc} [k : TyD P t d] (w : World) : (isAgg t).run P w = .ok (aggB d) w := by
  simp only [Go.isAgg, Sem.run_bind, k.run, Result.andThen_ok]
  cases d <;> rfl

section pureops
variable {dst : Option Tmp} {ty : TypeId} {pos : String} {aft : Array Edge} {g : Option (Nat × Bool)}
theorem op_move {x : Operand} {v : Value} (hx : ρ x = v) (k : K v h) : AOp P ⟨dst, .move x, ty, pos, aft, g⟩ ρ h K :=
  .of_pure k fun φ a w r => ⟨a.eval x, by simp [execOp], hx ▸ r.ev x (by simp [Op.operands])⟩
theorem op_assign {x : Operand} {v : Value} (hx : ρ x = v) (k : K v h) : AOp P ⟨dst, .assign x, ty, pos, aft, g⟩ ρ h K :=
  .of_pure k fun φ a w r => ⟨a.eval x, by simp [execOp], hx ▸ r.ev x (by simp [Op.operands])⟩
theorem op_moveI {x : Operand} {i : IntKind} {a : Int} (hx : ρ x = .int i a) (k : K (.int i a) h) : AOp P ⟨dst, .move x, ty, pos, aft, g⟩ ρ h K := op_move hx k
theorem op_assignI {x : Operand} {i : IntKind} {a : Int} (hx : ρ x = .int i a) (k : K (.int i a) h) : AOp P ⟨dst, .assign x, ty, pos, aft, g⟩ ρ h K := op_assign hx k
theorem op_moveS {x : Operand} {p : Option Addr} {n c : Nat} (hx : ρ x = .slice p n c) (k : K (.slice p n c) h) : AOp P ⟨dst, .move x, ty, pos, aft, g⟩ ρ h K := op_move hx k
theorem op_assignS {x : Operand} {p : Option Addr} {n c : Nat} (hx : ρ x = .slice p n c) (k : K (.slice p n c) h) : AOp P ⟨dst, .assign x, ty, pos, aft, g⟩ ρ h K := op_assign hx k
theorem op_moveB {x : Operand} {b : Bool} (hx : ρ x = .bool b) (k : K (.bool b) h) : AOp P ⟨dst, .move x, ty, pos, aft, g⟩ ρ h K := op_move hx k
theorem op_assignB {x : Operand} {b : Bool} (hx : ρ x = .bool b) (k : K (.bool b) h) : AOp P ⟨dst, .assign x, ty, pos, aft, g⟩ ρ h K := op_assign hx k
theorem op_moveP {x : Operand} {p : Option Addr} (hx : ρ x = .pointer p) (k : K (.pointer p) h) : AOp P ⟨dst, .move x, ty, pos, aft, g⟩ ρ h K := op_move hx k
theorem op_assignP {x : Operand} {p : Option Addr} (hx : ρ x = .pointer p) (k : K (.pointer p) h) : AOp P ⟨dst, .assign x, ty, pos, aft, g⟩ ρ h K := op_assign hx k
theorem op_moveStr {x : Operand} {p : ByteArray} (hx : ρ x = .string p) (k : K (.string p) h) : AOp P ⟨dst, .move x, ty, pos, aft, g⟩ ρ h K := op_move hx k
theorem op_assignStr {x : Operand} {p : ByteArray} (hx : ρ x = .string p) (k : K (.string p) h) : AOp P ⟨dst, .assign x, ty, pos, aft, g⟩ ρ h K := op_assign hx k
theorem op_moveA {x : Operand} {p : Array Value} (hx : ρ x = .agg p) (k : K (.agg p) h) : AOp P ⟨dst, .move x, ty, pos, aft, g⟩ ρ h K := op_move hx k
theorem op_assignA {x : Operand} {p : Array Value} (hx : ρ x = .agg p) (k : K (.agg p) h) : AOp P ⟨dst, .assign x, ty, pos, aft, g⟩ ρ h K := op_assign hx k
theorem op_moveT {x : Operand} {p : Array Value} (hx : ρ x = .tuple p) (k : K (.tuple p) h) : AOp P ⟨dst, .move x, ty, pos, aft, g⟩ ρ h K := op_move hx k
theorem op_moveF {x : Operand} {f : Fn} {p q : Array Value} (hx : ρ x = .func f p q) (k : K (.func f p q) h) : AOp P ⟨dst, .move x, ty, pos, aft, g⟩ ρ h K := op_move hx k
theorem op_assignF {x : Operand} {f : Fn} {p q : Array Value} (hx : ρ x = .func f p q) (k : K (.func f p q) h) : AOp P ⟨dst, .assign x, ty, pos, aft, g⟩ ρ h K := op_assign hx k
theorem op_pick {c x y : Operand} {b : Bool} {v : Value} (hc : ρ c = .bool b) (hx : (bif b then ρ x else ρ y) = v) (k : K v h) : AOp P ⟨dst, .pick c x y, ty, pos, aft, g⟩ ρ h K :=
  .of_pure k fun φ a w r => by
    have h1 := r.ev c (by simp [Op.operands])
    rw [hc] at h1
    have h2 := h1.bool_inv
    refine ⟨if b then a.eval x else a.eval y, by simp [execOp, h2, asBool], ?_⟩
    subst hx
    cases b
    · exact r.ev y (by simp [Op.operands])
    · exact r.ev x (by simp [Op.operands])
end pureops
end Go.Eng

/-
  The engine, part E: operations on plain values.
-/
namespace Go.Eng
open Go

variable {P : Program} {ρ : Operand → Value} {h : Heap} {K : Value → Heap → Prop} {dst : Option Tmp} {ty : TypeId} {pos : String} {aft : Array Edge} {g : Option (Nat × Bool)}

/-- Two integers. -/
def binI (op : BinOp) (k : IntKind) (a : Int) (k' : IntKind) (b : Int) : Option Value :=
  match op with
  | .shl => if b < 0 then none else some (.int k (k.wrap (a * 2 ^ min b.toNat k.bits)))
  | .shr => if b < 0 then none else some (.int k (a.fdiv (2 ^ min b.toNat k.bits)))
  | .add => if k = k' then some (.int k (k.wrap (a + b))) else none
  | .sub => if k = k' then some (.int k (k.wrap (a - b))) else none
  | .mul => if k = k' then some (.int k (k.wrap (a * b))) else none
  | .quo => if k = k' then (if b = 0 then none else some (.int k (k.wrap (a.tdiv b)))) else none
  | .rem => if k = k' then (if b = 0 then none else some (.int k (a.tmod b))) else none
  | .and => if k = k' then some (.int k (k.wrap (BitVec.ofInt k.bits a &&& BitVec.ofInt k.bits b).toNat)) else none
  | .or => if k = k' then some (.int k (k.wrap (BitVec.ofInt k.bits a ||| BitVec.ofInt k.bits b).toNat)) else none
  | .xor => if k = k' then some (.int k (k.wrap (BitVec.ofInt k.bits a ^^^ BitVec.ofInt k.bits b).toNat)) else none
  | .andNot => if k = k' then some (.int k (k.wrap (BitVec.ofInt k.bits a &&& ~~~BitVec.ofInt k.bits b).toNat)) else none
  | .eql => if k = k' then some (.bool (decide (a = b))) else none
  | .neq => if k = k' then some (.bool (decide (a ≠ b))) else none
  | .lss => if k = k' then some (.bool (decide (a < b))) else none
  | .leq => if k = k' then some (.bool (decide (a ≤ b))) else none
  | .gtr => if k = k' then some (.bool (decide (b < a))) else none
  | .geq => if k = k' then some (.bool (decide (b ≤ a))) else none

theorem run_binI {op : BinOp} {t : TypeId} {k k' : IntKind} {a b : Int} {v : Value} (w : World) (hv : binI op k a k' b = some v) : (binOp op t (.int k a) (.int k' b)).run P w = .ok v w := by
  cases op <;> simp only [binI] at hv <;>
    first
    | (split at hv
       · rename_i hk; subst hk
         first
         | (split at hv
            · cases hv
            · rename_i hb; cases hv; simp [binOp, Op.intDiv, hb])
         | (cases hv; simp [binOp, Op.intArith, Op.intBits, Op.intCmp]; done)
         | (cases hv; simp [binOp, Op.intCmp]; rfl)
         | (cases hv; simp [binOp, Op.intArith, Op.intBits, Op.intCmp, bne]; by_cases hq : a = b <;> simp [hq])
       · cases hv)
    | (split at hv
       · cases hv
       · rename_i hb; cases hv; simp [binOp, Op.shift, hb])

theorem run_eqGuard_int {op : BinOp} {t : TypeId} {x y : Operand} {k k' : IntKind} {a b : Int} (w : World) : (eqGuard op t x y (.int k a) (.int k' b)).run P w = .ok () w := by
  cases op <;> simp [eqGuard]

theorem op_int {op : BinOp} {t t' : TypeId} {x y : Operand} {k k' : IntKind} {a b : Int} {v : Value} (hx : ρ x = .int k a) (hy : ρ y = .int k' b) (hv : binI op k a k' b = some v) (kk : K v h) :
    AOp P ⟨dst, .binOp op t x y t', ty, pos, aft, g⟩ ρ h K :=
  .of_run fun φ ac w r => by
    have h1 := hx ▸ r.ev x (by simp [Op.operands])
    have h2 := hy ▸ r.ev y (by simp [Op.operands])
    have e1 := h1.int_inv
    have e2 := h2.int_inv
    refine ⟨v, w, φ, h, v, ?_, kk, ?_, r.sim, Step.refl _ _ _⟩
    · simp [execOp, e1, e2, run_eqGuard_int, run_binI w hv]
    · refine .of_scalar ?_
      cases op <;> simp only [binI] at hv <;> (repeat' split at hv) <;> cases hv <;> rfl

/-- Two bools. -/
theorem run_equalIn_bool {t : TypeId} [ti : TyD P t .bool] (a b : Bool) (w : World) (d : Nat) : (Op.equalIn (d + 1) t (.bool a) (.bool b)).run P w = .ok (a == b) w := by
  simp [Op.equalIn, ti.run]
theorem run_equal_bool {t : TypeId} [ti : TyD P t .bool] (a b : Bool) (w : World) : (Op.equal t (.bool a) (.bool b)).run P w = .ok (a == b) w := run_equalIn_bool a b w 9999
theorem op_boolEq {t t' : TypeId} {x y : Operand} {a b : Bool} [ti : TyD P t .bool] (hx : ρ x = .bool a) (hy : ρ y = .bool b) (kk : K (.bool (a == b)) h) :
    AOp P ⟨dst, .binOp .eql t x y t', ty, pos, aft, g⟩ ρ h K :=
  .of_pure kk fun φ ac w r => by
    have h1 := hx ▸ r.ev x (by simp [Op.operands])
    have h2 := hy ▸ r.ev y (by simp [Op.operands])
    have e1 := h1.bool_inv
    have e2 := h2.bool_inv
    refine ⟨_, ?_, .bool _⟩
    simp [execOp, e1, e2, eqGuard, binOp, run_equal_bool]
theorem op_boolNe {t t' : TypeId} {x y : Operand} {a b : Bool} [ti : TyD P t .bool] (hx : ρ x = .bool a) (hy : ρ y = .bool b) (kk : K (.bool (a != b)) h) :
    AOp P ⟨dst, .binOp .neq t x y t', ty, pos, aft, g⟩ ρ h K :=
  .of_pure kk fun φ ac w r => by
    have h1 := hx ▸ r.ev x (by simp [Op.operands])
    have h2 := hy ▸ r.ev y (by simp [Op.operands])
    have e1 := h1.bool_inv
    have e2 := h2.bool_inv
    refine ⟨_, ?_, .bool _⟩
    simp [execOp, e1, e2, eqGuard, binOp, run_equal_bool, bne]

/-- Two strings, compared. -/
def strB (op : BinOp) (x y : ByteArray) : Option Bool :=
  match op with
  | .eql => some (x.toList == y.toList)
  | .neq => some (!(x.toList == y.toList))
  | .lss => some (Op.bytesLess x.toList y.toList)
  | .leq => some (Op.bytesLess x.toList y.toList || x.toList == y.toList)
  | .gtr => some (!(Op.bytesLess x.toList y.toList || x.toList == y.toList))
  | .geq => some (!(Op.bytesLess x.toList y.toList))
  | _ => none
theorem op_strB {op : BinOp} {t t' : TypeId} {x y : Operand} {a b : ByteArray} {c : Bool} (hx : ρ x = .string a) (hy : ρ y = .string b) (hc : strB op a b = some c) (kk : K (.bool c) h) :
    AOp P ⟨dst, .binOp op t x y t', ty, pos, aft, g⟩ ρ h K :=
  .of_pure kk fun φ ac w r => by
    have h1 := hx ▸ r.ev x (by simp [Op.operands])
    have h2 := hy ▸ r.ev y (by simp [Op.operands])
    have e1 := h1.string_inv
    have e2 := h2.string_inv
    refine ⟨_, ?_, .bool _⟩
    cases op <;> simp only [strB, Option.some.injEq, reduceCtorEq] at hc <;> subst hc <;> simp [execOp, e1, e2, eqGuard, binOp, Op.stringOp]
theorem op_strAdd {t t' : TypeId} {x y : Operand} {a b : ByteArray} (hx : ρ x = .string a) (hy : ρ y = .string b) (hs : a.size + b.size ≤ maxLen) (kk : K (.string (a ++ b)) h) :
    AOp P ⟨dst, .binOp .add t x y t', ty, pos, aft, g⟩ ρ h K :=
  .of_pure kk fun φ ac w r => by
    have h1 := hx ▸ r.ev x (by simp [Op.operands])
    have h2 := hy ▸ r.ev y (by simp [Op.operands])
    have e1 := h1.string_inv
    have e2 := h2.string_inv
    refine ⟨_, ?_, .string _⟩
    have hm : ¬ (IntKind.i64.max < (a.size : Int) + (b.size : Int)) := by
      have : IntKind.i64.max = 9223372036854775807 := rfl
      simp only [maxLen] at hs
      omega
    have hr : (Op.stringOp .add a b).run P w = .ok (.string (a ++ b)) w := by
      simp only [Op.stringOp]
      rw [if_neg (by push_cast; exact hm)]
      rfl
    simp [execOp, e1, e2, eqGuard, binOp, hr]

/-- One integer, one bool. -/
theorem op_not {t : TypeId} {x : Operand} {b : Bool} (hx : ρ x = .bool b) (kk : K (.bool (!b)) h) : AOp P ⟨dst, .unOp .not t x, ty, pos, aft, g⟩ ρ h K :=
  .of_pure kk fun φ ac w r => by
    have h1 := hx ▸ r.ev x (by simp [Op.operands])
    have e1 := h1.bool_inv
    exact ⟨_, by simp [execOp, e1, Op.unary], .bool _⟩
theorem op_neg {t : TypeId} {x : Operand} {k : IntKind} {a : Int} (hx : ρ x = .int k a) (kk : K (.int k (k.wrap (0 - a))) h) : AOp P ⟨dst, .unOp .neg t x, ty, pos, aft, g⟩ ρ h K :=
  .of_pure kk fun φ ac w r => by
    have h1 := hx ▸ r.ev x (by simp [Op.operands])
    have e1 := h1.int_inv
    exact ⟨_, by simp [execOp, e1, Op.unary, Op.intArith], .int _ _⟩
theorem op_com {t : TypeId} {x : Operand} {k : IntKind} {a : Int} (hx : ρ x = .int k a)
    (kk : K (.int k (k.wrap (BitVec.ofInt k.bits (if k.signed then -1 else k.max) ^^^ BitVec.ofInt k.bits a).toNat)) h) : AOp P ⟨dst, .unOp .xor t x, ty, pos, aft, g⟩ ρ h K :=
  .of_pure kk fun φ ac w r => by
    have h1 := hx ▸ r.ev x (by simp [Op.operands])
    have e1 := h1.int_inv
    exact ⟨_, by simp [execOp, e1, Op.unary, Op.intBits], .int _ _⟩
theorem op_convI {s d : TypeId} {x : Operand} {k k' ks : IntKind} {a : Int} [ts : TyD P s (.int ks)] [td : TyD P d (.int k')] (hx : ρ x = .int k a) (kk : K (.int k' (k'.wrap a)) h) :
    AOp P ⟨dst, .convert s d x, ty, pos, aft, g⟩ ρ h K :=
  .of_pure kk fun φ ac w r => by
    have h1 := hx ▸ r.ev x (by simp [Op.operands])
    have e1 := h1.int_inv
    exact ⟨_, by simp [execOp, e1, convert, ts.run, td.run, Conv.intToInt], .int _ _⟩
theorem op_extract {x : Operand} {i : Nat} {vs : Array Value} {v : Value} (hx : ρ x = .tuple vs) (hv : vs[i]? = some v) (kk : K v h) : AOp P ⟨dst, .extract x i, ty, pos, aft, g⟩ ρ h K :=
  .of_pure kk fun φ ac w r => by
    have h1 := hx ▸ r.ev x (by simp [Op.operands])
    have hi : i < vs.size := (Array.getElem?_eq_some_iff.1 hv).1
    obtain ⟨vs', e1, hs, hr⟩ := h1.tuple_inv (by omega)
    have hi' : i < vs'.size := by omega
    exact ⟨vs'[i], by simp [execOp, e1, Instr.extract, Array.getElem?_eq_getElem hi'], hr i v _ hv (Array.getElem?_eq_getElem hi')⟩
theorem op_nilCheck {x : Operand} {i o : Nat} {s : Option Nat} (hx : ρ x = .pointer (some ⟨i, o, s⟩)) (kk : K (.pointer (some ⟨i, o, s⟩)) h) : AOp P ⟨dst, .nilCheck x, ty, pos, aft, g⟩ ρ h K :=
  .of_pure kk fun φ ac w r => by
    have h1 := hx ▸ r.ev x (by simp [Op.operands])
    obtain ⟨e0, _, e1⟩ := h1.ptr_inv
    exact ⟨_, by simp [execOp, e1], e1 ▸ h1⟩

/-- A test that is known. -/
theorem op_intT {op : BinOp} {t t' : TypeId} {x y : Operand} {k k' : IntKind} {a b : Int} {p : Prop} {ip : Decidable p} (hx : ρ x = .int k a) (hy : ρ y = .int k' b) (hv : binI op k a k' b = some (.bool (@decide p ip))) (hp : p) (kk : K (.bool true) h) :
    AOp P ⟨dst, .binOp op t x y t', ty, pos, aft, g⟩ ρ h K := op_int hx hy hv (by rw [decide_eq_true hp]; exact kk)
theorem op_intF {op : BinOp} {t t' : TypeId} {x y : Operand} {k k' : IntKind} {a b : Int} {p : Prop} {ip : Decidable p} (hx : ρ x = .int k a) (hy : ρ y = .int k' b) (hv : binI op k a k' b = some (.bool (@decide p ip))) (hp : ¬ p) (kk : K (.bool false) h) :
    AOp P ⟨dst, .binOp op t x y t', ty, pos, aft, g⟩ ρ h K := op_int hx hy hv (by rw [decide_eq_false hp]; exact kk)
/-- Sums that fit. -/
theorem op_add64 {t t' : TypeId} {x y : Operand} {a b : Int} (hx : ρ x = .int .i64 a) (hy : ρ y = .int .i64 b) (hr : -9223372036854775808 ≤ a + b ∧ a + b ≤ 9223372036854775807) (kk : K (.int .i64 (a + b)) h) :
    AOp P ⟨dst, .binOp .add t x y t', ty, pos, aft, g⟩ ρ h K :=
  op_int hx hy (v := .int .i64 (a + b)) (by simp only [binI, if_true]; congr 2; rw [IntKind.wrap_i64]; omega) kk
theorem op_sub64 {t t' : TypeId} {x y : Operand} {a b : Int} (hx : ρ x = .int .i64 a) (hy : ρ y = .int .i64 b) (hr : -9223372036854775808 ≤ a - b ∧ a - b ≤ 9223372036854775807) (kk : K (.int .i64 (a - b)) h) :
    AOp P ⟨dst, .binOp .sub t x y t', ty, pos, aft, g⟩ ρ h K :=
  op_int hx hy (v := .int .i64 (a - b)) (by simp only [binI, if_true]; congr 2; rw [IntKind.wrap_i64]; omega) kk
theorem op_mul64 {t t' : TypeId} {x y : Operand} {a b : Int} (hx : ρ x = .int .i64 a) (hy : ρ y = .int .i64 b) (hr : -9223372036854775808 ≤ a * b ∧ a * b ≤ 9223372036854775807) (kk : K (.int .i64 (a * b)) h) :
    AOp P ⟨dst, .binOp .mul t x y t', ty, pos, aft, g⟩ ρ h K :=
  op_int hx hy (v := .int .i64 (a * b)) (by simp only [binI, if_true]; congr 2; rw [IntKind.wrap_i64]; omega) kk
/-- Division of numbers that are not below zero. -/
theorem op_quo64 {t t' : TypeId} {x y : Operand} {a b : Int} (hx : ρ x = .int .i64 a) (hy : ρ y = .int .i64 b) (hr : 0 ≤ a ∧ a ≤ 9223372036854775807 ∧ 0 < b) (kk : K (.int .i64 (a / b)) h) :
    AOp P ⟨dst, .binOp .quo t x y t', ty, pos, aft, g⟩ ρ h K := by
  have h1 : a.tdiv b = a / b := Int.tdiv_eq_ediv_of_nonneg hr.1
  have h2 : 0 ≤ a / b := Int.ediv_nonneg hr.1 (by omega)
  have h3 : a / b ≤ a := Int.ediv_le_self b hr.1
  exact op_int hx hy (v := .int .i64 (a / b)) (by simp only [binI, if_true]; rw [if_neg (by omega), h1]; congr 2; rw [IntKind.wrap_i64]; omega) kk
theorem op_rem64 {t t' : TypeId} {x y : Operand} {k : IntKind} {a b : Int} (hx : ρ x = .int k a) (hy : ρ y = .int k b) (hr : 0 ≤ a ∧ 0 < b) (kk : K (.int k (a % b)) h) :
    AOp P ⟨dst, .binOp .rem t x y t', ty, pos, aft, g⟩ ρ h K :=
  op_int hx hy (v := .int k (a % b)) (by simp only [binI, if_true]; rw [if_neg (by omega), Int.tmod_eq_emod_of_nonneg hr.1]) kk
theorem op_conv64 {s d : TypeId} {x : Operand} {k ks : IntKind} {a : Int} [ts : TyD P s (.int ks)] [td : TyD P d (.int .i64)] (hx : ρ x = .int k a) (hr : -9223372036854775808 ≤ a ∧ a ≤ 9223372036854775807) (kk : K (.int .i64 a) h) :
    AOp P ⟨dst, .convert s d x, ty, pos, aft, g⟩ ρ h K :=
  op_convI hx (by rw [show IntKind.i64.wrap a = a from by rw [IntKind.wrap_i64]; omega]; exact kk)
end Go.Eng

/-
  The engine, part F: operations on memory.
-/
namespace Go.Eng
open Go

variable {P : Program} {ρ : Operand → Value} {h : Heap} {K : Value → Heap → Prop} {dst : Option Tmp} {ty : TypeId} {pos : String} {aft : Array Edge} {g : Option (Nat × Bool)}

theorem VRels.get {φ : Ren} {n : Nat} {xs cs : List Value} (r : VRels φ n xs cs) : ∀ {j : Nat} {x : Value}, xs[j]? = some x → ∃ c, cs[j]? = some c ∧ VRel φ n x c := by
  induction r with
  | nil => intro j x hj; simp at hj
  | cons hv _ ih =>
    intro j x hj
    cases j with
    | zero => simp at hj; subst hj; exact ⟨_, by simp, hv⟩
    | succ j => simpa using ih (by simpa using hj)
theorem VRels.of {φ : Ren} {n : Nat} : ∀ {xs : List Value} {cs : List Value}, xs.length = cs.length → (∀ (j : Nat) x y, xs[j]? = some x → cs[j]? = some y → VRel φ n x y) → VRels φ n xs cs
  | [], [], _, _ => .nil
  | x :: xs, c :: cs, hl, hr => .cons (hr 0 x c (by simp) (by simp)) (VRels.of (by simpa using hl) fun j a b ha hb => hr (j + 1) a b (by simpa using ha) (by simpa using hb))
  | [], c :: cs, hl, _ => by simp at hl
  | x :: xs, [], hl, _ => by simp at hl
theorem VRels.arr {φ : Ren} {n : Nat} {xs cs : List Value} (r : VRels φ n xs cs) : ∀ (k : Nat) x y, xs.toArray[k]? = some x → cs.toArray[k]? = some y → VRel φ n x y := by
  intro k x y hx hy
  obtain ⟨c, hc, hv⟩ := r.get (j := k) (x := x) (by simpa using hx)
  have : c = y := by simpa [hc] using hy
  exact this ▸ hv
theorem VRels.append {φ : Ren} {n : Nat} {xs cs ys ds : List Value} (a : VRels φ n xs cs) (b : VRels φ n ys ds) : VRels φ n (xs ++ ys) (cs ++ ds) := by
  induction a with
  | nil => exact b
  | cons hv _ ih => exact .cons hv ih
theorem VRels.scalars {φ : Ren} {n : Nat} : ∀ {xs : List Value}, xs.all scalar = true → VRels φ n xs xs
  | [], _ => .nil
  | x :: xs, hs => by
    simp only [List.all_cons, Bool.and_eq_true] at hs
    exact .cons (.of_scalar hs.1) (VRels.scalars hs.2)
theorem VRels.mono {φ φ' : Ren} {n n' : Nat} (ha : ∀ i, i < n → φ' i = φ i) (hn : n ≤ n') {xs cs : List Value} (r : VRels φ n xs cs) : VRels φ' n' xs cs := by
  induction r with
  | nil => exact .nil
  | cons hv _ ih => exact .cons (hv.mono ha hn) ih

/-- The cells of a known block, read in a row. -/
theorem Sim.row {φ : Ren} {w : World} (s : Sim P φ h w) {i : Nat} {b : Blk} (hi : h.get i = some b) (p k : Nat) (hp : p + k ≤ b.cells.length) :
    ∃ cs, VRels φ h.next ((b.cells.drop p).take k) cs ∧ cs.length = k ∧ ∀ (j : Nat) v, cs[j]? = some v → w.cell? ((⟨(φ i).b, (φ i).o + p, none⟩ : Addr).add j) = some v := by
  induction k generalizing p with
  | zero => exact ⟨[], by simp; exact .nil, rfl, by simp⟩
  | succ k ih =>
    obtain ⟨cs, h1, h2, h3⟩ := ih (p + 1) (by omega)
    have hb : b.cells[p]? = some b.cells[p] := List.getElem?_eq_getElem (by omega)
    obtain ⟨c, hc, hv⟩ := s.cell hi hb
    refine ⟨c :: cs, ?_, by simp [h2], ?_⟩
    · rw [List.drop_eq_getElem_cons (by omega), List.take_succ_cons]
      exact .cons hv h1
    · intro j v hj
      cases j with
      | zero => simp at hj; subst hj; simpa [Addr.add] using hc
      | succ j =>
        have := h3 j v (by simpa using hj)
        rw [Addr.add_lit] at this ⊢
        rw [← this]
        congr 2
        omega

/-- Read a single cell. -/
theorem op_load {t : TypeId} {x : Operand} {i o : Nat} {s : Option Nat} {b : Blk} {v : Value} {d : TypeDesc} [td : TyD P t d] (hx : ρ x = .pointer (some ⟨i, o, s⟩)) (ha : aggB d = false)
    (hi : h.get i = some b) (hv : b.cells[o]? = some v) (kk : K v h) : AOp P ⟨dst, .load t x, ty, pos, aft, g⟩ ρ h K :=
  .of_pure kk fun φ ac w r => by
    obtain ⟨_, _, e1⟩ := (hx ▸ r.ev x (by simp [Op.operands])).ptr_inv
    obtain ⟨c, hc, hr⟩ := r.sim.cell hi hv
    refine ⟨c, ?_, hr⟩
    simp [execOp, e1, Instr.loadAt, Instr.sureAddr, loadVar, td.isAgg, ha, hc]
/-- Read a struct or an array. -/
theorem op_loadA {t : TypeId} {x : Operand} {i o sz by_ : Nat} {z : Value} {s : Option Nat} {b : Blk} {d : TypeDesc} [td : TyD P t d] [ti : TyI P t sz by_ z] (hx : ρ x = .pointer (some ⟨i, o, s⟩)) (ha : aggB d = true)
    (hi : h.get i = some b) (hl : o + sz ≤ b.cells.length) (kk : K (.agg ((b.cells.drop o).take sz).toArray) h) : AOp P ⟨dst, .load t x, ty, pos, aft, g⟩ ρ h K :=
  .of_pure kk fun φ ac w r => by
    obtain ⟨_, _, e1⟩ := (hx ▸ r.ev x (by simp [Op.operands])).ptr_inv
    obtain ⟨cs, h1, h2, h3⟩ := r.sim.row hi o sz hl
    have hr := run_loadCells_list (P := P) w _ cs h3
    rw [h2] at hr
    refine ⟨.agg cs.toArray, ?_, .agg _ _ (by simp [h1.length]) h1.arr⟩
    simp [execOp, e1, Instr.loadAt, Instr.sureAddr, loadVar, td.isAgg, ha, ti.size, hr]

theorem load_run {φ : Ren} {w : World} (sm : Sim P φ h w) {t : TypeId} {i o sz by_ : Nat} {z : Value} {s : Option Nat} {b : Blk} {d : TypeDesc} {c : Value} [td : TyD P t d] [ti : TyI P t sz by_ z] (hv : VRel φ h.next (.pointer (some ⟨i, o, s⟩)) c) (ha : aggB d = true)
    (hi : h.get i = some b) (hl : o + sz ≤ b.cells.length) : ∃ u, (do loadVar t (← asAddr c) : Sem Value).run P w = .ok u w ∧ VRel φ h.next (.agg ((b.cells.drop o).take sz).toArray) u := by
  obtain ⟨_, _, e1⟩ := hv.ptr_inv
  obtain ⟨cs, h1, h2, h3⟩ := sm.row hi o sz hl
  have hr := run_loadCells_list (P := P) w _ cs h3
  rw [h2] at hr
  refine ⟨.agg cs.toArray, ?_, .agg _ _ (by simp [h1.length]) h1.arr⟩
  simp [e1, asAddr, loadVar, td.isAgg, ha, ti.size, hr]
/-- A result that lies in memory. -/
theorem ResV.cellA {fn : Func} {env : Env} {a : Tmp} {t : TypeId} {i o sz by_ : Nat} {z : Value} {s : Option Nat} {b : Blk} {d : TypeDesc} [td : TyD P t d] [ti : TyI P t sz by_ z] (hr : fn.results = #[.cell a t]) (hx : env.get a = .pointer (some ⟨i, o, s⟩)) (ha : aggB d = true)
    (hi : h.get i = some b) (hl : o + sz ≤ b.cells.length) : ResV P fn env h (.agg ((b.cells.drop o).take sz).toArray) := by
  intro N φ tmps w r
  obtain ⟨u, h1, h2⟩ := load_run (P := P) (t := t) r.sim (hx ▸ r.env a) ha hi hl
  refine ⟨u, ?_, h2⟩
  have h3 : (results fn tmps).run P w = (do loadVar t (← asAddr (tmps.getD a undef)) : Sem Value).run P w := by
    simp only [results, hr]
    simp only [List.mapM_toArray, List.mapM_cons, List.mapM_nil, Sem.run_bind, Sem.run_map, Sem.run_pure]
    cases (asAddr (tmps.getD a undef)).run P w with
    | halt x w1 => rfl
    | ok x w1 =>
      simp only [Result.andThen_ok]
      cases (loadVar t x).run P w1 with
      | halt y w2 => rfl
      | ok y w2 => rfl
  rw [h3, h1]
theorem run_alloc {t : TypeId} {sz by_ : Nat} {z : Value} [ti : TyI P t sz by_ z] (w : World) :
    (Instr.alloc t true (.tuple #[])).run P w = .ok (.pointer (some ⟨w.heap.size, 0, none⟩)) (w.alloc (.cells z.cells t)) := by
  simp [Instr.alloc, ti.zero, newVar, newRow]
/-- A new variable, zero. -/
theorem op_alloc {t : TypeId} {sz by_ : Nat} {z : Value} [ti : TyI P t sz by_ z] (kk : K (.pointer (some ⟨h.next, 0, none⟩)) (h.alloc ⟨z.cells.toList, t, true⟩)) :
    AOp P ⟨dst, .alloc t, ty, pos, aft, g⟩ ρ h K :=
  .of_run fun φ ac w r => by
    have hv := VRels.scalars (φ := φ) (n := h.next) ti.plain
    obtain ⟨s1, s2⟩ := r.sim.alloc z.cells.toList z.cells t (0, 0) (.inl rfl) (by simp) (fun k v hk => by
      have := hv.get hk
      simpa using this)
    refine ⟨.pointer (some ⟨w.heap.size, 0, none⟩), _, _, _, _, by simp [execOp, run_alloc], kk, ?_, s1, s2⟩
    have := VRel.ptr (φ := Ren.put φ h.next ⟨w.heap.size, 0, z.cells.size⟩) (n := h.next + 1) h.next 0 (by omega)
    rw [Ren.put_at] at this
    exact this

theorem VRel.cells {φ : Ren} {n : Nat} {v c : Value} (r : VRel φ n v c) (hu : v ≠ undef) : VRels φ n v.cells.toList c.cells.toList := by
  cases r with
  | und => exact absurd rfl hu
  | skip => exact .cons .skip .nil
  | agg c c' h1 h2 => exact .of (by simpa [Value.cells] using h1) (fun j x y hx hy => h2 j x y (by simpa [Value.cells] using hx) (by simpa [Value.cells] using hy))
  | tuple c c' h1 h2 => exact .cons (.tuple c c' h1 h2) .nil
  | bool b => exact .cons (.bool b) .nil
  | int k a => exact .cons (.int k a) .nil
  | float k a => exact .cons (.float k a) .nil
  | complex k a b => exact .cons (.complex k a b) .nil
  | string s => exact .cons (.string s) .nil
  | nilPtr => exact .cons .nilPtr .nil
  | ptr i o hi => exact .cons (.ptr i o hi) .nil
  | nilSlice => exact .cons .nilSlice .nil
  | slice i o len cap cap' s a' hi h1 h2 h3 h4 h5 h6 => exact .cons (.slice i o len cap cap' s a' hi h1 h2 h3 h4 h5 h6) .nil
  | func fn f c f' c' h1 h2 h3 h4 => exact .cons (.func fn f c f' c' h1 h2 h3 h4) .nil
  | nilFunc => exact .cons .nilFunc .nil
  | iface t v v' h => exact .cons (.iface t v v' h) .nil
  | nilIface => exact .cons .nilIface .nil
  | nilMap => exact .cons .nilMap .nil
  | map i hi => exact .cons (.map i hi) .nil

theorem VRels.toArr {φ : Ren} {n : Nat} {xs : List Value} {c : Array Value} (r : VRels φ n xs c.toList) : ∀ (k : Nat) v, xs[k]? = some v → ∃ d, c[k]? = some d ∧ VRel φ n v d := by
  intro k v hk
  have := r.get hk
  simpa using this

/-- A new variable with a value. -/
theorem op_box {t : TypeId} {x : Operand} {v : Value} (hx : ρ x = v) (hu : v ≠ undef) (kk : K (.pointer (some ⟨h.next, 0, none⟩)) (h.alloc ⟨v.cells.toList, t, true⟩)) :
    AOp P ⟨dst, .box t x, ty, pos, aft, g⟩ ρ h K :=
  .of_run fun φ ac w r => by
    have hv := ((hx ▸ r.ev x (by simp [Op.operands])) : VRel φ h.next v (ac.eval x)).cells hu
    obtain ⟨s1, s2⟩ := r.sim.alloc v.cells.toList (ac.eval x).cells t (0, 0) (.inl rfl) (by have := hv.length; simp at this; simp; omega) hv.toArr
    refine ⟨.pointer (some ⟨w.heap.size, 0, none⟩), w.alloc (.cells (ac.eval x).cells t), _, _, _, by simp [execOp, Instr.box, newVar, newRow], kk, ?_, s1, s2⟩
    have := VRel.ptr (φ := Ren.put φ h.next ⟨w.heap.size, 0, (ac.eval x).cells.size⟩) (n := h.next + 1) h.next 0 (by omega)
    rw [Ren.put_at] at this
    exact this

def oneB : Value → Bool
  | .agg _ | .tuple _ | .chan _ => false
  | _ => true
theorem VRel.one {φ : Ren} {n : Nat} {v c : Value} (r : VRel φ n v c) (ho : oneB v = true) : c.oneCell' = true := by
  cases r <;> first | rfl | (simp [oneB] at ho; done) | (exfalso; simp [oneB, undef] at ho)

/-- Cells written in a row, in a block that may be written. -/
theorem run_storeRow (P : Program) (k : Nat) (e : TypeId) (fr : Nat × Nat) : ∀ (vs : List Value) (o i : Nat) (arr : Array Value) (w : World), w.heap[k]? = some (.cells arr e fr) →
    (fr.1 = fr.2 ∨ arr.size ≤ fr.1) → o + i + vs.length ≤ arr.size → (∀ v ∈ vs, v.oneCell' = true) →
    ∃ w', (storeCells ⟨k, o, none⟩ vs i).run P w = .ok () w' ∧ w'.os = w.os ∧ w'.tape = w.tape ∧ w'.output = w.output ∧
      ∀ j : Nat, w'.heap[j]? = if j = k then some (.cells (arr.toList.take (o + i) ++ vs ++ arr.toList.drop (o + i + vs.length)).toArray e fr) else w.heap[j]?
  | [], o, i, arr, w, hk, _, _, _ => ⟨w, rfl, rfl, rfl, rfl, fun j => by
      simp only [List.append_nil, List.length_nil, Nat.add_zero, List.take_append_drop]
      split
      · rename_i hj; subst hj; exact hk
      · rfl⟩
  | v :: vs, o, i, arr, w, hk, hfr, hl, h1 => by
    simp only [List.length_cons] at hl
    have hcell : w.cell? ⟨k, o + i, none⟩ = some arr[o + i] := by
      simp [World.cell?, hk]
    have hfz : w.frozen? ⟨k, o + i, none⟩ = false := by
      simp only [World.frozen?, hk]
      rcases hfr with hfr | hfr
      · rw [Bool.and_eq_false_iff, decide_eq_false_iff_not, decide_eq_false_iff_not]; omega
      · rw [Bool.and_eq_false_iff, decide_eq_false_iff_not]; exact .inl (by omega)
    have hst := run_store P w ⟨k, o + i, none⟩ v .plain (h1 v (by simp))
    simp only [hcell, hfz, Bool.false_eq_true, if_false] at hst
    have hheap : ∀ j : Nat, (w.setCell ⟨k, o + i, none⟩ v).heap[j]? = if j = k then some (.cells (arr.setIfInBounds (o + i) v) e fr) else w.heap[j]? := by
      intro j
      simp only [World.setCell, Array.getElem?_modify]
      by_cases hj : j = k
      · subst hj; simp [hk]
      · rw [if_neg (fun e => hj e.symm), if_neg hj]
    obtain ⟨w', hr, e1, e2, e3, e4⟩ := run_storeRow P k e fr vs o (i + 1) (arr.setIfInBounds (o + i) v) (w.setCell ⟨k, o + i, none⟩ v) (by rw [hheap]; simp) (by simpa using hfr) (by simp; omega) (fun u hu => h1 u (by simp [hu]))
    refine ⟨w', ?_, e1, e2, e3, fun j => ?_⟩
    · simp [storeCells, Addr.add_lit, hst, hr]
    · rw [e4 j]
      split
      · have hL : (arr.setIfInBounds (o + i) v).toList = arr.toList.take (o + i) ++ v :: arr.toList.drop (o + i + 1) := by
          rw [Array.toList_setIfInBounds, List.set_eq_take_append_cons_drop]
          rw [if_pos (by simp; omega)]
        have hlen : (arr.toList.take (o + i)).length = o + i := by simp; omega
        rw [hL]
        congr 3
        have t1 : (arr.toList.take (o + i) ++ v :: arr.toList.drop (o + i + 1)).take (o + (i + 1)) = arr.toList.take (o + i) ++ [v] := by
          rw [show o + (i + 1) = (arr.toList.take (o + i)).length + 1 from by omega, List.take_length_add_append]
          simp
        have t2 : (arr.toList.take (o + i) ++ v :: arr.toList.drop (o + i + 1)).drop (o + (i + 1) + vs.length) = arr.toList.drop (o + i + (v :: vs).length) := by
          rw [show o + (i + 1) + vs.length = (arr.toList.take (o + i)).length + (vs.length + 1) from by omega, List.drop_length_add_append]
          simp only [List.drop_succ_cons, List.drop_drop, List.length_cons]
          congr 1
          omega
        rw [t1, t2]
        simp
      · rename_i hj
        rw [hheap, if_neg hj]

/-- A row of cells, some of them written. -/
def splice (L : List Value) (o : Nat) (vs : List Value) : List Value := L.take o ++ vs ++ L.drop (o + vs.length)
theorem length_splice {L : List Value} {o : Nat} {vs : List Value} (hl : o + vs.length ≤ L.length) : (splice L o vs).length = L.length := by simp [splice]; omega
theorem splice_one (L : List Value) (o : Nat) (v : Value) (ho : o < L.length) : splice L o [v] = L.set o v := by
  rw [List.set_eq_take_append_cons_drop, if_pos ho]
  simp [splice]
theorem splice_get (L : List Value) (o : Nat) (vs : List Value) (hl : o + vs.length ≤ L.length) (k : Nat) : (splice L o vs)[k]? = if o ≤ k ∧ k < o + vs.length then vs[k - o]? else L[k]? := by
  unfold splice
  by_cases h1 : k < o
  · rw [List.append_assoc, List.getElem?_append_left (by simp; omega), List.getElem?_take_of_lt h1, if_neg (by omega)]
  · by_cases h2 : k < o + vs.length
    · rw [if_pos (by omega), List.getElem?_append_left (by simp; omega), List.getElem?_append_right (by simp; omega)]
      congr 1
      simp; omega
    · rw [if_neg (by omega), List.getElem?_append_right (by simp; omega), List.getElem?_drop]
      congr 1
      simp; omega

theorem Sim.splice {φ : Ren} {w : World} (s : Sim P φ h w) {i : Nat} {b : Blk} (hi : h.get i = some b) (ho : b.own = true) {o : Nat} {vs cs : List Value} (hr : VRels φ h.next vs cs) (hl : o + vs.length ≤ b.cells.length)
    (h1 : ∀ c ∈ cs, c.oneCell' = true) : ∃ w', (storeCells ⟨(φ i).b, o, none⟩ cs).run P w = .ok () w' ∧ Sim P φ (h.set i ⟨splice b.cells o vs, b.elem, true⟩) w' ∧ Step φ h w φ (h.set i ⟨splice b.cells o vs, b.elem, true⟩) w' := by
  obtain ⟨arr, fr, a1, a2, a3, a4, a5⟩ := s.owned hi ho
  have hlen := hr.length
  obtain ⟨w', hrun, e1, e2, e3, e4⟩ := run_storeRow P (φ i).b b.elem fr cs o 0 arr w a1 (a3.imp id And.left) (by omega) h1
  simp only [Nat.add_zero] at e4
  have hsl : (Eng.splice arr.toList o cs).length = arr.size := by rw [length_splice (by simp; omega)]; simp
  obtain ⟨s1, s2⟩ := s.write hi ho a1 (w' := w') (arr' := (Eng.splice arr.toList o cs).toArray) (by simpa using hsl) (by simpa [hsl] using a3) e4 e1 e2 e3 (Eng.splice b.cells o vs) (by rw [length_splice hl]; simp [hsl]; omega) (by
    intro k v hk
    rw [splice_get _ _ _ hl] at hk
    simp only [List.getElem?_toArray]
    rw [splice_get _ _ _ (by simp; omega)]
    by_cases hin : o ≤ k ∧ k < o + vs.length
    · rw [if_pos hin] at hk
      rw [if_pos (by omega)]
      exact hr.get hk
    · rw [if_neg hin] at hk
      rw [if_neg (by omega)]
      simpa using a5 k v hk)
  exact ⟨w', hrun, s1, s2⟩

/-- Write a single cell. -/
theorem op_store {t : TypeId} {x y : Operand} {i o by_ : Nat} {z : Value} {s : Option Nat} {b : Blk} {v : Value} [ti : TyI P t 1 by_ z] (hx : ρ x = .pointer (some ⟨i, o, s⟩)) (hy : ρ y = v) (h1 : oneB v = true)
    (hi : h.get i = some b) (ho : b.own = true) (hl : o < b.cells.length) (kk : K undef (h.set i ⟨b.cells.set o v, b.elem, true⟩)) : AOp P ⟨dst, .store t x y, ty, pos, aft, g⟩ ρ h K :=
  .of_skip fun φ ac w r => by
    obtain ⟨_, _, e1⟩ := (hx ▸ r.ev x (by simp [Op.operands])).ptr_inv
    have hv : VRel φ h.next v (ac.eval y) := hy ▸ r.ev y (by simp [Op.operands])
    have hone := hv.one h1
    have hc : (ac.eval y).cells = #[ac.eval y] := by
      cases hq : ac.eval y <;> first | rfl | (rw [hq] at hone; simp [Value.oneCell'] at hone)
    obtain ⟨w', h3, h4, h5⟩ := r.sim.splice hi ho (o := o) (.cons hv .nil) (by simp; omega) (by simpa using hone)
    rw [splice_one _ _ _ hl] at h4 h5
    have hz : (φ i).o = 0 := by
      obtain ⟨_, _, _, h2, _⟩ := r.sim.owned hi ho
      exact h2.1
    refine ⟨w', φ, _, ?_, kk, h4, h5⟩
    simp [execOp, e1, Instr.storeAt, Instr.sureAddr, storeVar, ti.size, hc, hz, h3]
/-- Write a struct or an array. -/
theorem op_storeA {t : TypeId} {x y : Operand} {i o sz by_ : Nat} {z : Value} {s : Option Nat} {b : Blk} {vs : Array Value} [ti : TyI P t sz by_ z] (hx : ρ x = .pointer (some ⟨i, o, s⟩)) (hy : ρ y = .agg vs) (h1 : vs.toList.all oneB = true)
    (hsz : vs.size = sz) (hi : h.get i = some b) (ho : b.own = true) (hl : o + sz ≤ b.cells.length) (kk : K undef (h.set i ⟨splice b.cells o vs.toList, b.elem, true⟩)) : AOp P ⟨dst, .store t x y, ty, pos, aft, g⟩ ρ h K :=
  .of_skip fun φ ac w r => by
    obtain ⟨_, _, e1⟩ := (hx ▸ r.ev x (by simp [Op.operands])).ptr_inv
    obtain ⟨cs, e2, h2, h3⟩ := (hy ▸ r.ev y (by simp [Op.operands])).agg_inv
    have hr : VRels φ h.next vs.toList cs.toList := .of (by simpa using h2) (fun j x y hx hy => h3 j x y (by simpa using hx) (by simpa using hy))
    obtain ⟨w', h4, h5, h6⟩ := r.sim.splice hi ho (o := o) hr (by simp; omega) (by
      intro c hc
      obtain ⟨j, hj⟩ := List.getElem?_of_mem hc
      have hjl : j < vs.toList.length := by rw [hr.length]; exact (List.getElem?_eq_some_iff.1 hj).1
      have hx := List.getElem?_eq_getElem hjl
      obtain ⟨c', hc', hv⟩ := hr.get hx
      rw [hj] at hc'; cases hc'
      exact hv.one (List.all_eq_true.1 h1 _ (List.getElem_mem hjl)))
    have hz : (φ i).o = 0 := by
      obtain ⟨_, _, _, h2, _⟩ := r.sim.owned hi ho
      exact h2.1
    refine ⟨w', φ, _, ?_, kk, h5, h6⟩
    have : cs.size = sz := by omega
    simp [execOp, e1, e2, Instr.storeAt, Instr.sureAddr, storeVar, ti.size, Value.cells, hz, h4, this]

end Go.Eng

/-
  The engine, part G: addresses, parts of values, slices, lengths.
-/
namespace Go.Eng
open Go

variable {P : Program} {ρ : Operand → Value} {h : Heap} {K : Value → Heap → Prop} {dst : Option Tmp} {ty : TypeId} {pos : String} {aft : Array Edge} {g : Option (Nat × Bool)}

/-- The address of a field. -/
theorem op_fieldAddr {t : TypeId} {x : Operand} {f i o sz by_ : Nat} {z : Value} {s : Option Nat} {fs : Array Field} {fld : Field} [td : TyD P t (.struct fs)] (hf : fs[f]? = some fld) [ti : TyI P fld.type sz by_ z]
    (hz : (sz == 0) = false) (hx : ρ x = .pointer (some ⟨i, o, s⟩)) (kk : K (.pointer (some ⟨i, o + fld.offset, none⟩)) h) : AOp P ⟨dst, .fieldAddr t x f, ty, pos, aft, g⟩ ρ h K :=
  .of_pure kk fun φ ac w r => by
    obtain ⟨_, hlt, e1⟩ := (hx ▸ r.ev x (by simp [Op.operands])).ptr_inv
    have hz' : ¬ sz = 0 := by simpa using hz
    refine ⟨.pointer (some ⟨(φ i).b, (φ i).o + (o + fld.offset), none⟩), ?_, .ptr _ _ hlt⟩
    simp [execOp, e1, Instr.fieldAt, Instr.sureAddr, td.run, hf, fieldPlace, ti.size, hz', Addr.add_lit, Nat.add_assoc]
/-- The address of an array's element. -/
theorem op_indexA {t e : TypeId} {n : Nat} {x y : Operand} {i o sz by_ : Nat} {z : Value} {s : Option Nat} {k : IntKind} {a : Int} [td : TyD P t (.array n e)] [ti : TyI P e sz by_ z]
    (hx : ρ x = .pointer (some ⟨i, o, s⟩)) (hy : ρ y = .int k a) (h0 : 0 ≤ a) (h1 : a < n) (kk : K (.pointer (some ⟨i, o + a.toNat * sz, none⟩)) h) : AOp P ⟨dst, .indexAddr t x y, ty, pos, aft, g⟩ ρ h K :=
  .of_pure kk fun φ ac w r => by
    obtain ⟨_, hlt, e1⟩ := (hx ▸ r.ev x (by simp [Op.operands])).ptr_inv
    have e2 := (hy ▸ r.ev y (by simp [Op.operands])).int_inv
    refine ⟨.pointer (some ⟨(φ i).b, (φ i).o + (o + a.toNat * sz), none⟩), ?_, .ptr _ _ hlt⟩
    simp [execOp, e1, e2, Instr.indexAt, Instr.sureAddr, asIntOf, td.run, h0, h1, ti.size, Addr.add_lit, Nat.add_assoc]
/-- The address of a slice's element. -/
theorem op_indexS {t e : TypeId} {x y : Operand} {i o len cap sz by_ : Nat} {z : Value} {s : Option Nat} {k : IntKind} {a : Int} [td : TyD P t (.slice e)] [ti : TyI P e sz by_ z]
    (hx : ρ x = .slice (some ⟨i, o, s⟩) len cap) (hy : ρ y = .int k a) (h0 : 0 ≤ a) (h1 : a < len) (kk : K (.pointer (some ⟨i, o + a.toNat * sz, none⟩)) h) : AOp P ⟨dst, .indexAddr t x y, ty, pos, aft, g⟩ ρ h K :=
  .of_pure kk fun φ ac w r => by
    obtain ⟨cap', a', e1, hlt, q1, q2, q3, q4, q5, q6⟩ := (hx ▸ r.ev x (by simp [Op.operands])).slice_inv
    have e2 := (hy ▸ r.ev y (by simp [Op.operands])).int_inv
    have e3 : a' = ⟨(φ i).b, (φ i).o + o, none⟩ := q4.resolve_right (by omega)
    refine ⟨.pointer (some ⟨(φ i).b, (φ i).o + (o + a.toNat * sz), none⟩), ?_, .ptr _ _ hlt⟩
    simp [execOp, e1, e2, e3, Instr.indexAt, asIntOf, td.run, h0, h1, ti.size, Addr.add_lit, Nat.add_assoc]
/-- An element of an array's value. -/
theorem op_indexV {t e : TypeId} {d : TypeDesc} {n : Nat} {x y : Operand} {sz by_ : Nat} {z : Value} {k : IntKind} {a : Int} {vs : Array Value} {v : Value} [td : TyD P t (.array n e)] [te : TyD P e d] [ti : TyI P e sz by_ z]
    (ha : aggB d = false) (hx : ρ x = .agg vs) (hy : ρ y = .int k a) (h0 : 0 ≤ a) (h1 : a < n) (hv : vs[a.toNat * sz]? = some v) (kk : K v h) : AOp P ⟨dst, .index t x y, ty, pos, aft, g⟩ ρ h K :=
  .of_pure kk fun φ ac w r => by
    obtain ⟨cs, e1, hs, hr⟩ := (hx ▸ r.ev x (by simp [Op.operands])).agg_inv
    have e2 := (hy ▸ r.ev y (by simp [Op.operands])).int_inv
    have hl : a.toNat * sz < cs.size := by rw [← hs]; exact (Array.getElem?_eq_some_iff.1 hv).1
    have hc := Array.getElem?_eq_getElem hl
    refine ⟨cs[a.toNat * sz], ?_, hr _ _ _ hv hc⟩
    simp [execOp, e1, e2, Instr.index, asIntOf, td.run, h0, h1, ti.size, part, te.isAgg, ha, hc]
/-- A byte of a string. -/
theorem op_indexStr {t : TypeId} {x y : Operand} {k : IntKind} {a : Int} {st : ByteArray} {b : UInt8} [td : TyD P t .string]
    (hx : ρ x = .string st) (hy : ρ y = .int k a) (h0 : 0 ≤ a) (hb : st[a.toNat]? = some b) (kk : K (.int .u8 b.toNat) h) : AOp P ⟨dst, .index t x y, ty, pos, aft, g⟩ ρ h K :=
  .of_pure kk fun φ ac w r => by
    have e1 := (hx ▸ r.ev x (by simp [Op.operands])).string_inv
    have e2 := (hy ▸ r.ev y (by simp [Op.operands])).int_inv
    refine ⟨_, ?_, .int _ _⟩
    simp [execOp, e1, e2, Instr.index, asIntOf, td.run, h0, hb]
/-- A field of a struct's value: of one cell · of more. -/
theorem op_field {t : TypeId} {x : Operand} {f : Nat} {fs : Array Field} {fld : Field} {d : TypeDesc} {vs : Array Value} {v : Value} [td : TyD P t (.struct fs)] (hf : fs[f]? = some fld) [te : TyD P fld.type d] (ha : aggB d = false)
    (hx : ρ x = .agg vs) (hv : vs[fld.offset]? = some v) (kk : K v h) : AOp P ⟨dst, .field t x f, ty, pos, aft, g⟩ ρ h K :=
  .of_pure kk fun φ ac w r => by
    obtain ⟨cs, e1, hs, hr⟩ := (hx ▸ r.ev x (by simp [Op.operands])).agg_inv
    have hl : fld.offset < cs.size := by rw [← hs]; exact (Array.getElem?_eq_some_iff.1 hv).1
    have hc := Array.getElem?_eq_getElem hl
    refine ⟨cs[fld.offset], ?_, hr _ _ _ hv hc⟩
    simp [execOp, e1, Instr.field, asAgg, td.run, hf, part, te.isAgg, ha, hc]
theorem op_fieldA {t : TypeId} {x : Operand} {f sz by_ : Nat} {z : Value} {fs : Array Field} {fld : Field} {d : TypeDesc} {vs : Array Value} [td : TyD P t (.struct fs)] (hf : fs[f]? = some fld) [te : TyD P fld.type d] [ti : TyI P fld.type sz by_ z] (ha : aggB d = true)
    (hx : ρ x = .agg vs) (kk : K (.agg (vs.extract fld.offset (fld.offset + sz))) h) : AOp P ⟨dst, .field t x f, ty, pos, aft, g⟩ ρ h K :=
  .of_pure kk fun φ ac w r => by
    obtain ⟨cs, e1, hs, hr⟩ := (hx ▸ r.ev x (by simp [Op.operands])).agg_inv
    refine ⟨.agg (cs.extract fld.offset (fld.offset + sz)), ?_, .agg _ _ (by simp [hs]) fun k u c hu hc => ?_⟩
    · simp [execOp, e1, Instr.field, asAgg, td.run, hf, part, te.isAgg, ha, ti.size]
    · rw [Array.getElem?_extract] at hu hc
      split at hu
      · split at hc
        · exact hr _ _ _ hu hc
        · cases hc
      · cases hu

/-- The bound of a slice expression. -/
def bnd (ρ : Operand → Value) (x : Option Operand) (d : Int) : Option Int :=
  match x with
  | none => some d
  | some x => match ρ x with
    | .int _ n => some n
    | _ => none
theorem bnd_run {x : Option Operand} {d n : Int} {φ : Ren} {ac : Act} (r : ∀ y, x = some y → VRel φ h.next (ρ y) (ac.eval y)) (hb : bnd ρ x d = some n) : (x = none ∧ n = d) ∨ ∃ y k, x = some y ∧ ac.eval y = .int k n := by
  cases x with
  | none => simp [bnd] at hb; exact .inl ⟨rfl, hb.symm⟩
  | some y =>
    simp only [bnd] at hb
    split at hb
    · rename_i k m he
      cases hb
      exact .inr ⟨y, k, rfl, (he ▸ r y rfl).int_inv⟩
    · cases hb

theorem run_sliceBound {k : IntKind} {n : Int} {y : Nat} {c : BoundsCode} (w : World) (h0 : 0 ≤ n) (h1 : n ≤ y) : (Instr.sliceBound (.int k n) y c).run P w = .ok n.toNat w := by
  simp [Instr.sliceBound, asIntOf, h0, h1]
theorem run_sliceBounds {isS : Bool} {len cap : Nat} {lo hi : Option Operand} {l m : Int} {φ : Ren} {ac : Act} {w : World} (rl : ∀ y, lo = some y → VRel φ h.next (ρ y) (ac.eval y)) (rh : ∀ y, hi = some y → VRel φ h.next (ρ y) (ac.eval y)) (hl : bnd ρ lo 0 = some l) (hm : bnd ρ hi len = some m)
    (h0 : 0 ≤ l) (h1 : l ≤ m) (h2 : m ≤ len) (h3 : len ≤ cap) : (Instr.sliceBounds isS len cap (lo.map ac.eval) (hi.map ac.eval) none).run P w = .ok (l.toNat, m.toNat, cap) w := by
  rcases bnd_run rl hl with ⟨rfl, rfl⟩ | ⟨y, k, rfl, e1⟩ <;> rcases bnd_run rh hm with ⟨rfl, rfl⟩ | ⟨y', k', rfl, e2⟩
  · simp [Instr.sliceBounds]
  · simp only [Instr.sliceBounds, Option.map_none, Option.map_some, e2]
    have : m ≤ (cap : Int) := by omega
    simp [run_sliceBound w (by omega : 0 ≤ m) this]
  · simp only [Instr.sliceBounds, Option.map_none, Option.map_some, e1]
    simp [run_sliceBound w h0 h1]
  · simp only [Instr.sliceBounds, Option.map_some, e1, e2]
    have h4 : m ≤ (cap : Int) := by omega
    have h5 : l ≤ (m.toNat : Int) := by omega
    simp [run_sliceBound w (by omega : 0 ≤ m) h4, run_sliceBound w h0 h5]

/-- A piece of a slice, up to its length. -/
theorem op_slice {t e : TypeId} {x : Operand} {lo hi : Option Operand} {i o len cap sz by_ : Nat} {z : Value} {s : Option Nat} {l m : Int} [td : TyD P t (.slice e)] [ti : TyI P e sz by_ z]
    (hx : ρ x = .slice (some ⟨i, o, s⟩) len cap) (hl : bnd ρ lo 0 = some l) (hm : bnd ρ hi len = some m) (h0 : 0 ≤ l) (h1 : l ≤ m) (h2 : m ≤ len) (hs : s = none ∨ s = some sz)
    (kk : K (.slice (some ⟨i, o + l.toNat * sz, s⟩) (m - l).toNat (cap - l.toNat)) h) : AOp P ⟨dst, .slice t x lo hi none, ty, pos, aft, g⟩ ρ h K :=
  .of_pure kk fun φ ac w r => by
    obtain ⟨cap', a', e1, hlt, q1, q2, q3, q4, q5, q6⟩ := (hx ▸ r.ev x (by simp [Op.operands])).slice_inv
    have hb := run_sliceBounds (P := P) (w := w) (isS := true) (cap := cap') (fun y hy => r.ev y (by subst hy; simp [Op.operands])) (fun y hy => r.ev y (by subst hy; simp [Op.operands])) hl hm h0 h1 h2 q2
    refine ⟨.slice (some (if cap' = l.toNat then a' else a'.add (l.toNat * sz))) (m - l).toNat (cap' - l.toNat), ?_, ?_⟩
    · have e5 : m.toNat - l.toNat = (m - l).toNat := by omega
      by_cases hc : cap' = l.toNat
      · subst hc; simp [execOp, e1, Instr.sliceAt, td.run, Instr.slice, hb, ti.size, e5]
      · simp [execOp, e1, Instr.sliceAt, td.run, Instr.slice, hb, ti.size, hc, e5]
    · refine .slice _ _ _ _ _ _ _ hlt (by omega) (by omega) (by omega) ?_ (by omega) ?_
      · by_cases hc : cap' = l.toNat
        · exact .inr (by omega)
        · rw [if_neg hc]
          rcases q4 with q4 | q4
          · subst q4; exact .inl (by rw [Addr.add_lit, Nat.add_assoc])
          · exact .inr (by omega)
      · intro t ht
        have h6 := q6 t ht
        rcases hs with hs | hs
        · rw [hs] at ht; cases ht
        · rw [hs] at ht; cases ht
          have : l.toNat * sz + (cap' - l.toNat) * sz = cap' * sz := by rw [← Nat.add_mul]; congr 1; omega
          omega
theorem op_sliceNil {t e : TypeId} {x : Operand} {lo hi : Option Operand} {sz by_ : Nat} {z : Value} {k m : Nat} [td : TyD P t (.slice e)] [ti : TyI P e sz by_ z]
    (hx : ρ x = .slice none k m) (hl : bnd ρ lo 0 = some 0) (hm : bnd ρ hi 0 = some 0) (kk : K (.slice none 0 0) h) : AOp P ⟨dst, .slice t x lo hi none, ty, pos, aft, g⟩ ρ h K :=
  .of_pure kk fun φ ac w r => by
    obtain ⟨_, _, e1⟩ := (hx ▸ r.ev x (by simp [Op.operands])).nilSlice_inv
    have hb := run_sliceBounds (P := P) (w := w) (isS := true) (len := 0) (cap := 0) (fun y hy => r.ev y (by subst hy; simp [Op.operands])) (fun y hy => r.ev y (by subst hy; simp [Op.operands])) hl hm (Int.le_refl _) (Int.le_refl _) (Int.le_refl _) (Nat.le_refl _)
    refine ⟨.slice none 0 0, ?_, .nilSlice⟩
    simp [execOp, e1, Instr.sliceAt, td.run, Instr.slice, hb, ti.size]
/-- A piece of a string. -/
theorem op_sliceStr {t : TypeId} {x : Operand} {lo hi : Option Operand} {st : ByteArray} {l m : Int} [td : TyD P t .string]
    (hx : ρ x = .string st) (hl : bnd ρ lo 0 = some l) (hm : bnd ρ hi st.size = some m) (h0 : 0 ≤ l) (h1 : l ≤ m) (h2 : m ≤ st.size)
    (kk : K (.string (st.extract l.toNat m.toNat)) h) : AOp P ⟨dst, .slice t x lo hi none, ty, pos, aft, g⟩ ρ h K :=
  .of_pure kk fun φ ac w r => by
    have e1 := (hx ▸ r.ev x (by simp [Op.operands])).string_inv
    have hb := run_sliceBounds (P := P) (w := w) (isS := false) (cap := st.size) (fun y hy => r.ev y (by subst hy; simp [Op.operands])) (fun y hy => r.ev y (by subst hy; simp [Op.operands])) hl hm h0 h1 h2 (Nat.le_refl _)
    refine ⟨_, ?_, .string _⟩
    simp [execOp, e1, Instr.sliceAt, td.run, Instr.slice, hb]
/-- A piece of an array that lies at an address. -/
theorem op_sliceA {t e : TypeId} {n : Nat} {x : Operand} {lo hi : Option Operand} {i o sz by_ : Nat} {z : Value} {s : Option Nat} {l m : Int} [td : TyD P t (.array n e)] [ti : TyI P e sz by_ z]
    (hx : ρ x = .pointer (some ⟨i, o, s⟩)) (hl : bnd ρ lo 0 = some l) (hm : bnd ρ hi n = some m) (h0 : 0 ≤ l) (h1 : l ≤ m) (h2 : m ≤ n) (hn : n ≤ maxLen)
    (kk : K (.slice (some ⟨i, o + l.toNat * sz, none⟩) (m - l).toNat (n - l.toNat)) h) : AOp P ⟨dst, .slice t x lo hi none, ty, pos, aft, g⟩ ρ h K :=
  .of_pure kk fun φ ac w r => by
    obtain ⟨_, hlt, e1⟩ := (hx ▸ r.ev x (by simp [Op.operands])).ptr_inv
    have hb := run_sliceBounds (P := P) (w := w) (isS := false) (cap := n) (fun y hy => r.ev y (by subst hy; simp [Op.operands])) (fun y hy => r.ev y (by subst hy; simp [Op.operands])) hl hm h0 h1 h2 (Nat.le_refl _)
    refine ⟨.slice (some (if n = l.toNat then ⟨(φ i).b, (φ i).o + o, none⟩ else (⟨(φ i).b, (φ i).o + o, none⟩ : Addr).add (l.toNat * sz))) (m - l).toNat (n - l.toNat), ?_, ?_⟩
    · have e5 : m.toNat - l.toNat = (m - l).toNat := by omega
      by_cases hc : n = l.toNat
      · subst hc; simp [execOp, e1, Instr.sliceAt, Instr.sureAddr, td.run, hb, ti.size, e5]
      · simp [execOp, e1, Instr.sliceAt, Instr.sureAddr, td.run, hb, ti.size, hc, e5]
    · refine .slice _ _ _ _ _ _ _ hlt (by omega) (by omega) (by simp only [maxLen] at hn; omega) ?_ (by omega) (by intro t ht; cases ht)
      by_cases hc : n = l.toNat
      · exact .inr (by omega)
      · rw [if_neg hc, Addr.add_lit, Nat.add_assoc]; exact .inl rfl

/-- len, min, max. -/
theorem op_lenS {x : Operand} {t e : TypeId} {a : Option Addr} {n c : Nat} [td : TyD P t (.slice e)] (hx : ρ x = .slice a n c) (kk : K (.int .i64 n) h) :
    AOp P ⟨dst, .call ⟨.builtin .len, #[x], #[t]⟩, ty, pos, aft, g⟩ ρ h K :=
  .of_pure kk fun φ ac w r => by
    have hv := hx ▸ r.ev x (by simp [Op.operands, Call.operands])
    refine ⟨_, ?_, .int _ _⟩
    have he : ∃ a', ac.eval x = .slice a' n (match ac.eval x with | .slice _ _ c => c | _ => 0) := by
      cases a with
      | none => obtain ⟨e1, e2, e3⟩ := hv.nilSlice_inv; exact ⟨none, by rw [e3]; simp [e1]⟩
      | some a =>
        obtain ⟨i, o, s⟩ := a
        obtain ⟨cap', a', e1, _⟩ := hv.slice_inv
        exact ⟨some a', by rw [e1]⟩
    obtain ⟨a', he⟩ := he
    simp only [execOp, resolve, Sem.run_bind, Sem.run_pure, Result.andThen_ok, invoke, builtin]
    generalize (match ac.eval x with | .slice _ _ c => c | _ => 0) = c' at he
    simp [he, Builtin.len_, td.run, goInt]
theorem op_lenStr {x : Operand} {t : TypeId} {st : ByteArray} [td : TyD P t .string] (hx : ρ x = .string st) (kk : K (.int .i64 st.size) h) :
    AOp P ⟨dst, .call ⟨.builtin .len, #[x], #[t]⟩, ty, pos, aft, g⟩ ρ h K :=
  .of_pure kk fun φ ac w r => by
    have e1 := (hx ▸ r.ev x (by simp [Op.operands, Call.operands])).string_inv
    refine ⟨_, ?_, .int _ _⟩
    simp [execOp, resolve, invoke, builtin, e1, Builtin.len_, td.run, goInt]
theorem op_min2 {x y : Operand} {k k' : IntKind} {a b : Int} {aT : Array TypeId} (hx : ρ x = .int k a) (hy : ρ y = .int k' b) (kk : K (.int k (if b < a then b else a)) h) :
    AOp P ⟨dst, .call ⟨.builtin .min, #[x, y], aT⟩, ty, pos, aft, g⟩ ρ h K :=
  .of_pure kk fun φ ac w r => by
    have e1 := (hx ▸ r.ev x (by simp [Op.operands, Call.operands])).int_inv
    have e2 := (hy ▸ r.ev y (by simp [Op.operands, Call.operands])).int_inv
    refine ⟨_, ?_, .int _ _⟩
    simp [execOp, resolve, invoke, builtin, e1, e2, Builtin.min_, Builtin.min2]
theorem op_max2 {x y : Operand} {k k' : IntKind} {a b : Int} {aT : Array TypeId} (hx : ρ x = .int k a) (hy : ρ y = .int k' b) (kk : K (.int k (if a < b then b else a)) h) :
    AOp P ⟨dst, .call ⟨.builtin .max, #[x, y], aT⟩, ty, pos, aft, g⟩ ρ h K :=
  .of_pure kk fun φ ac w r => by
    have e1 := (hx ▸ r.ev x (by simp [Op.operands, Call.operands])).int_inv
    have e2 := (hy ▸ r.ev y (by simp [Op.operands, Call.operands])).int_inv
    refine ⟨_, ?_, .int _ _⟩
    simp [execOp, resolve, invoke, builtin, e1, e2, Builtin.max_, Builtin.max2]
theorem op_min3 {x y u : Operand} {k k' k'' : IntKind} {a b c : Int} {aT : Array TypeId} (hx : ρ x = .int k a) (hy : ρ y = .int k' b) (hu : ρ u = .int k'' c)
    (kk : K (.int k (if c < (if b < a then b else a) then c else (if b < a then b else a))) h) : AOp P ⟨dst, .call ⟨.builtin .min, #[x, y, u], aT⟩, ty, pos, aft, g⟩ ρ h K :=
  .of_pure kk fun φ ac w r => by
    have e1 := (hx ▸ r.ev x (by simp [Op.operands, Call.operands])).int_inv
    have e2 := (hy ▸ r.ev y (by simp [Op.operands, Call.operands])).int_inv
    have e3 := (hu ▸ r.ev u (by simp [Op.operands, Call.operands])).int_inv
    refine ⟨_, ?_, .int _ _⟩
    simp [execOp, resolve, invoke, builtin, e1, e2, e3, Builtin.min_, Builtin.min2]
end Go.Eng

/-
  The engine, part H: new slices, append, copy, strings and bytes.
-/
namespace Go.Eng
open Go

variable {P : Program} {ρ : Operand → Value} {h : Heap} {K : Value → Heap → Prop} {dst : Option Tmp} {ty : TypeId} {pos : String} {aft : Array Edge} {g : Option (Nat × Bool)}

theorem VRel.newSlice {φ : Ren} {h : Heap} {b l len cap cap' : Nat} {s : Option Nat} (h1 : len ≤ cap) (h2 : len ≤ cap') (h3 : (cap = len → cap' = len) ∧ (18446744073709551616 ≤ cap → cap' + 18446744073709551616 = cap)) (h5 : cap' ≤ maxLen) (h6 : ∀ t, s = some t → cap' * t ≤ l) :
    VRel (Ren.put φ h.next ⟨b, 0, l⟩) (h.next + 1) (.slice (some ⟨h.next, 0, s⟩) len cap) (.slice (some ⟨b, 0, none⟩) len cap') :=
  .slice _ _ _ _ _ _ _ (by omega) h1 h2 h3 (.inl (by rw [Ren.put_at])) h5 (by rw [Ren.put_at]; intro t ht; simpa using h6 t ht)

theorem madeCells_one (z : Value) (n : Nat) (hz : z.cells = #[z]) : madeCells z.cells n = Array.replicate n z := by
  apply Array.ext
  · simp [madeCells]
  · intro i h1 h2
    have e1 : i % 1 = 0 := by omega
    simp [madeCells, hz, e1]

/-- A new slice of so many zero elements of one cell. -/
theorem op_make {t e : TypeId} {x y : Operand} {by_ : Nat} {z : Value} {k k' : IntKind} {l c : Int} [td : TyD P t (.slice e)] [ti : TyI P e 1 by_ z] (hx : ρ x = .int k l) (hy : ρ y = .int k' c)
    (h0 : 0 ≤ l) (h1 : l ≤ c) (h2 : (by_ : Int) * c ≤ 281474976710656) (h3 : c ≤ 9223372036854775807) (hz : oneB z = true)
    (kk : K (.slice (some ⟨h.next, 0, some 1⟩) l.toNat c.toNat) (h.alloc ⟨List.replicate l.toNat z, e, true⟩)) : AOp P ⟨dst, .makeSlice t x y, ty, pos, aft, g⟩ ρ h K :=
  .of_run fun φ ac w r => by
    have e1 := (hx ▸ r.ev x (by simp [Op.operands])).int_inv
    have e2 := (hy ▸ r.ev y (by simp [Op.operands])).int_inv
    obtain ⟨i, i1, i2, i3, i4⟩ := ti.ex
    subst i3
    have hr := run_make (P := P) w t e i z td.eq i1 i4 k k' l c h0 h1 h2 h3
    have hzc : z.cells = #[z] := by cases z <;> first | rfl | (simp [oneB] at hz)
    have hzs : scalar z = true := by
      have := ti.plain
      rw [hzc] at this
      simpa using this
    rw [i2, Nat.mul_one, madeCells_one z _ hzc] at hr
    obtain ⟨s1, s2⟩ := r.sim.alloc (List.replicate l.toNat z) (Array.replicate c.toNat z) e (0, 0) (.inl rfl) (by simp; omega) (fun j v hj => by
      have hj' := List.getElem?_replicate (n := l.toNat) (a := z) (i := j)
      rw [hj'] at hj
      split at hj
      · cases hj
        exact ⟨z, by simp [Array.getElem?_replicate]; omega, .of_scalar hzs⟩
      · cases hj)
    refine ⟨_, _, _, _, _, by simp [execOp, e1, e2, hr]; rfl, kk, ?_, s1, s2⟩
    refine .newSlice (by omega) (by omega) (by omega) (by simp only [maxLen]; omega) ?_
    intro t ht
    cases ht
    simp

/-- What an append takes: so many elements, and their cells. -/
inductive Src (h : Heap) (sz : Nat) : Value → Nat → List Value → Prop
  | nil : Src h sz (.slice none 0 0) 0 []
  | empty (a : Addr) (c : Nat) : Src h sz (.slice (some a) 0 c) 0 []
  | slice (i o : Nat) (s : Option Nat) (m c : Nat) (b : Blk) (hi : h.get i = some b) (hl : o + m * sz ≤ b.cells.length) : Src h sz (.slice (some ⟨i, o, s⟩) m c) m ((b.cells.drop o).take (m * sz))
  | str (st : ByteArray) (h1 : sz = 1) : Src h sz (.string st) st.size (st.data.toList.map fun b => .int .u8 b.toNat)

theorem Src.run {sz : Nat} {v : Value} {m : Nat} {news : List Value} (s : Src h sz v m news) {φ : Ren} {w : World} (sm : Sim P φ h w) {c : Value} (hv : VRel φ h.next v c) :
    ∃ cs, VRels φ h.next news cs ∧ cs.length = m * sz ∧ (∀ w2 : World, (Builtin.lenOf c).run P w2 = .ok m w2) ∧ ∀ w2 : World, w2.heap = w.heap → (Builtin.firstCells sz m c).run P w2 = .ok cs.toArray w2 := by
  cases s with
  | nil =>
    obtain ⟨_, _, rfl⟩ := hv.nilSlice_inv
    exact ⟨[], .nil, by simp, fun _ => rfl, fun _ _ => rfl⟩
  | empty a cc =>
    obtain ⟨i, o, s⟩ := a
    obtain ⟨cap', a', rfl, _⟩ := hv.slice_inv
    refine ⟨[], .nil, by simp, fun _ => rfl, fun w2 _ => ?_⟩
    simp only [Builtin.firstCells, Nat.zero_mul]
    rfl
  | slice i o s _ cc b hi hl =>
    obtain ⟨cap', a', rfl, hlt, q1, q2, q3, q4, q5, q6⟩ := hv.slice_inv
    by_cases hm : m = 0
    · subst hm
      refine ⟨[], by simp; exact .nil, by simp, fun _ => rfl, fun w2 _ => ?_⟩
      simp only [Builtin.firstCells, Nat.zero_mul]
      rfl
    · obtain rfl := q4.resolve_right (by omega)
      obtain ⟨cs, h1, h2, h3⟩ := sm.row hi o (m * sz) hl
      refine ⟨cs, h1, h2, fun _ => rfl, fun w2 hw => ?_⟩
      have := run_loadCells_list (P := P) w2 _ cs (fun j v hj => by
        have := h3 j v hj
        rw [World.cell?_of_block (w := w) (by rw [hw])]
        exact this)
      rw [h2] at this
      exact this
  | str st h1 =>
    obtain rfl := hv.string_inv
    subst h1
    refine ⟨st.data.toList.map fun b => .int .u8 b.toNat, VRels.scalars (List.all_eq_true.2 (by intro v hv; obtain ⟨b, _, rfl⟩ := List.mem_map.1 hv; rfl)), by simp, fun _ => rfl, fun w2 _ => ?_⟩
    simp only [Builtin.firstCells, Sem.run_pure]
    congr 1
    have : (st.extract 0 st.size) = st := by
      apply ByteArray.ext
      simp
    rw [this]
    apply Array.ext'
    simp

def appB : TypeDesc → Bool
  | .slice _ => true
  | .string => true
  | _ => false
theorem appB_cases {d : TypeDesc} (h : appB d = true) : (∃ e, d = .slice e) ∨ d = .string := by
  cases d <;> first | exact .inl ⟨_, rfl⟩ | exact .inr rfl | (simp [appB] at h)
/-- append in place, or into a new row. -/
theorem run_append {t t2 e : TypeId} {d2 : TypeDesc} {ty : TypeId} {sz by_ : Nat} {z : Value} [td : TyD P t (.slice e)] [t2d : TyD P t2 d2] [ti : TyI P e sz by_ z] (hd2 : appB d2 = true) (w : World)
    (base : Option Addr) (n cap m : Nat) (x : Value) (olds news : List Value) (hln : ∀ w2 : World, (Builtin.lenOf x).run P w2 = .ok m w2) (hnews : ∀ w2 : World, w2.heap = w.heap → (Builtin.firstCells sz m x).run P w2 = .ok news.toArray w2)
    (_ : news.length = m * sz) (holds : ∀ w2 : World, w2.heap = w.heap → (Builtin.firstCells sz n (.slice base n cap)).run P w2 = .ok olds.toArray w2)
    (h1 : n + m ≤ maxLen) (h2 : (n + m) * by_ ≤ 140737488355328) :
    (Builtin.append_ #[t, t2] ty #[.slice base n cap, x]).run P w =
      if n + m ≤ cap then (match base with | some a => (storeCells (a.add (n * sz)) news).run P w | none => .ok () w).andThen fun _ w' => .ok (.slice base (n + m) cap) w'
      else .ok (.slice (some ⟨w.heap.size, 0, none⟩) (n + m) (grownCap w (n + m) cap e)) (w.drew.alloc (.cells ((olds ++ news).toArray ++ Builtin.zeroCells z.cells (grownCap w (n + m) cap e - (n + m))) e)) := by
  obtain ⟨i, i1, i2, i3, i4⟩ := ti.ex
  have ht : ∀ w2 : World, (underlying t).run P w2 = .ok (.slice e) w2 := fun w2 => td.run w2
  have ht2 : ∀ w2 : World, (underlying t2).run P w2 = .ok d2 w2 := fun w2 => t2d.run w2
  have hsz : ∀ w2 : World, (sizeOf e).run P w2 = .ok sz w2 := fun w2 => ti.size w2
  have hn1 := hnews w rfl
  have hnd := hnews w.drew rfl
  have hod := holds w.drew rfl
  by_cases hc : n + m ≤ cap
  · rw [if_pos hc]
    rcases appB_cases hd2 with ⟨e2, rfl⟩ | rfl <;> cases base <;> simp [Builtin.append_, ht, ht2, hsz, hln, hc, hn1]
  · rw [if_neg hc]
    have hfit : Builtin.nextslicecap (n + m) cap * i.bytes ≤ 281474976710656 := by rw [i3]; exact growslice_fits (by omega) h2
    have h63 : ¬ (9223372036854775807 < ((n : Int) + (m : Int))) := by simp only [maxLen] at h1; omega
    have h48 : ¬ (281474976710656 < Builtin.nextslicecap (n + m) cap * i.bytes) := by omega
    rcases appB_cases hd2 with ⟨e2, rfl⟩ | rfl <;> simp [Builtin.append_, ht, ht2, hsz, hln, hc, h63, h48, typeInfo, i1, zeroValue, i4, Question.forced, hod, hnd, newRow, grownCap] <;> (congr 2; apply Array.ext'; simp)

theorem grown_row {φ : Ren} {w : World} (sm : Sim P φ h w) {e : TypeId} {sz by_ : Nat} {z : Value} [ti : TyI P e sz by_ z] {xs cs : List Value} (hr : VRels φ h.next xs cs) {n cap : Nat} (hl : cs.length = n * sz) (h1 : n ≤ maxLen) (w1 : World) (hw : w1 = w.drew.alloc (.cells (cs.toArray ++ Builtin.zeroCells z.cells (grownCap w n cap e - n)) e)) :
    ∃ φ', VRel φ' (h.next + 1) (.slice (some ⟨h.next, 0, some sz⟩) n (n + 1)) (.slice (some ⟨w.heap.size, 0, none⟩) n (grownCap w n cap e)) ∧ Sim P φ' (h.alloc ⟨xs, e, true⟩) w1 ∧ Step φ h w φ' (h.alloc ⟨xs, e, true⟩) w1 := by
  subst hw
  have hge := grownCap_ge w n cap e
  have hle := grownCap_le_maxLen w n cap e h1
  have hsz : (cs.toArray ++ Builtin.zeroCells z.cells (grownCap w n cap e - n)).size = grownCap w n cap e * sz := by
    simp only [Array.size_append, List.size_toArray, size_zeroCells, ti.sz, hl, ← Nat.add_mul]
    congr 1
    omega
  obtain ⟨s1, s2⟩ := sm.drew.alloc xs (cs.toArray ++ Builtin.zeroCells z.cells (grownCap w n cap e - n)) e (0, 0) (.inl rfl) (by simp [hr.length]) (fun k v hk => by
    obtain ⟨c, hc, hv⟩ := hr.get hk
    refine ⟨c, ?_, hv⟩
    rw [Array.getElem?_append_left (by simpa using (List.getElem?_eq_some_iff.1 hc).1)]
    simpa using hc)
  refine ⟨_, ?_, s1, Step.drew.trans s2⟩
  refine .newSlice (by omega) hge (by simp only [maxLen] at *; omega) hle ?_
  intro t ht
  cases ht
  rw [hsz]
  exact Nat.le_refl _

variable {t t2 e : TypeId} {d2 : TypeDesc} {x y : Operand} {sz by_ : Nat} {z : Value}

theorem exec_append (ac : Act) (aT : Array TypeId) (w : World) {c : Value} {w' : World} (hr : (Builtin.append_ aT ty #[ac.eval x, ac.eval y]).run P w = .ok c w') :
    (execOp ac.eval ⟨dst, .call ⟨.builtin .append, #[x, y], aT⟩, ty, pos, aft, g⟩).run P w = .ok (.value c) w' := by
  simp [execOp, resolve, invoke, builtin, hr]

/-- Behind nothing. -/
theorem op_appendNil {v : Value} {m : Nat} {news : List Value} [td : TyD P t (.slice e)] [t2d : TyD P t2 d2] [ti : TyI P e sz by_ z] (hd2 : appB d2 = true) (hx : ρ x = .slice none 0 0) (hy : ρ y = v) (hs : Src h sz v m news)
    (h1 : m ≤ maxLen) (h2 : m * by_ ≤ 140737488355328) (k0 : m = 0 → K (.slice none 0 0) h) (k1 : 0 < m → K (.slice (some ⟨h.next, 0, some sz⟩) m (m + 1)) (h.alloc ⟨news, e, true⟩)) :
    AOp P ⟨dst, .call ⟨.builtin .append, #[x, y], #[t, t2]⟩, ty, pos, aft, g⟩ ρ h K :=
  .of_run fun φ ac w r => by
    obtain ⟨_, _, e1⟩ := (hx ▸ r.ev x (by simp [Op.operands, Call.operands])).nilSlice_inv
    obtain ⟨cs, q1, q2, q3, q4⟩ := hs.run r.sim (hy ▸ r.ev y (by simp [Op.operands, Call.operands]))
    have hr := run_append (P := P) (ty := ty) (t := t) (t2 := t2) (z := z) hd2 w none 0 0 m (ac.eval y) [] cs q3 q4 q2 (fun _ _ => rfl) (by omega) (by simpa using h2)
    rw [← e1] at hr
    by_cases hm : m = 0
    · subst hm
      simp only [Nat.add_zero, Nat.le_refl, if_true, Result.andThen_ok] at hr
      exact ⟨_, w, φ, h, _, exec_append ac _ w hr, k0 rfl, .nilSlice, r.sim, Step.refl _ _ _⟩
    · rw [if_neg (by omega)] at hr
      simp only [Nat.zero_add, List.nil_append] at hr
      obtain ⟨φ', v1, v2, v3⟩ := grown_row (P := P) r.sim (e := e) (cap := 0) q1 q2 h1 _ rfl
      refine ⟨_, _, φ', _, _, exec_append ac _ w hr, k1 (by omega), v1, ?_, ?_⟩
      · simpa using v2
      · simpa using v3
/-- Behind a row of the engine's own, at its end. -/
theorem op_append {i n cap : Nat} {b : Blk} {v : Value} {m : Nat} {news : List Value} [td : TyD P t (.slice e)] [t2d : TyD P t2 d2] [ti : TyI P e sz by_ z] (hd2 : appB d2 = true)
    (hx : ρ x = .slice (some ⟨i, 0, some sz⟩) n cap) (hy : ρ y = v) (hi : h.get i = some b) (ho : b.own = true) (he : b.elem = e) (hn : b.cells.length = n * sz) (hs : Src h sz v m news) (hone : news.all oneB = true)
    (h1 : n + m ≤ maxLen) (h2 : (n + m) * by_ ≤ 140737488355328) (kk : K (.slice (some ⟨h.next, 0, some sz⟩) (n + m) (n + m + 1)) ((h.kill i).alloc ⟨b.cells ++ news, e, true⟩)) :
    AOp P ⟨dst, .call ⟨.builtin .append, #[x, y], #[t, t2]⟩, ty, pos, aft, g⟩ ρ h K :=
  .of_run fun φ ac w r => by
    obtain ⟨cap', a', e1, hlt, p1, p2, p3, p4, p5, p6⟩ := (hx ▸ r.ev x (by simp [Op.operands, Call.operands])).slice_inv
    obtain ⟨cs, q1, q2, q3, q4⟩ := hs.run r.sim (hy ▸ r.ev y (by simp [Op.operands, Call.operands]))
    obtain ⟨arr, fr, a1, ⟨a2, a2'⟩, a3, a4, a5⟩ := r.sim.owned hi ho
    have hlim := p6 sz rfl
    have hsrc : Src h sz (.slice (some ⟨i, 0, some sz⟩) n cap) n b.cells := by
      have := Src.slice (h := h) (sz := sz) i 0 (some sz) n cap b hi (by omega)
      rwa [List.drop_zero, List.take_of_length_le (by omega)] at this
    obtain ⟨os, o1, o2, _, o4⟩ := hsrc.run r.sim (hx ▸ r.ev x (by simp [Op.operands, Call.operands]))
    rw [e1] at o4
    have hr := run_append (P := P) (ty := ty) (t := t) (t2 := t2) (z := z) hd2 w (some a') n cap' m (ac.eval y) os cs q3 q4 q2 o4 (by omega) h2
    rw [← e1] at hr
    by_cases hm : n + m ≤ cap'
    · rw [if_pos hm] at hr
      have hmm : (n + m) * sz ≤ cap' * sz := Nat.mul_le_mul_right _ hm
      rw [Nat.add_mul] at hmm
      have hone' : ∀ c ∈ cs, c.oneCell' = true := by
        intro c hc
        obtain ⟨j, hj⟩ := List.getElem?_of_mem hc
        have hjl : j < news.length := by rw [q1.length]; exact (List.getElem?_eq_some_iff.1 hj).1
        have hx := List.getElem?_eq_getElem hjl
        obtain ⟨c', hc', hv⟩ := q1.get hx
        rw [hj] at hc'; cases hc'
        exact hv.one (List.all_eq_true.1 hone _ (List.getElem_mem hjl))
      by_cases hcs : cs = []
      · subst hcs
        have hm0 : news = [] := by have := q1.length; simpa using this
        subst hm0
        have hst : (match some a' with | some a => (storeCells (a.add (n * sz)) []).run P w | none => .ok () w) = (.ok () w : Result Unit) := rfl
        simp only [storeCells, Sem.run_pure, Result.andThen_ok] at hr
        obtain ⟨s1, s2⟩ := r.sim.renumber hi ho
        have hb : (⟨b.cells ++ [], e, true⟩ : Blk) = b := by
          cases b
          simp_all
        refine ⟨_, w, Ren.put φ h.next (φ i), _, _, exec_append ac _ w hr, kk, ?_, by rw [hb]; exact s1, by rw [hb]; exact s2⟩
        · refine .slice _ _ _ _ _ _ _ (by simp [Heap.alloc, Heap.kill]) (by omega) hm (by simp only [maxLen] at *; omega) ?_ p5 (by rw [Ren.put_at]; exact p6)
          rw [Ren.put_at]; exact p4
      · have hapos : cap' ≠ 0 := by
          intro hc0
          have : m = 0 := by omega
          rw [this] at q2
          exact hcs (List.eq_nil_of_length_eq_zero (by simpa using q2))
        obtain rfl := p4.resolve_right hapos
        simp only [a2, Nat.zero_add, Addr.add_lit] at hr
        obtain ⟨w', hst, c1, c2, c3, c4⟩ := run_storeRow P (φ i).b b.elem fr cs (n * sz) 0 arr w a1 (a3.imp id And.left) (by omega) hone'
        rw [hst] at hr
        simp only [Result.andThen_ok] at hr
        simp only [Nat.add_zero] at c4
        have hsl : (Eng.splice arr.toList (n * sz) cs).length = arr.size := by rw [length_splice (by simp; omega)]; simp
        have hnl := q1.length
        obtain ⟨s1, s2⟩ := r.sim.write hi ho a1 (w' := w') (arr' := (Eng.splice arr.toList (n * sz) cs).toArray) (by simpa using hsl) (by simpa [hsl] using a3) c4 c1 c2 c3 (b.cells ++ news) (by simp [hsl]; omega) (by
          intro k v hk
          simp only [List.getElem?_toArray]
          rw [splice_get _ _ _ (by simp; omega)]
          by_cases hk1 : k < b.cells.length
          · rw [List.getElem?_append_left hk1] at hk
            rw [if_neg (by omega)]
            simpa using a5 k v hk
          · rw [List.getElem?_append_right (by omega)] at hk
            have hlt := (List.getElem?_eq_some_iff.1 hk).1
            rw [if_pos (by omega)]
            have := q1.get hk
            rwa [hn] at this)
        obtain ⟨s3, s4⟩ := s1.renumber (i := i) (b := ⟨b.cells ++ news, b.elem, true⟩) (by simp [Heap.set]) rfl
        have hh : ((h.set i ⟨b.cells ++ news, b.elem, true⟩).kill i).alloc ⟨b.cells ++ news, b.elem, true⟩ = (h.kill i).alloc ⟨b.cells ++ news, e, true⟩ := by
          simp only [Heap.alloc, Heap.kill, Heap.set, he, Heap.mk.injEq, and_true]
          funext j
          by_cases h1 : j = h.next
          · simp [h1]
          · by_cases h2 : j = i <;> simp [h1, h2]
        rw [hh] at s3 s4
        refine ⟨_, w', Ren.put φ h.next (φ i), _, _, exec_append ac _ w hr, kk, ?_, s3, s2.trans s4⟩
        refine .slice _ _ _ _ _ _ _ (by simp [Heap.alloc, Heap.kill]) (by omega) hm (by simp only [maxLen] at *; omega) ?_ p5 ?_
        · left
          show _ = (⟨(Ren.put φ h.next (φ i) h.next).b, (Ren.put φ h.next (φ i) h.next).o + 0, none⟩ : Addr)
          rw [Ren.put_at, a2]
        · show ∀ t, _ → _ ≤ (Ren.put φ h.next (φ i) h.next).l
          rw [Ren.put_at]; exact p6
    · rw [if_neg hm] at hr
      have hall : VRels φ h.next (b.cells ++ news) (os ++ cs) := o1.append q1
      obtain ⟨φ', v1, v2, v3⟩ := grown_row (P := P) r.sim (e := e) (cap := cap') hall (n := n + m) (by rw [List.length_append, o2, q2, Nat.add_mul]) h1 _ rfl
      have hx' : ∀ j c, ((h.kill i).alloc ⟨b.cells ++ news, e, true⟩).get j = some c → (h.alloc ⟨b.cells ++ news, e, true⟩).get j = some c := by
        intro j c hj
        have : (if j = h.next then some ⟨b.cells ++ news, e, true⟩ else if j = i then none else h.get j) = some c := hj
        show (if j = h.next then some ⟨b.cells ++ news, e, true⟩ else h.get j) = some c
        split at this
        · rename_i hjn; rw [if_pos hjn]; exact this
        · rename_i hjn
          rw [if_neg hjn]
          split at this
          · cases this
          · exact this
      have v2' : Sim P φ' (h.alloc ⟨b.cells ++ news, e, true⟩) (w.drew.alloc (.cells ((os ++ cs).toArray ++ Builtin.zeroCells z.cells (grownCap w (n + m) cap' e - (n + m))) e)) := by simpa using v2
      have v3' : Step φ h w φ' (h.alloc ⟨b.cells ++ news, e, true⟩) (w.drew.alloc (.cells ((os ++ cs).toArray ++ Builtin.zeroCells z.cells (grownCap w (n + m) cap' e - (n + m))) e)) := by simpa using v3
      refine ⟨_, _, φ', _, _, exec_append ac _ w ?_, kk, v1, v2'.forget rfl ⟨hx', fun _ _ hj => hj⟩, v3'.trans (Step.weak rfl ⟨hx', fun _ _ hj => hj⟩)⟩
      simpa using hr
end Go.Eng

/-
  The engine, part I: strings and bytes, literals, calls.
-/
namespace Go.Eng
open Go

variable {P : Program} {ρ : Operand → Value} {h : Heap} {K : Value → Heap → Prop} {dst : Option Tmp} {ty : TypeId} {pos : String} {aft : Array Edge} {g : Option (Nat × Bool)}

/-- Bytes avs values. -/
def bv (l : List UInt8) : List Value := l.map fun b => .int .u8 (b.toNat : Int)
theorem bv_length (l : List UInt8) : (bv l).length = l.length := by simp [bv]
theorem bv_append (a b : List UInt8) : bv (a ++ b) = bv a ++ bv b := by simp [bv]
theorem bv_take (l : List UInt8) (n : Nat) : (bv l).take n = bv (l.take n) := by simp [bv, List.map_take]
theorem bv_drop (l : List UInt8) (n : Nat) : (bv l).drop n = bv (l.drop n) := by simp [bv, List.map_drop]
theorem bv_scalar (l : List UInt8) : (bv l).all scalar = true := List.all_eq_true.2 (by intro v hv; obtain ⟨b, _, rfl⟩ := List.mem_map.1 hv; rfl)
theorem bv_one (l : List UInt8) : (bv l).all oneB = true := List.all_eq_true.2 (by intro v hv; obtain ⟨b, _, rfl⟩ := List.mem_map.1 hv; rfl)
theorem bv_get (l : List UInt8) (i : Nat) (b : UInt8) (hb : l[i]? = some b) : (bv l)[i]? = some (.int .u8 (b.toNat : Int)) := by simp [bv, hb]
def bstr (l : List UInt8) : ByteArray := ⟨l.toArray⟩

theorem VRels.bytes {φ : Ren} {n : Nat} : ∀ {l : List UInt8} {cs : List Value}, VRels φ n (bv l) cs → cs = bv l
  | [], cs, r => by cases r; rfl
  | b :: l, cs, r => by
    cases r with
    | cons hv t => rw [hv.int_inv, VRels.bytes t]; rfl

/-- A slice of bytes avs a string. -/
theorem op_bytesStr {sT dT e : TypeId} {x : Operand} {i o m c : Nat} {s : Option Nat} {b : Blk} {l : List UInt8} [ts : TyD P sT (.slice e)] [te : TyD P e (.int .u8)] [td : TyD P dT .string] (hx : ρ x = .slice (some ⟨i, o, s⟩) m c)
    (hi : h.get i = some b) (hl : o + m ≤ b.cells.length) (hb : (b.cells.drop o).take m = bv l) (kk : K (.string (bstr l)) h) : AOp P ⟨dst, .convert sT dT x, ty, pos, aft, g⟩ ρ h K :=
  .of_pure kk fun φ ac w r => by
    obtain ⟨cap', a', e1, hlt, q1, q2, q3, q4, q5, q6⟩ := (hx ▸ r.ev x (by simp [Op.operands])).slice_inv
    have hll : l.length = m := by
      have := congrArg List.length hb
      simp [bv] at this
      omega
    refine ⟨.string (bstr l), ?_, .string _⟩
    have hcells : ∀ j (hj : j < l.length), w.cell? (a'.add j) = some (.int .u8 (l[j].toNat : Int)) := by
      intro j hj
      obtain rfl := q4.resolve_right (by omega)
      obtain ⟨cs, h1, h2, h3⟩ := r.sim.row hi o m hl
      rw [hb] at h1
      have hcs := h1.bytes
      refine h3 j _ ?_
      rw [hcs]
      exact bv_get l j _ (List.getElem?_eq_getElem hj)
    have hr := run_convert_bytes_back (P := P) w sT dT e a' cap' l ts.eq te.eq td.eq hcells
    rw [hll] at hr
    simp [execOp, e1, hr, bstr]
theorem op_nilStr {sT dT e : TypeId} {x : Operand} {m c : Nat} [ts : TyD P sT (.slice e)] [te : TyD P e (.int .u8)] [td : TyD P dT .string] (hx : ρ x = .slice none m c)
    (kk : K (.string ByteArray.empty) h) : AOp P ⟨dst, .convert sT dT x, ty, pos, aft, g⟩ ρ h K :=
  .of_pure kk fun φ ac w r => by
    obtain ⟨_, _, e1⟩ := (hx ▸ r.ev x (by simp [Op.operands])).nilSlice_inv
    exact ⟨_, by simp [execOp, e1, convert, ts.run, te.run, td.run, Conv.bytesToString], .string _⟩

/-- A string avs a slice of bytes. -/
theorem op_strBytes {sT dT e : TypeId} {x : Operand} {st : ByteArray} [ts : TyD P sT .string] [te : TyD P e (.int .u8)] [td : TyD P dT (.slice e)] (hx : ρ x = .string st) (hs : st.size ≤ maxLen)
    (kk : K (.slice (some ⟨h.next, 0, some 1⟩) st.size (st.size + 1)) (h.alloc ⟨bv st.data.toList, e, true⟩)) : AOp P ⟨dst, .convert sT dT x, ty, pos, aft, g⟩ ρ h K :=
  .of_run fun φ ac w r => by
    have e1 := (hx ▸ r.ev x (by simp [Op.operands])).string_inv
    have hge := grownCap_ge w st.size 0 e
    have hle := grownCap_le_maxLen w st.size 0 e hs
    have hr := run_bytes_of_string (P := P) w sT dT e st ts.eq td.eq te.eq
    have hds : st.data.size = st.size := rfl
    have hsz : (bytesRow st (grownCap w st.size 0 e)).size = grownCap w st.size 0 e := by simp [bytesRow, hds]; omega
    obtain ⟨s1, s2⟩ := r.sim.drew.alloc (bv st.data.toList) (bytesRow st (grownCap w st.size 0 e)) e ((bytesRow st (grownCap w st.size 0 e)).size, (bytesRow st (grownCap w st.size 0 e)).size + 1)
      (.inr ⟨Nat.le_refl _, te.eq⟩) (by rw [hsz]; simp [bv_length, hds]; omega) (by
        intro k v hk
        refine ⟨v, ?_, ?_⟩
        · have hkl : k < st.data.size := by simpa [bv] using (List.getElem?_eq_some_iff.1 hk).1
          rw [← hk]
          simp only [bytesRow, bv]
          rw [Array.getElem?_append_left (by simpa using hkl)]
          simp
        · have := List.all_eq_true.1 (bv_scalar st.data.toList) v (List.mem_of_getElem? hk)
          exact .of_scalar this)
    refine ⟨_, _, _, _, _, by simp [execOp, e1, hr]; rfl, kk, ?_, s1, Step.drew.trans s2⟩
    refine .newSlice (by omega) hge (by simp only [maxLen] at *; omega) hle ?_
    intro t ht
    cases ht
    rw [hsz]
    omega

theorem appendNil_bytes {l : List UInt8} : (bv l).length = l.length := bv_length l

/-- copy: bytes of a slice into a row of the engine's own. -/
theorem op_copyT {dT e : TypeId} {x y : Operand} {i o n c m by_ : Nat} {s : Option Nat} {z v : Value} {b : Blk} {news : List Value} {sT : TypeId} [td : TyD P dT (.slice e)] [ti : TyI P e 1 by_ z]
    (hx : ρ x = .slice (some ⟨i, o, s⟩) n c) (hy : ρ y = v) (hs : Src h 1 v m news) (hi : h.get i = some b) (ho : b.own = true) (hl : o + min m n ≤ b.cells.length) (hone : (news.take (min m n)).all oneB = true)
    (kk : K (.int .i64 (min m n : Nat)) (h.set i ⟨splice b.cells o (news.take (min m n)), b.elem, true⟩)) : AOp P ⟨dst, .call ⟨.builtin .copy, #[x, y], #[dT, sT]⟩, ty, pos, aft, g⟩ ρ h K :=
  .of_run fun φ ac w r => by
    obtain ⟨cap', a', e1, hlt, q1, q2, q3, q4, q5, q6⟩ := (hx ▸ r.ev x (by simp [Op.operands, Call.operands])).slice_inv
    obtain ⟨cs, p1, p2, p3, p4⟩ := hs.run r.sim (hy ▸ r.ev y (by simp [Op.operands, Call.operands]))
    have hml : news.length = m := by rw [p1.length, p2]; omega
    have hfirst : (Builtin.firstCells 1 (min m n) (ac.eval y)).run P w = .ok (cs.take (min m n)).toArray w := by
      have hv : VRel φ h.next v (ac.eval y) := hy ▸ r.ev y (by simp [Op.operands, Call.operands])
      cases hs with
      | nil => obtain ⟨_, _, e⟩ := hv.nilSlice_inv; rw [e]; simp at p2; subst p2; simp [Builtin.firstCells]
      | empty a cc =>
        obtain ⟨i', o', s'⟩ := a
        obtain ⟨cap'', a'', e, _⟩ := hv.slice_inv
        rw [e]; simp at p2; subst p2
        simp [Builtin.firstCells, loadCells, loadCellsFrom]
      | slice j p s' _ cc bj hj hlj =>
        obtain ⟨cap'', a'', e, hlt', u1, u2, u3, u4, u5, u6⟩ := hv.slice_inv
        rw [e]
        by_cases hm : min m n = 0
        · rw [hm]; simp [Builtin.firstCells, loadCells, loadCellsFrom]
        · obtain rfl := u4.resolve_right (by omega)
          obtain ⟨ds, d1, d2, d3⟩ := r.sim.row hj p (min m n) (by omega)
          have hfc := run_loadCells_list (P := P) w _ ds d3
          rw [d2] at hfc
          have hds : ds = cs.take (min m n) := by
            obtain ⟨es, f1, f2, f3⟩ := r.sim.row hj p (m * 1) (by omega)
            have hcs : cs = es := by
              have := run_loadCells_list (P := P) w _ es f3
              have h4 := p4 w rfl
              rw [e] at h4
              simp only [Builtin.firstCells] at h4
              rw [f2] at this
              rw [this] at h4
              simp at h4
              exact h4.symm
            rw [hcs]
            apply List.ext_getElem?
            intro k
            by_cases hk : k < min m n
            · rw [List.getElem?_take_of_lt hk]
              have h5 := d3 k ds[k] (List.getElem?_eq_getElem (by omega))
              have h6 := f3 k es[k] (List.getElem?_eq_getElem (by omega))
              rw [h5] at h6
              rw [List.getElem?_eq_getElem (show k < ds.length by omega), List.getElem?_eq_getElem (show k < es.length by omega)]
              exact h6
            · rw [List.getElem?_eq_none (by omega), List.getElem?_eq_none (by simp; omega)]
          rw [← hds]
          simpa [Builtin.firstCells] using hfc
      | str st h1 =>
        rw [hv.string_inv]
        have h4 := p4 w rfl
        rw [hv.string_inv] at h4
        simp only [Builtin.firstCells, Sem.run_pure] at h4 ⊢
        have h5 : (st.extract 0 st.size) = st := by
          apply ByteArray.ext
          simp
        rw [h5] at h4
        simp only [Result.ok.injEq, and_true] at h4 ⊢
        have h6 : cs = (st.data.map fun b => Value.int .u8 (b.toNat : Int)).toList := by rw [h4]
        rw [h6]
        apply Array.ext'
        simp
    have hr1 : VRels φ h.next (news.take (min m n)) (cs.take (min m n)) := .of (by simp [p1.length]) (fun j a b ha hb => by
      have hj : j < min m n := by have := (List.getElem?_eq_some_iff.1 ha).1; simp at this; omega
      rw [List.getElem?_take_of_lt hj] at ha hb
      obtain ⟨c', hc', hv⟩ := p1.get ha
      rw [hb] at hc'; cases hc'
      exact hv)
    have hone' : ∀ c ∈ cs.take (min m n), c.oneCell' = true := by
      intro c hc
      obtain ⟨j, hj⟩ := List.getElem?_of_mem hc
      have hjl : j < (news.take (min m n)).length := by rw [hr1.length]; exact (List.getElem?_eq_some_iff.1 hj).1
      obtain ⟨c', hc', hv⟩ := hr1.get (List.getElem?_eq_getElem hjl)
      rw [hj] at hc'; cases hc'
      exact hv.one (List.all_eq_true.1 hone _ (List.getElem_mem hjl))
    obtain ⟨w', h3, h4, h5⟩ := r.sim.splice hi ho (o := o) hr1 (by simp; omega) hone'
    have hz : (φ i).o = 0 := by
      obtain ⟨_, _, _, h2, _⟩ := r.sim.owned hi ho
      exact h2.1
    have hst : (storeCells a' (cs.take (min m n))).run P w = .ok () w' := by
      by_cases hc0 : cap' = 0
      · have : min m n = 0 := by omega
        rw [this] at h3 ⊢
        exact h3
      · obtain rfl := q4.resolve_right hc0
        rw [hz, Nat.zero_add]
        exact h3
    refine ⟨_, w', φ, _, _, ?_, kk, .int _ _, h4, h5⟩
    have hmin : Nat.min m n = min m n := rfl
    simp [execOp, resolve, invoke, builtin, Builtin.copy_, td.run, p3, ti.size, e1, hmin, hfirst, hst, goInt]
theorem op_copy {dT e : TypeId} {x y : Operand} {i o n c m by_ : Nat} {s : Option Nat} {z v : Value} {b : Blk} {news : List Value} {sT : TypeId} [td : TyD P dT (.slice e)] [ti : TyI P e 1 by_ z]
    (hx : ρ x = .slice (some ⟨i, o, s⟩) n c) (hy : ρ y = v) (hs : Src h 1 v m news) (hi : h.get i = some b) (ho : b.own = true) (hl : o + min m n ≤ b.cells.length) (hone : news.all oneB = true)
    (kk : K (.int .i64 (min m n : Nat)) (h.set i ⟨splice b.cells o (news.take (min m n)), b.elem, true⟩)) : AOp P ⟨dst, .call ⟨.builtin .copy, #[x, y], #[dT, sT]⟩, ty, pos, aft, g⟩ ρ h K :=
  op_copyT hx hy hs hi ho hl (List.all_eq_true.2 fun v hv => List.all_eq_true.1 hone v (List.mem_of_mem_take hv)) kk
end Go.Eng
