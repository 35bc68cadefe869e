/-
  Texts of one claim, merged: 3 parts.
-/
import Derived.WalkKit
import Derived.WalkSpells
import Derived.WalkLawsBesides
set_option maxHeartbeats 16000000
/-
  The engine, part A: an abstract heap, and what it says of a world. No program is in sight.
-/
namespace Go.Eng
open Go
structure Blk where
  cells : List Value
  elem : TypeId
  own : Bool
structure AEnt where
  key : Value
  val : Value
  born : Nat
inductive AObj where
  | map (es : List AEnt) (clock : Nat)
  | mapIter (m : Option Nat) (since : Nat) (seen : List Nat) (stepped : Nat)
  | strIter (s : ByteArray) (pos : Nat)
structure Heap where
  get : Nat → Option Blk
  next : Nat
  obj : Nat → Option AObj
def Heap.alloc (h : Heap) (b : Blk) : Heap := ⟨fun i => if i = h.next then some b else h.get i, h.next + 1, h.obj⟩
def Heap.set (h : Heap) (i : Nat) (b : Blk) : Heap := ⟨fun j => if j = i then some b else h.get j, h.next, h.obj⟩
def Heap.kill (h : Heap) (i : Nat) : Heap := ⟨fun j => if j = i then none else h.get j, h.next, h.obj⟩
def Heap.allocO (h : Heap) (o : AObj) : Heap := ⟨h.get, h.next + 1, fun i => if i = h.next then some o else h.obj i⟩
def Heap.setO (h : Heap) (i : Nat) (o : AObj) : Heap := ⟨h.get, h.next, fun j => if j = i then some o else h.obj j⟩
structure Ext (h h' : Heap) : Prop where
  c : ∀ i b, h.get i = some b → h'.get i = some b
  o : ∀ i b, h.obj i = some b → h'.obj i = some b
instance (h h' : Heap) : CoeFun (Ext h h') (fun _ => ∀ i b, h.get i = some b → h'.get i = some b) := ⟨Ext.c⟩
structure WF (h : Heap) : Prop where
  c : ∀ i, h.next ≤ i → h.get i = none
  o : ∀ i, h.next ≤ i → h.obj i = none
instance (h : Heap) : CoeFun (WF h) (fun _ => ∀ i, h.next ≤ i → h.get i = none) := ⟨WF.c⟩
def skipV : Value := .chan none
structure Pl where
  b : Nat
  o : Nat
  l : Nat
abbrev Ren := Nat → Pl
inductive VRel (φ : Ren) (n : Nat) : Value → Value → Prop
  | und (c : Value) : VRel φ n undef c
  | skip : VRel φ n (.chan none) undef
  | bool (b : Bool) : VRel φ n (.bool b) (.bool b)
  | int (k : IntKind) (a : Int) : VRel φ n (.int k a) (.int k a)
  | float (k : FloatKind) (a : Nat) : VRel φ n (.float k a) (.float k a)
  | complex (k : FloatKind) (a b : Nat) : VRel φ n (.complex k a b) (.complex k a b)
  | string (s : ByteArray) : VRel φ n (.string s) (.string s)
  | nilPtr : VRel φ n (.pointer none) (.pointer none)
  | ptr (i o : Nat) (hi : i < n) : VRel φ n (.pointer (some ⟨i, o, none⟩)) (.pointer (some ⟨(φ i).b, (φ i).o + o, none⟩))
  | nilSlice : VRel φ n (.slice none 0 0) (.slice none 0 0)
  | slice (i o len cap cap' : Nat) (s : Option Nat) (a' : Addr) (hi : i < n) (h1 : len ≤ cap) (h2 : len ≤ cap') (h3 : (cap = len → cap' = len) ∧ (18446744073709551616 ≤ cap → cap' + 18446744073709551616 = cap))
      (h4 : a' = ⟨(φ i).b, (φ i).o + o, none⟩ ∨ cap' = 0) (h5 : cap' ≤ maxLen) (h6 : ∀ t, s = some t → o + cap' * t ≤ (φ i).l) : VRel φ n (.slice (some ⟨i, o, s⟩) len cap) (.slice (some a') len cap')
  | func (fn : Fn) (f c f' c' : Array Value) (h1 : f.size = f'.size) (h2 : c.size = c'.size) (h3 : ∀ (k : Nat) x y, f[k]? = some x → f'[k]? = some y → VRel φ n x y)
      (h4 : ∀ (k : Nat) x y, c[k]? = some x → c'[k]? = some y → VRel φ n x y) : VRel φ n (.func fn f c) (.func fn f' c')
  | nilFunc : VRel φ n .nilFunc .nilFunc
  | iface (t : TypeId) (v v' : Value) (h : VRel φ n v v') : VRel φ n (.iface t v) (.iface t v')
  | nilIface : VRel φ n .nilIface .nilIface
  | agg (c c' : Array Value) (h1 : c.size = c'.size) (h2 : ∀ (k : Nat) x y, c[k]? = some x → c'[k]? = some y → VRel φ n x y) : VRel φ n (.agg c) (.agg c')
  | tuple (c c' : Array Value) (h1 : c.size = c'.size) (h2 : ∀ (k : Nat) x y, c[k]? = some x → c'[k]? = some y → VRel φ n x y) : VRel φ n (.tuple c) (.tuple c')
  | nilMap : VRel φ n (.map none) (.map none)
  | map (i : Nat) (hi : i < n) : VRel φ n (.map (some i)) (.map (some (φ i).b))
theorem VRel.mono {φ φ' : Ren} {n n' : Nat} (ha : ∀ i, i < n → φ' i = φ i) (hn : n ≤ n') {v c : Value} (h : VRel φ n v c) : VRel φ' n' v c := by
  induction h with
  | und c => exact .und c
  | skip => exact .skip
  | bool b => exact .bool b
  | int k a => exact .int k a
  | float k a => exact .float k a
  | complex k a b => exact .complex k a b
  | string s => exact .string s
  | nilPtr => exact .nilPtr
  | ptr i o hi => rw [← ha i hi]; exact .ptr i o (by omega)
  | nilSlice => exact .nilSlice
  | slice i o len cap cap' s a' hi h1 h2 h3 h4 h5 h6 => exact .slice i o len cap cap' s a' (by omega) h1 h2 h3 (by rw [ha i hi]; exact h4) h5 (by rw [ha i hi]; exact h6)
  | func fn f c f' c' h1 h2 _ _ i3 i4 => exact .func fn f c f' c' h1 h2 (fun k x y hx hy => i3 k x y hx hy) (fun k x y hx hy => i4 k x y hx hy)
  | nilFunc => exact .nilFunc
  | iface t v v' _ ih => exact .iface t v v' ih
  | nilIface => exact .nilIface
  | agg c c' h1 _ ih => exact .agg c c' h1 ih
  | tuple c c' h1 _ ih => exact .tuple c c' h1 ih
  | nilMap => exact .nilMap
  | map i hi => rw [← ha i hi]; exact .map i (by omega)
def scalar : Value → Bool
  | .bool _ | .int _ _ | .float _ _ | .complex _ _ _ | .string _ | .pointer none | .slice none 0 0 | .map none | .nilFunc | .nilIface => true
  | .func _ f c => f.size == 0 && c.size == 0
  | .tuple c => c.size == 0
  | _ => false
def plainV : Value → Bool
  | .agg c => c.all scalar
  | .tuple c => c.all scalar
  | .iface _ v => scalar v
  | v => scalar v
theorem size_zero_eq {α : Type} {a : Array α} (h : (a.size == 0) = true) : a = #[] := by
  simpa using h
theorem VRel.of_scalar {φ : Ren} {n : Nat} {v : Value} (h : scalar v = true) : VRel φ n v v := by
  unfold scalar at h
  split at h
  · exact .bool _
  · exact .int _ _
  · exact .float _ _
  · exact .complex _ _ _
  · exact .string _
  · exact .nilPtr
  · exact .nilSlice
  · exact .nilMap
  · exact .nilFunc
  · exact .nilIface
  · simp only [Bool.and_eq_true] at h
    have h1 := size_zero_eq h.1
    have h2 := size_zero_eq h.2
    subst h1 h2
    exact .func _ _ _ _ _ rfl rfl (by simp) (by simp)
  · have h1 := size_zero_eq h
    subst h1
    exact .und _
  · cases h
theorem VRel.of_plain {φ : Ren} {n : Nat} {v : Value} (h : plainV v = true) : VRel φ n v v := by
  unfold plainV at h
  split at h
  · rename_i c
    refine .agg _ _ rfl fun k x y hx hy => ?_
    rw [hx] at hy; cases hy
    exact .of_scalar (Array.all_eq_true_iff_forall_mem.1 h x (Array.mem_of_getElem? hx))
  · rename_i c
    refine .tuple _ _ rfl fun k x y hx hy => ?_
    rw [hx] at hy; cases hy
    exact .of_scalar (Array.all_eq_true_iff_forall_mem.1 h x (Array.mem_of_getElem? hx))
  · exact .iface _ _ _ (.of_scalar h)
  · exact .of_scalar h
section inversions
variable {φ : Ren} {n : Nat} {c : Value}
theorem VRel.bool_inv {b : Bool} (h : VRel φ n (.bool b) c) : c = .bool b := by cases h; rfl
theorem VRel.int_inv {k : IntKind} {a : Int} (h : VRel φ n (.int k a) c) : c = .int k a := by cases h; rfl
theorem VRel.string_inv {s : ByteArray} (h : VRel φ n (.string s) c) : c = .string s := by cases h; rfl
theorem VRel.nilPtr_inv (h : VRel φ n (.pointer none) c) : c = .pointer none := by cases h; rfl
theorem VRel.ptr_inv {i o : Nat} {s : Option Nat} (h : VRel φ n (.pointer (some ⟨i, o, s⟩)) c) : s = none ∧ i < n ∧ c = .pointer (some ⟨(φ i).b, (φ i).o + o, none⟩) := by
  cases h with
  | ptr _ _ hi => exact ⟨rfl, hi, rfl⟩
theorem VRel.nilSlice_inv {k m : Nat} (h : VRel φ n (.slice none k m) c) : k = 0 ∧ m = 0 ∧ c = .slice none 0 0 := by cases h; exact ⟨rfl, rfl, rfl⟩
theorem VRel.slice_inv {i o len cap : Nat} {s : Option Nat} (h : VRel φ n (.slice (some ⟨i, o, s⟩) len cap) c) :
    ∃ cap' a', c = .slice (some a') len cap' ∧ i < n ∧ len ≤ cap ∧ len ≤ cap' ∧ ((cap = len → cap' = len) ∧ (18446744073709551616 ≤ cap → cap' + 18446744073709551616 = cap)) ∧ (a' = ⟨(φ i).b, (φ i).o + o, none⟩ ∨ cap' = 0) ∧ cap' ≤ maxLen ∧ (∀ t, s = some t → o + cap' * t ≤ (φ i).l) := by
  cases h with
  | slice _ _ _ _ cap' _ a' hi h1 h2 h3 h4 h5 h6 => exact ⟨cap', a', rfl, hi, h1, h2, h3, h4, h5, h6⟩
theorem VRel.func_inv {fn : Fn} {f d : Array Value} (h : VRel φ n (.func fn f d) c) :
    ∃ f' d', c = .func fn f' d' ∧ f.size = f'.size ∧ d.size = d'.size ∧ (∀ (k : Nat) x y, f[k]? = some x → f'[k]? = some y → VRel φ n x y) ∧ (∀ (k : Nat) x y, d[k]? = some x → d'[k]? = some y → VRel φ n x y) := by
  cases h with
  | func _ _ _ f' c' h1 h2 h3 h4 => exact ⟨f', c', rfl, h1, h2, h3, h4⟩
theorem VRel.iface_inv {t : TypeId} {v : Value} (h : VRel φ n (.iface t v) c) : ∃ v', c = .iface t v' ∧ VRel φ n v v' := by
  cases h with
  | iface _ _ v' h => exact ⟨v', rfl, h⟩
theorem VRel.agg_inv {v : Array Value} (h : VRel φ n (.agg v) c) : ∃ v', c = .agg v' ∧ v.size = v'.size ∧ ∀ (k : Nat) x y, v[k]? = some x → v'[k]? = some y → VRel φ n x y := by
  cases h with
  | agg _ c' h1 h2 => exact ⟨c', rfl, h1, h2⟩
theorem VRel.tuple_inv {v : Array Value} (h : VRel φ n (.tuple v) c) (h0 : v.size ≠ 0) : ∃ v', c = .tuple v' ∧ v.size = v'.size ∧ ∀ (k : Nat) x y, v[k]? = some x → v'[k]? = some y → VRel φ n x y := by
  generalize hv : Value.tuple v = u at h
  cases h with
  | und => simp only [undef, Value.tuple.injEq] at hv; subst hv; simp at h0
  | tuple c c' h1 h2 => cases hv; exact ⟨c', rfl, h1, h2⟩
  | _ => cases hv
theorem VRel.skip_inv (h : VRel φ n (.chan none) c) : c = undef := by cases h; rfl
theorem VRel.nilMap_inv (h : VRel φ n (.map none) c) : c = .map none := by cases h; rfl
theorem VRel.map_inv {i : Nat} (h : VRel φ n (.map (some i)) c) : i < n ∧ c = .map (some (φ i).b) := by
  cases h with
  | map _ hi => exact ⟨hi, rfl⟩
end inversions
def ByteT (P : Program) (e : TypeId) : Prop := P.underlying e = some (.int .u8)
def Whole (φ : Ren) (i : Nat) (b : Blk) (w : World) : Prop := b.elem = 0 ∨ ((φ i).o = 0 ∧ ∃ arr t fr, w.heap[(φ i).b]? = some (.cells arr t fr) ∧ arr.size = b.cells.length)
def BRel (P : Program) (φ : Ren) (n : Nat) (i : Nat) (b : Blk) (w : World) : Prop :=
  if b.own = true then
    ∃ arr fr, w.heap[(φ i).b]? = some (.cells arr b.elem fr) ∧ ((φ i).o = 0 ∧ (φ i).l ≤ arr.size) ∧ (fr.1 = fr.2 ∨ (arr.size ≤ fr.1 ∧ ByteT P b.elem)) ∧ b.cells.length ≤ arr.size ∧
      ∀ (k : Nat) v, b.cells[k]? = some v → ∃ c, arr[k]? = some c ∧ VRel φ n v c
  else Whole φ i b w ∧ ∀ (k : Nat) v, b.cells[k]? = some v → ∃ c, w.cell? ⟨(φ i).b, (φ i).o + k, none⟩ = some c ∧ VRel φ n v c
def ERel (φ : Ren) (n : Nat) (e : AEnt) (c : MapEntry) : Prop := VRel φ n e.key c.key ∧ VRel φ n e.val c.val ∧ c.born = e.born
def ORel (φ : Ren) (n : Nat) (i : Nat) (o : AObj) (w : World) : Prop :=
  match o with
  | .map es clock => ∃ cs, w.heap[(φ i).b]? = some (.map cs clock) ∧ es.length = cs.size ∧ ∀ (k : Nat) e c, es[k]? = some e → cs[k]? = some c → ERel φ n e c
  | .mapIter m since seen stepped => w.heap[(φ i).b]? = some (.mapIter (m.map fun j => (φ j).b) since seen.toArray stepped) ∧ (φ i).o = 0 ∧ ∀ j, m = some j → j < n
  | .strIter s pos => w.heap[(φ i).b]? = some (.stringIter s pos) ∧ (φ i).o = 0
def keptB : Obj → Bool
  | .cells _ _ _ => true
  | .map _ _ => true
  | .mapIter _ _ _ _ => true
  | .stringIter _ _ => true
  | _ => false
theorem ORel.obj {φ : Ren} {n i : Nat} {o : AObj} {w : World} (r : ORel φ n i o w) : ∃ x, w.heap[(φ i).b]? = some x ∧ keptB x = true ∧ ∀ arr e f, x ≠ .cells arr e f := by
  cases o with
  | map es clock => obtain ⟨cs, h1, _⟩ := r; exact ⟨_, h1, rfl, fun _ _ _ => by simp⟩
  | mapIter m since seen stepped => exact ⟨_, r.1, rfl, fun _ _ _ => by simp⟩
  | strIter s pos => exact ⟨_, r.1, rfl, fun _ _ _ => by simp⟩
theorem ORel.world {φ φ' : Ren} {n n' i : Nat} {o : AObj} {w w' : World} (r : ORel φ n i o w) (ha : ∀ i, i < n → φ' i = φ i) (hi : i < n) (hn : n ≤ n') (hb : w'.heap[(φ i).b]? = w.heap[(φ i).b]?) : ORel φ' n' i o w' := by
  cases o with
  | map es clock =>
    obtain ⟨cs, h1, h2, h3⟩ := r
    refine ⟨cs, by rw [ha i hi, hb, h1], h2, fun k e c he hc => ?_⟩
    obtain ⟨q1, q2, q3⟩ := h3 k e c he hc
    exact ⟨q1.mono ha hn, q2.mono ha hn, q3⟩
  | mapIter m since seen stepped =>
    obtain ⟨h1, h2, h3⟩ := r
    refine ⟨?_, by rw [ha i hi]; exact h2, fun j hj => by have := h3 j hj; omega⟩
    rw [ha i hi, hb, h1]
    cases m with
    | none => rfl
    | some j => simp only [Option.map_some]; rw [ha j (h3 j rfl)]
  | strIter s pos => exact ⟨by rw [ha i hi, hb, r.1], by rw [ha i hi]; exact r.2⟩
def Owned (φ : Ren) (h : Heap) (k : Nat) : Prop := (∃ i b, h.get i = some b ∧ b.own = true ∧ (φ i).b = k) ∨ ∃ i o, h.obj i = some o ∧ (φ i).b = k
structure Sim (P : Program) (φ : Ren) (h : Heap) (w : World) : Prop where
  next : WF h
  blk : ∀ i b, h.get i = some b → BRel P φ h.next i b w
  low : ∀ i b, h.get i = some b → (φ i).b < w.heap.size
  apart : ∀ i j b, h.get i = some b → b.own = true → h.get j ≠ none → (φ j).b = (φ i).b → j = i
  glob : ∀ g, g < P.globals.size → ((φ g).b = g ∧ (φ g).o = 0) ∧ g < h.next
  objs : ∀ i o, h.obj i = some o → ORel φ h.next i o w
  apartO : ∀ i j o, h.obj i = some o → h.obj j ≠ none → (φ j).b = (φ i).b → j = i
structure Step (φ : Ren) (h : Heap) (w : World) (φ' : Ren) (h' : Heap) (w' : World) : Prop where
  next : h.next ≤ h'.next
  agree : ∀ i, i < h.next → φ' i = φ i
  os : w'.os = w.os
  tape : w'.tape = w.tape
  output : w'.output = w.output
  size : w.heap.size ≤ w'.heap.size
  frame : ∀ k, k < w.heap.size → ¬ Owned φ h k → w'.heap[k]? = w.heap[k]?
  own : ∀ k, Owned φ' h' k → Owned φ h k ∨ w.heap.size ≤ k
theorem Step.refl (φ : Ren) (h : Heap) (w : World) : Step φ h w φ h w :=
  ⟨Nat.le_refl _, fun _ _ => rfl, rfl, rfl, rfl, Nat.le_refl _, fun _ _ _ => rfl, fun _ hk => .inl hk⟩
theorem Step.trans {φ1 φ2 φ3 : Ren} {h1 h2 h3 : Heap} {w1 w2 w3 : World} (a : Step φ1 h1 w1 φ2 h2 w2) (b : Step φ2 h2 w2 φ3 h3 w3) : Step φ1 h1 w1 φ3 h3 w3 where
  next := Nat.le_trans a.next b.next
  agree i hi := (b.agree i (Nat.lt_of_lt_of_le hi a.next)).trans (a.agree i hi)
  os := b.os.trans a.os
  tape := b.tape.trans a.tape
  output := b.output.trans a.output
  size := Nat.le_trans a.size b.size
  frame k hk ho := by
    rw [b.frame k (Nat.lt_of_lt_of_le hk a.size) (fun h => (a.own k h).elim ho (fun h' => by omega)), a.frame k hk ho]
  own k hk := (b.own k hk).elim (fun h => a.own k h) (fun h => .inr (Nat.le_trans a.size h))
theorem Step.mono {φ φ' : Ren} {h h' : Heap} {w w' : World} (s : Step φ h w φ' h' w') {v c : Value} (r : VRel φ h.next v c) : VRel φ' h'.next v c :=
  r.mono s.agree s.next
theorem Step.drew {φ : Ren} {h : Heap} {w : World} : Step φ h w φ h w.drew :=
  ⟨Nat.le_refl _, fun _ _ => rfl, rfl, rfl, rfl, Nat.le_refl _, fun _ _ _ => rfl, fun _ hk => .inl hk⟩
theorem Sim.drew {P : Program} {φ : Ren} {h : Heap} {w : World} (s : Sim P φ h w) : Sim P φ h w.drew := ⟨s.next, s.blk, s.low, s.apart, s.glob, s.objs, s.apartO⟩
theorem Sim.lt {P : Program} {φ : Ren} {h : Heap} {w : World} (s : Sim P φ h w) {i : Nat} {b : Blk} (hi : h.get i = some b) : i < h.next := by
  rcases Nat.lt_or_ge i h.next with h1 | h1
  · exact h1
  · rw [s.next.c i h1] at hi; cases hi
theorem Sim.ltO {P : Program} {φ : Ren} {h : Heap} {w : World} (s : Sim P φ h w) {i : Nat} {o : AObj} (hi : h.obj i = some o) : i < h.next := by
  rcases Nat.lt_or_ge i h.next with h1 | h1
  · exact h1
  · rw [s.next.o i h1] at hi; cases hi
theorem Sim.lowO {P : Program} {φ : Ren} {h : Heap} {w : World} (s : Sim P φ h w) {i : Nat} {o : AObj} (hi : h.obj i = some o) : (φ i).b < w.heap.size := by
  obtain ⟨x, h1, _⟩ := (s.objs i o hi).obj
  exact (Array.getElem?_eq_some_iff.1 h1).1
theorem Sim.forget {P : Program} {φ : Ren} {h h' : Heap} {w : World} (s : Sim P φ h w) (hn : h'.next = h.next) (hg : Ext h' h) : Sim P φ h' w where
  next := by
    refine ⟨fun i hi => ?_, fun i hi => ?_⟩
    · cases hx : h'.get i with
      | none => rfl
      | some b => have := hg.c i b hx; rw [s.next.c i (by omega)] at this; cases this
    · cases hx : h'.obj i with
      | none => rfl
      | some b => have := hg.o i b hx; rw [s.next.o i (by omega)] at this; cases this
  blk i b hi := by rw [hn]; exact s.blk i b (hg.c i b hi)
  low i b hi := s.low i b (hg.c i b hi)
  apart i j b hi ho hj he := by
    cases hx : h'.get j with
    | none => exact absurd hx hj
    | some c => exact s.apart i j b (hg.c i b hi) ho (by rw [hg.c j c hx]; simp) he
  glob g hg' := by rw [hn]; exact s.glob g hg'
  objs i o hi := by rw [hn]; exact s.objs i o (hg.o i o hi)
  apartO i j o hi hj he := by
    cases hx : h'.obj j with
    | none => exact absurd hx hj
    | some c => exact s.apartO i j o (hg.o i o hi) (by rw [hg.o j c hx]; simp) he
theorem Owned.forget {φ : Ren} {h h' : Heap} (hg : Ext h' h) {k : Nat} (o : Owned φ h' k) : Owned φ h k := by
  rcases o with ⟨i, b, h1, h2, h3⟩ | ⟨i, x, h1, h2⟩
  · exact .inl ⟨i, b, hg.c i b h1, h2, h3⟩
  · exact .inr ⟨i, x, hg.o i x h1, h2⟩
theorem Sim.owned {P : Program} {φ : Ren} {h : Heap} {w : World} (s : Sim P φ h w) {i : Nat} {b : Blk} (hi : h.get i = some b) (ho : b.own = true) :
    ∃ arr fr, w.heap[(φ i).b]? = some (.cells arr b.elem fr) ∧ ((φ i).o = 0 ∧ (φ i).l ≤ arr.size) ∧ (fr.1 = fr.2 ∨ (arr.size ≤ fr.1 ∧ ByteT P b.elem)) ∧ b.cells.length ≤ arr.size ∧
      ∀ (k : Nat) v, b.cells[k]? = some v → ∃ c, arr[k]? = some c ∧ VRel φ h.next v c := by
  have := s.blk i b hi
  simpa [BRel, ho] using this
theorem Sim.cell {P : Program} {φ : Ren} {h : Heap} {w : World} (s : Sim P φ h w) {i : Nat} {b : Blk} (hi : h.get i = some b) {k : Nat} {v : Value} (hk : b.cells[k]? = some v) :
    ∃ c, w.cell? ⟨(φ i).b, (φ i).o + k, none⟩ = some c ∧ VRel φ h.next v c := by
  by_cases ho : b.own = true
  · obtain ⟨arr, fr, h1, h2, _, _, h5⟩ := s.owned hi ho
    obtain ⟨c, hc, hr⟩ := h5 k v hk
    exact ⟨c, by simp [World.cell?, h1, h2.1, hc], hr⟩
  · have := s.blk i b hi
    simp only [BRel, ho, if_false, Bool.false_eq_true] at this
    exact this.2 k v hk
end Go.Eng
/-
  The engine, part B: how the abstract heap follows the world: a new block, a block written, a block under a new number, a step back «to» an elder heap.
-/
namespace Go.Eng
open Go
variable {P : Program} {φ : Ren} {h : Heap} {w : World}
theorem heap_push (w : World) (o : Obj) (k : Nat) : (w.heap.push o)[k]? = if k = w.heap.size then some o else w.heap[k]? := by
  rw [Array.getElem?_push]
theorem BRel.world {P : Program} {φ φ' : Ren} {n n' : Nat} {i : Nat} {b : Blk} {w w' : World} (r : BRel P φ n i b w) (ha : ∀ i, i < n → φ' i = φ i) (hi : i < n) (hn : n ≤ n') (hb : w'.heap[(φ i).b]? = w.heap[(φ i).b]?) : BRel P φ' n' i b w' := by
  unfold BRel at r ⊢
  by_cases ho : b.own = true
  · simp only [ho, if_true] at r ⊢
    obtain ⟨arr, fr, h1, h2, h3, h4, h5⟩ := r
    refine ⟨arr, fr, by rw [ha i hi, hb, h1], by rw [ha i hi]; exact h2, h3, h4, fun k v hk => ?_⟩
    obtain ⟨c, hc, hr⟩ := h5 k v hk
    exact ⟨c, hc, hr.mono ha hn⟩
  · simp only [ho, if_false, Bool.false_eq_true] at r ⊢
    obtain ⟨r0, r⟩ := r
    refine ⟨?_, fun k v hk => ?_⟩
    · unfold Whole at r0 ⊢
      rw [ha i hi, hb]
      exact r0
    obtain ⟨c, hc, hr⟩ := r k v hk
    refine ⟨c, ?_, hr.mono ha hn⟩
    rw [ha i hi]
    rw [World.cell?_of_block (w := w) hb]
    exact hc
def Ren.put (φ : Ren) (n : Nat) (x : Pl) : Ren := fun i => if i = n then x else φ i
theorem Ren.put_lt {φ : Ren} {n : Nat} {x : Pl} : ∀ i, i < n → (Ren.put φ n x) i = φ i := fun i hi => by simp [Ren.put, Nat.ne_of_lt hi]
theorem Ren.put_at {φ : Ren} {n : Nat} {x : Pl} : (Ren.put φ n x) n = x := by simp [Ren.put]
theorem Sim.alloc (s : Sim P φ h w) (cs : List Value) (arr : Array Value) (e : TypeId) (fr : Nat × Nat) (hfr : fr.1 = fr.2 ∨ (arr.size ≤ fr.1 ∧ ByteT P e))
    (hl : cs.length ≤ arr.size) (hr : ∀ (k : Nat) v, cs[k]? = some v → ∃ c, arr[k]? = some c ∧ VRel φ h.next v c) :
    Sim P (Ren.put φ h.next ⟨w.heap.size, 0, arr.size⟩) (h.alloc ⟨cs, e, true⟩) (w.alloc (.cells arr e fr)) ∧
    Step φ h w (Ren.put φ h.next ⟨w.heap.size, 0, arr.size⟩) (h.alloc ⟨cs, e, true⟩) (w.alloc (.cells arr e fr)) := by
  have hheap : ∀ k : Nat, (w.alloc (.cells arr e fr)).heap[k]? = if k = w.heap.size then some (.cells arr e fr) else w.heap[k]? := fun k => heap_push w _ k
  have hold : ∀ i b, (h.alloc ⟨cs, e, true⟩).get i = some b → i ≠ h.next → h.get i = some b := by
    intro i b hb hne
    simpa [Heap.alloc, hne] using hb
  constructor
  · refine ⟨?_, ?_, ?_, ?_, ?_, ?_, ?_⟩
    · refine ⟨fun i hi => ?_, fun i hi => ?_⟩
      · have h1 : h.next + 1 ≤ i := hi
        simp only [Heap.alloc]
        rw [if_neg (by omega), s.next.c i (by omega)]
      · have h1 : h.next + 1 ≤ i := hi
        exact s.next.o i (by omega)
    · intro i b hb
      by_cases hin : i = h.next
      · subst hin
        have : b = ⟨cs, e, true⟩ := by simpa [Heap.alloc] using hb.symm
        subst this
        simp only [BRel, if_true, Ren.put_at]
        refine ⟨arr, fr, by rw [hheap]; simp, ⟨trivial, Nat.le_refl _⟩, hfr, hl, fun k v hk => ?_⟩
        obtain ⟨c, hc, hv⟩ := hr k v hk
        exact ⟨c, hc, hv.mono Ren.put_lt (by simp [Heap.alloc])⟩
      · have hb' := hold i b hb hin
        refine (s.blk i b hb').world Ren.put_lt (s.lt hb') (by simp [Heap.alloc]) ?_
        rw [hheap, if_neg (by have := s.low i b hb'; omega)]
    · intro i b hb
      by_cases hin : i = h.next
      · subst hin
        rw [Ren.put_at]
        simp
      · have hb' := hold i b hb hin
        rw [Ren.put_lt i (s.lt hb')]
        have := s.low i b hb'
        simp; omega
    · intro i j b hb ho hj he
      cases hxj : (h.alloc ⟨cs, e, true⟩).get j with
      | none => exact absurd hxj hj
      | some bj =>
        by_cases hin : i = h.next
        · by_cases hjn : j = h.next
          · omega
          · exfalso
            have hb' := hold j bj hxj hjn
            rw [hin, Ren.put_at, Ren.put_lt j (s.lt hb')] at he
            have := s.low j bj hb'
            simp at he; omega
        · have hb' := hold i b hb hin
          rw [Ren.put_lt i (s.lt hb')] at he
          by_cases hjn : j = h.next
          · exfalso
            rw [hjn, Ren.put_at] at he
            have := s.low i b hb'
            simp at he; omega
          · have hbj := hold j bj hxj hjn
            rw [Ren.put_lt j (s.lt hbj)] at he
            exact s.apart i j b hb' ho (by rw [hbj]; simp) he
    · intro g hg
      obtain ⟨h1, h2⟩ := s.glob g hg
      exact ⟨by rw [Ren.put_lt g h2]; exact h1, by simp only [Heap.alloc]; omega⟩
    · intro i o hi
      refine (s.objs i o hi).world Ren.put_lt (s.ltO hi) (by simp [Heap.alloc]) ?_
      rw [hheap, if_neg (by have := s.lowO hi; omega)]
    · intro i j o hi hj he
      cases hx : (h.alloc ⟨cs, e, true⟩).obj j with
      | none => exact absurd hx hj
      | some oj =>
        rw [Ren.put_lt i (s.ltO hi), Ren.put_lt j (s.ltO hx)] at he
        exact s.apartO i j o hi hj he
  · refine ⟨by simp [Heap.alloc], Ren.put_lt, rfl, rfl, rfl, by simp, fun k hk _ => by rw [hheap, if_neg (by omega)], ?_⟩
    rintro k (⟨i, b, h1, h2, h3⟩ | ⟨i, o, h1, h3⟩)
    · by_cases hin : i = h.next
      · subst hin
        rw [Ren.put_at] at h3
        exact .inr (by simp at h3; omega)
      · have hb' := hold i b h1 hin
        rw [Ren.put_lt i (s.lt hb')] at h3
        exact .inl (.inl ⟨i, b, hb', h2, h3⟩)
    · rw [Ren.put_lt i (s.ltO h1)] at h3
      exact .inl (.inr ⟨i, o, h1, h3⟩)
theorem Sim.write (s : Sim P φ h w) {i : Nat} {b : Blk} (hi : h.get i = some b) (ho : b.own = true) {arr : Array Value} {fr : Nat × Nat} (harr : w.heap[(φ i).b]? = some (.cells arr b.elem fr))
    {w' : World} {arr' : Array Value} {fr' : Nat × Nat} (hsz : arr'.size = arr.size) (hfr' : fr'.1 = fr'.2 ∨ (arr'.size ≤ fr'.1 ∧ ByteT P b.elem)) (hw : ∀ k : Nat, w'.heap[k]? = if k = (φ i).b then some (.cells arr' b.elem fr') else w.heap[k]?)
    (hos : w'.os = w.os) (htape : w'.tape = w.tape) (hout : w'.output = w.output)
    (cs : List Value) (hl : cs.length ≤ arr'.size) (hr : ∀ (k : Nat) v, cs[k]? = some v → ∃ c, arr'[k]? = some c ∧ VRel φ h.next v c) :
    Sim P φ (h.set i ⟨cs, b.elem, true⟩) w' ∧ Step φ h w φ (h.set i ⟨cs, b.elem, true⟩) w' := by
  have hlow := s.low i b hi
  have hsize : w'.heap.size = w.heap.size := by
    apply Nat.le_antisymm
    · rcases Nat.lt_or_ge w.heap.size w'.heap.size with hlt | hge
      · have := hw w.heap.size
        rw [if_neg (by omega), Array.getElem?_eq_none (Nat.le_refl _), Array.getElem?_eq_getElem hlt] at this
        cases this
      · exact hge
    · rcases Nat.lt_or_ge w'.heap.size w.heap.size with hlt | hge
      · have := hw w'.heap.size
        rw [Array.getElem?_eq_none (Nat.le_refl _)] at this
        split at this
        · cases this
        · rw [Array.getElem?_eq_getElem hlt] at this; cases this
      · exact hge
  have hold : ∀ j bj, (h.set i ⟨cs, b.elem, true⟩).get j = some bj → j ≠ i → h.get j = some bj := by
    intro j bj hj hne
    simpa [Heap.set, hne] using hj
  obtain ⟨arr0, fr0, e1, e2, _, _, _⟩ := s.owned hi ho
  rw [harr] at e1
  simp only [Option.some.injEq, Obj.cells.injEq, true_and] at e1
  obtain ⟨rfl, rfl⟩ := e1
  have hob : ∀ j o, h.obj j = some o → (φ j).b ≠ (φ i).b := by
    intro j o hj he
    obtain ⟨x, q1, _, q2⟩ := (s.objs j o hj).obj
    rw [he, harr] at q1
    exact q2 _ _ _ (Option.some.inj q1).symm
  constructor
  · refine ⟨?_, ?_, ?_, ?_, ?_, ?_, ?_⟩
    · refine ⟨fun j hj => ?_, fun j hj => s.next.o j hj⟩
      have h1 : h.next ≤ j := hj
      have := s.lt hi
      simp only [Heap.set]
      rw [if_neg (by omega), s.next.c j h1]
    · intro j bj hj
      by_cases hji : j = i
      · subst hji
        have : bj = ⟨cs, b.elem, true⟩ := by simpa [Heap.set] using hj.symm
        subst this
        simp only [BRel, if_true]
        exact ⟨arr', fr', by rw [hw]; simp, by rw [hsz]; exact e2, hfr', hl, hr⟩
      · have hj' := hold j bj hj hji
        refine (s.blk j bj hj').world (fun _ _ => rfl) (s.lt hj') (Nat.le_refl _) ?_
        rw [hw, if_neg]
        intro he
        exact hji (s.apart i j b hi ho (by rw [hj']; simp) he)
    · intro j bj hj
      rw [hsize]
      by_cases hji : j = i
      · subst hji; exact hlow
      · exact s.low j bj (hold j bj hj hji)
    · intro j k bj hj hoj hk he
      cases hxk : (h.set i ⟨cs, b.elem, true⟩).get k with
      | none => exact absurd hxk hk
      | some bk =>
        have hk' : h.get k ≠ none := by
          by_cases hki : k = i
          · subst hki; rw [hi]; simp
          · rw [hold k bk hxk hki]; simp
        by_cases hji : j = i
        · subst hji; exact s.apart j k b hi ho hk' he
        · exact s.apart j k bj (hold j bj hj hji) hoj hk' he
    · exact s.glob
    · intro j o hj
      refine (s.objs j o hj).world (fun _ _ => rfl) (s.ltO hj) (Nat.le_refl _) ?_
      rw [hw, if_neg (hob j o hj)]
    · exact s.apartO
  · refine ⟨Nat.le_refl _, fun _ _ => rfl, hos, htape, hout, by omega, ?_, ?_⟩
    · intro k hk hno
      rw [hw, if_neg]
      intro he
      exact hno (.inl ⟨i, b, hi, ho, he.symm⟩)
    · rintro k (⟨j, bj, h1, h2, h3⟩ | ⟨j, o, h1, h3⟩)
      · by_cases hji : j = i
        · subst hji; exact .inl (.inl ⟨j, b, hi, ho, h3⟩)
        · exact .inl (.inl ⟨j, bj, hold j bj h1 hji, h2, h3⟩)
      · exact .inl (.inr ⟨j, o, h1, h3⟩)
theorem Sim.renumber (s : Sim P φ h w) {i : Nat} {b : Blk} (hi : h.get i = some b) (ho : b.own = true) :
    Sim P (Ren.put φ h.next (φ i)) ((h.kill i).alloc b) w ∧ Step φ h w (Ren.put φ h.next (φ i)) ((h.kill i).alloc b) w := by
  have hlt := s.lt hi
  have hold : ∀ j bj, ((h.kill i).alloc b).get j = some bj → j ≠ h.next → h.get j = some bj ∧ j ≠ i := by
    intro j bj hj hne
    have : (if j = i then none else h.get j) = some bj := by simpa [Heap.alloc, Heap.kill, hne] using hj
    split at this
    · cases this
    · exact ⟨this, by assumption⟩
  have hnew : ∀ bj, ((h.kill i).alloc b).get h.next = some bj → bj = b := by
    intro bj hj
    simpa [Heap.alloc, Heap.kill] using hj.symm
  constructor
  · refine ⟨?_, ?_, ?_, ?_, ?_, ?_, ?_⟩
    · refine ⟨fun j hj => ?_, fun j hj => ?_⟩
      · have h1 : h.next + 1 ≤ j := hj
        show (if j = h.next then some b else if j = i then none else h.get j) = none
        rw [if_neg (by omega), if_neg (by omega), s.next.c j (by omega)]
      · have h1 : h.next + 1 ≤ j := hj
        exact s.next.o j (by omega)
    · intro j bj hj
      by_cases hjn : j = h.next
      · subst hjn
        obtain rfl := hnew bj hj
        obtain ⟨arr, fr, h1, h2, h3, h4, h5⟩ := s.owned hi ho
        simp only [BRel, ho, if_true, Ren.put_at]
        refine ⟨arr, fr, h1, h2, h3, h4, fun k v hk => ?_⟩
        obtain ⟨c, hc, hv⟩ := h5 k v hk
        exact ⟨c, hc, hv.mono Ren.put_lt (by simp [Heap.alloc, Heap.kill])⟩
      · obtain ⟨hj', _⟩ := hold j bj hj hjn
        exact (s.blk j bj hj').world Ren.put_lt (s.lt hj') (by simp [Heap.alloc, Heap.kill]) rfl
    · intro j bj hj
      by_cases hjn : j = h.next
      · subst hjn; rw [Ren.put_at]; exact s.low i b hi
      · obtain ⟨hj', _⟩ := hold j bj hj hjn
        rw [Ren.put_lt j (s.lt hj')]
        exact s.low j bj hj'
    · intro j k bj hj hoj hk he
      cases hxk : ((h.kill i).alloc b).get k with
      | none => exact absurd hxk hk
      | some bk =>
        by_cases hjn : j = h.next
        · by_cases hkn : k = h.next
          · omega
          · exfalso
            obtain ⟨hk', hki⟩ := hold k bk hxk hkn
            rw [hjn, Ren.put_at, Ren.put_lt k (s.lt hk')] at he
            exact hki (s.apart i k b hi ho (by rw [hk']; simp) he)
        · obtain ⟨hj', hji⟩ := hold j bj hj hjn
          rw [Ren.put_lt j (s.lt hj')] at he
          by_cases hkn : k = h.next
          · exfalso
            rw [hkn, Ren.put_at] at he
            exact hji (s.apart j i bj hj' hoj (by rw [hi]; simp) he).symm
          · obtain ⟨hk', _⟩ := hold k bk hxk hkn
            rw [Ren.put_lt k (s.lt hk')] at he
            exact s.apart j k bj hj' hoj (by rw [hk']; simp) he
    · intro g hg
      obtain ⟨h1, h2⟩ := s.glob g hg
      exact ⟨by rw [Ren.put_lt g h2]; exact h1, by simp only [Heap.alloc, Heap.kill]; omega⟩
    · intro j o hj
      exact (s.objs j o hj).world Ren.put_lt (s.ltO hj) (by simp [Heap.alloc, Heap.kill]) rfl
    · intro j k o hj hk he
      cases hx : ((h.kill i).alloc b).obj k with
      | none => exact absurd hx hk
      | some ok =>
        rw [Ren.put_lt j (s.ltO hj), Ren.put_lt k (s.ltO hx)] at he
        exact s.apartO j k o hj hk he
  · refine ⟨by simp [Heap.alloc, Heap.kill], Ren.put_lt, rfl, rfl, rfl, Nat.le_refl _, fun _ _ _ => rfl, ?_⟩
    rintro k (⟨j, bj, h1, h2, h3⟩ | ⟨j, o, h1, h3⟩)
    · by_cases hjn : j = h.next
      · subst hjn
        rw [Ren.put_at] at h3
        exact .inl (.inl ⟨i, b, hi, ho, h3⟩)
      · obtain ⟨hj', _⟩ := hold j bj h1 hjn
        rw [Ren.put_lt j (s.lt hj')] at h3
        exact .inl (.inl ⟨j, bj, hj', h2, h3⟩)
    · rw [Ren.put_lt j (s.ltO h1)] at h3
      exact .inl (.inr ⟨j, o, h1, h3⟩)
def Bdd (n : Nat) (v : Value) : Prop := ∃ φ c, VRel φ n v c
theorem VRel.lower {n n' : Nat} {v c : Value} (r : VRel φ n' v c) : ∀ {φ0 : Ren} {c0 : Value}, VRel φ0 n v c0 → VRel φ n v c := by
  induction r with
  | und c => intro φ0 c0 _; exact .und c
  | skip => intro φ0 c0 _; exact .skip
  | bool b => intro φ0 c0 _; exact .bool b
  | int k a => intro φ0 c0 _; exact .int k a
  | float k a => intro φ0 c0 _; exact .float k a
  | complex k a b => intro φ0 c0 _; exact .complex k a b
  | string s => intro φ0 c0 _; exact .string s
  | nilPtr => intro φ0 c0 _; exact .nilPtr
  | ptr i o hi => intro φ0 c0 r0; exact .ptr i o r0.ptr_inv.2.1
  | nilSlice => intro φ0 c0 _; exact .nilSlice
  | slice i o len cap cap' s a' hi h1 h2 h3 h4 h5 h6 =>
    intro φ0 c0 r0
    obtain ⟨_, _, _, hlt, _⟩ := r0.slice_inv
    exact .slice i o len cap cap' s a' hlt h1 h2 h3 h4 h5 h6
  | func fn f c f' c' h1 h2 h3 h4 i3 i4 =>
    intro φ0 c0 r0
    obtain ⟨f0, d0, _, s1, s2, q1, q2⟩ := r0.func_inv
    refine .func fn f c f' c' h1 h2 (fun k x y hx hy => ?_) (fun k x y hx hy => ?_)
    · have hk : k < f0.size := by rw [← s1]; exact (Array.getElem?_eq_some_iff.1 hx).1
      exact i3 k x y hx hy (q1 k x _ hx (Array.getElem?_eq_getElem hk))
    · have hk : k < d0.size := by rw [← s2]; exact (Array.getElem?_eq_some_iff.1 hx).1
      exact i4 k x y hx hy (q2 k x _ hx (Array.getElem?_eq_getElem hk))
  | nilFunc => intro φ0 c0 _; exact .nilFunc
  | iface t v v' _ ih => intro φ0 c0 r0; obtain ⟨u, _, hu⟩ := r0.iface_inv; exact .iface t v v' (ih hu)
  | nilIface => intro φ0 c0 _; exact .nilIface
  | agg c c' h1 _ ih =>
    intro φ0 c0 r0
    obtain ⟨d0, _, s1, q1⟩ := r0.agg_inv
    refine .agg c c' h1 (fun k x y hx hy => ?_)
    have hk : k < d0.size := by rw [← s1]; exact (Array.getElem?_eq_some_iff.1 hx).1
    exact ih k x y hx hy (q1 k x _ hx (Array.getElem?_eq_getElem hk))
  | tuple c c' h1 _ ih =>
    intro φ0 c0 r0
    by_cases hz : c.size = 0
    · have : c = #[] := by simpa using hz
      subst this
      exact .und _
    · obtain ⟨d0, _, s1, q1⟩ := r0.tuple_inv hz
      refine .tuple c c' h1 (fun k x y hx hy => ?_)
      have hk : k < d0.size := by rw [← s1]; exact (Array.getElem?_eq_some_iff.1 hx).1
      exact ih k x y hx hy (q1 k x _ hx (Array.getElem?_eq_getElem hk))
  | nilMap => intro φ0 c0 _; exact .nilMap
  | map i hi => intro φ0 c0 r0; exact .map i r0.map_inv.1
theorem Ext.refl (h : Heap) : Ext h h := ⟨fun _ _ hi => hi, fun _ _ hi => hi⟩
theorem Ext.trans {h1 h2 h3 : Heap} (a : Ext h1 h2) (b : Ext h2 h3) : Ext h1 h3 := ⟨fun i c hi => b.c i c (a.c i c hi), fun i c hi => b.o i c (a.o i c hi)⟩
theorem ERel.lower {φ φ0 : Ren} {n n' : Nat} {e : AEnt} {c c0 : MapEntry} (r : ERel φ n' e c) (r0 : ERel φ0 n e c0) : ERel φ n e c := ⟨r.1.lower r0.1, r.2.1.lower r0.2.1, r.2.2⟩
theorem Sim.reset {φ' : Ren} {h' : Heap} {w' : World} (s0 : Sim P φ h w) (s : Sim P φ' h' w') (_ : ∀ i, i < h.next → φ' i = φ i) (hx : Ext h h') : Sim P φ' h w' where
  next := s0.next
  blk i b hi := by
    have r0 := s0.blk i b hi
    have r := s.blk i b (hx i b hi)
    unfold BRel at r r0 ⊢
    by_cases ho : b.own = true
    · simp only [ho, if_true] at r r0 ⊢
      obtain ⟨arr, fr, h1, h2, h3, h4, h5⟩ := r
      obtain ⟨arr0, fr0, _, _, _, _, g5⟩ := r0
      refine ⟨arr, fr, h1, h2, h3, h4, fun k v hk => ?_⟩
      obtain ⟨c, hc, hv⟩ := h5 k v hk
      obtain ⟨c0, _, hv0⟩ := g5 k v hk
      exact ⟨c, hc, hv.lower hv0⟩
    · simp only [ho, if_false, Bool.false_eq_true] at r r0 ⊢
      refine ⟨r.1, fun k v hk => ?_⟩
      obtain ⟨c, hc, hv⟩ := r.2 k v hk
      obtain ⟨c0, _, hv0⟩ := r0.2 k v hk
      exact ⟨c, hc, hv.lower hv0⟩
  low i b hi := s.low i b (hx i b hi)
  apart i j b hi ho hj he := by
    cases hxj : h.get j with
    | none => exact absurd hxj hj
    | some bj => exact s.apart i j b (hx i b hi) ho (by rw [hx j bj hxj]; simp) he
  glob g hg := ⟨(s.glob g hg).1, (s0.glob g hg).2⟩
  objs i o hi := by
    have r0 := s0.objs i o hi
    have r := s.objs i o (hx.o i o hi)
    cases o with
    | map es clock =>
      obtain ⟨cs, h1, h2, h3⟩ := r
      obtain ⟨cs0, g1, g2, g3⟩ := r0
      refine ⟨cs, h1, h2, fun k e c he hc => ?_⟩
      have hk : k < cs0.size := by rw [← g2]; exact (List.getElem?_eq_some_iff.1 he).1
      exact (h3 k e c he hc).lower (g3 k e _ he (Array.getElem?_eq_getElem hk))
    | mapIter m since seen stepped => exact ⟨r.1, r.2.1, r0.2.2⟩
    | strIter st pos => exact r
  apartO i j o hi hj he := by
    cases hxj : h.obj j with
    | none => exact absurd hxj hj
    | some oj => exact s.apartO i j o (hx.o i o hi) (by rw [hx.o j oj hxj]; simp) he
theorem Step.reset {φ' : Ren} {h' : Heap} {w' : World} (t : Step φ h w φ' h' w') (hx : Ext h h') : Step φ h w φ' h w' where
  next := Nat.le_refl _
  agree := t.agree
  os := t.os
  tape := t.tape
  output := t.output
  size := t.size
  frame := t.frame
  own k hk := t.own k (by
    rcases hk with ⟨i, b, h1, h2, h3⟩ | ⟨i, o, h1, h3⟩
    · exact .inl ⟨i, b, hx.c i b h1, h2, h3⟩
    · exact .inr ⟨i, o, hx.o i o h1, h3⟩)
theorem Heap.alloc_new (h : Heap) (b : Blk) : (h.alloc b).get h.next = some b := by simp [Heap.alloc]
theorem Heap.alloc_old {h : Heap} {b : Blk} {i : Nat} (hi : i ≠ h.next) : (h.alloc b).get i = h.get i := by simp [Heap.alloc, hi]
theorem Heap.set_alloc (h : Heap) (b c : Blk) : (h.alloc b).set h.next c = h.alloc c := by
  simp only [Heap.alloc, Heap.set, Heap.mk.injEq, and_true]
  funext j
  by_cases hj : j = h.next <;> simp [hj]
theorem Heap.set_at (h : Heap) (i : Nat) (b : Blk) : (h.set i b).get i = some b := by simp [Heap.set]
theorem Heap.set_other {h : Heap} {i j : Nat} {b : Blk} (hj : j ≠ i) : (h.set i b).get j = h.get j := by simp [Heap.set, hj]
theorem Heap.new1 (h : Heap) (b c : Blk) : ((h.alloc b).alloc c).get h.next = some b := by simp [Heap.alloc]
theorem WF.alloc {h : Heap} (wf : WF h) (b : Blk) : WF (h.alloc b) := by
  refine ⟨fun i hi => ?_, fun i hi => ?_⟩
  · have h1 : h.next + 1 ≤ i := hi
    rw [Heap.alloc_old (by omega)]
    exact wf.c i (by omega)
  · have h1 : h.next + 1 ≤ i := hi
    exact wf.o i (by omega)
theorem WF.lt {h : Heap} (wf : WF h) {i : Nat} {b : Blk} (hi : h.get i = some b) : i < h.next := by
  rcases Nat.lt_or_ge i h.next with h1 | h1
  · exact h1
  · rw [wf.c i h1] at hi; cases hi
theorem WF.ltO {h : Heap} (wf : WF h) {i : Nat} {o : AObj} (hi : h.obj i = some o) : i < h.next := by
  rcases Nat.lt_or_ge i h.next with h1 | h1
  · exact h1
  · rw [wf.o i h1] at hi; cases hi
theorem WF.ext {h : Heap} (wf : WF h) (b : Blk) : Ext h (h.alloc b) := by
  refine ⟨fun i c hi => ?_, fun _ _ hi => hi⟩
  have := wf.lt hi
  rw [Heap.alloc_old (by omega)]
  exact hi
theorem WF.ext_set {h h1 : Heap} (wf : WF h) (hx : Ext h h1) {j : Nat} (hj : h.next ≤ j) (b : Blk) : Ext h (h1.set j b) := by
  refine ⟨fun i c hi => ?_, fun i o hi => hx.o i o hi⟩
  have h2 := wf.lt hi
  rw [Heap.set_other (by omega)]
  exact hx.c i c hi
theorem WF.ext_alloc {h h1 : Heap} (hx : Ext h h1) (wf1 : WF h1) (b : Blk) : Ext h (h1.alloc b) := hx.trans (wf1.ext b)
theorem WF.kill {h : Heap} (wf : WF h) (i : Nat) : WF (h.kill i) := by
  refine ⟨fun j hj => ?_, fun j hj => wf.o j hj⟩
  show (if j = i then none else h.get j) = none
  split
  · rfl
  · exact wf.c j hj
theorem WF.set {h : Heap} (wf : WF h) {i : Nat} (hi : i < h.next) (b : Blk) : WF (h.set i b) := by
  refine ⟨fun j hj => ?_, fun j hj => wf.o j hj⟩
  have h1 : h.next ≤ j := hj
  rw [Heap.set_other (by omega)]
  exact wf.c j h1
theorem Heap.kill_alloc_new (h : Heap) (i : Nat) (b : Blk) : ((h.kill i).alloc b).get h.next = some b := by
  show (if h.next = h.next then some b else _) = some b
  simp
theorem Heap.kill_alloc_old {h : Heap} {i j : Nat} {b : Blk} (h1 : j ≠ h.next) (h2 : j ≠ i) : ((h.kill i).alloc b).get j = h.get j := by
  show (if j = h.next then some b else if j = i then none else h.get j) = h.get j
  rw [if_neg h1, if_neg h2]
end Go.Eng
/-
  The engine, part C: frames by what is known of them, and the rules of code over abstract heaps.
-/
namespace Go.Eng
open Go
abbrev Env := List (Nat × Value)
def Env.get : Env → Nat → Value
  | [], _ => undef
  | (k, v) :: e, t => bif Nat.beq k t then v else Env.get e t
def Env.put (e : Env) (d : Option Tmp) (v : Value) : Env :=
  match d with
  | some d => (d, v) :: e
  | none => e
def ev (P : Program) (e : Env) : Operand → Value
  | .tmp t => e.get t
  | .const v => bif plainV v then v else undef
  | .global g => bif Nat.blt g P.globals.size then .pointer (some ⟨g, 0, none⟩) else undef
  | .func f => .func (.func f) #[] #[]
structure Rel (P : Program) (N : Nat) (φ : Ren) (env : Env) (h : Heap) (tmps : Array Value) (w : World) : Prop where
  sim : Sim P φ h w
  size : tmps.size = N
  env : ∀ t, VRel φ h.next (env.get t) (tmps.getD t undef)
theorem Env.get_put (e : Env) (d : Nat) (v : Value) (t : Nat) : Env.get ((d, v) :: e) t = if d = t then v else e.get t := by
  simp only [Env.get]
  by_cases h : d = t
  · subst h; have : Nat.beq d d = true := Nat.beq_refl d
    simp
  · have : Nat.beq d t = false := by
      cases hb : Nat.beq d t with
      | true => exact absurd (Nat.eq_of_beq_eq_true hb) h
      | false => rfl
    simp [this, h]
theorem getD_set (a : Array Value) (d : Nat) (v : Value) (t : Nat) (hd : d < a.size) : (a.setIfInBounds d v).getD t undef = if d = t then v else a.getD t undef := by
  simp only [Array.getD_eq_getD_getElem?, Array.getElem?_setIfInBounds]
  by_cases h : d = t
  · subst h; simp [hd]
  · simp [h]
theorem Rel.put {P : Program} {N : Nat} {φ : Ren} {env : Env} {h : Heap} {a : Act} {w : World} (r : Rel P N φ env h a.tmps w) (d : Option Tmp) (hd : ∀ t, d = some t → t < N) {v c : Value} (hv : VRel φ h.next v c) :
    Rel P N φ (env.put d v) h (a.put d c).tmps w := by
  cases d with
  | none => exact r
  | some d =>
    have hdn := hd d rfl
    refine ⟨r.sim, by simp [Act.put, r.size], fun t => ?_⟩
    show VRel φ h.next (Env.get ((d, v) :: env) t) ((a.tmps.setIfInBounds d c).getD t undef)
    rw [Env.get_put, getD_set _ _ _ _ (by rw [r.size]; exact hdn)]
    split
    · exact hv
    · exact r.env t
theorem Rel.ev {P : Program} {N : Nat} {φ : Ren} {env : Env} {h : Heap} {a : Act} {w : World} (r : Rel P N φ env h a.tmps w) (x : Operand) : VRel φ h.next (ev P env x) (a.eval x) := by
  cases x with
  | tmp t => exact r.env t
  | const v =>
    simp only [Eng.ev, Act.eval]
    cases hp : plainV v with
    | true => exact .of_plain hp
    | false => exact .und _
  | global g =>
    simp only [Eng.ev, Act.eval]
    cases hp : Nat.blt g P.globals.size with
    | true =>
      have hg : g < P.globals.size := by simpa [Nat.blt_eq] using hp
      obtain ⟨h1, h2⟩ := r.sim.glob g hg
      have := VRel.ptr (φ := φ) (n := h.next) g 0 h2
      rw [h1.1, h1.2] at this
      exact this
    | false => exact .und _
  | func f => exact .of_scalar rfl
theorem Rel.step {P : Program} {N : Nat} {φ φ' : Ren} {env : Env} {h h' : Heap} {t : Array Value} {w w' : World} (r : Rel P N φ env h t w) (s : Sim P φ' h' w') (st : Step φ h w φ' h' w') : Rel P N φ' env h' t w' :=
  ⟨s, r.size, fun t => st.mono (r.env t)⟩
def Post (P : Program) (N : Nat) (φ : Ren) (h : Heap) (w : World) (K : Env → Heap → Prop) (a' : Act) (w' : World) : Prop :=
  ∃ env' h' φ', K env' h' ∧ a'.defers = [] ∧ Rel P N φ' env' h' a'.tmps w' ∧ Step φ h w φ' h' w'
def AWp (P : Program) (N : Nat) (c : Code) (Q : Exit → Env → Heap → Prop) (env : Env) (h : Heap) : Prop :=
  ∀ φ a w, a.defers = [] → Rel P N φ env h a.tmps w → c.wp P (fun ex a' w' => Post P N φ h w (Q ex) a' w') a w
theorem Post.trans {P : Program} {N : Nat} {φ φ' : Ren} {h h' : Heap} {w w' : World} {K : Env → Heap → Prop} {a : Act} {w2 : World} (p : Post P N φ' h' w' K a w2) (s : Step φ h w φ' h' w') : Post P N φ h w K a w2 := by
  obtain ⟨e, h2, φ2, k, d, r, t⟩ := p
  exact ⟨e, h2, φ2, k, d, r, s.trans t⟩
theorem Post.mono {P : Program} {N : Nat} {φ : Ren} {h : Heap} {w : World} {K K' : Env → Heap → Prop} {a : Act} {w2 : World} (p : Post P N φ h w K a w2) (hk : ∀ e h', K e h' → K' e h') : Post P N φ h w K' a w2 := by
  obtain ⟨e, h2, φ2, k, d, r, t⟩ := p
  exact ⟨e, h2, φ2, hk _ _ k, d, r, t⟩
theorem Post.now {P : Program} {N : Nat} {φ : Ren} {h : Heap} {w : World} {K : Env → Heap → Prop} {env : Env} {a : Act} (k : K env h) (d : a.defers = []) (r : Rel P N φ env h a.tmps w) : Post P N φ h w K a w :=
  ⟨env, h, φ, k, d, r, Step.refl _ _ _⟩
section rules
variable {P : Program} {N : Nat} {Q : Exit → Env → Heap → Prop} {env : Env} {h : Heap}
theorem AWp.mono {c : Code} {Q' : Exit → Env → Heap → Prop} (p : AWp P N c Q env h) (hq : ∀ ex e h', Q ex e h' → Q' ex e h') : AWp P N c Q' env h :=
  fun φ a w hd r => wp_mono (p φ a w hd r) fun ex _ _ hp => hp.mono (hq ex)
structure Weak (env : Env) (h : Heap) (env0 : Env) (h0 : Heap) : Prop where
  env : ∀ t, env0.get t = env.get t ∨ env0.get t = undef
  next : h0.next = h.next
  ext : Ext h0 h
def EW (env env0 : Env) : Prop := ∀ t, env0.get t = env.get t ∨ env0.get t = undef
theorem EW.nil {env : Env} : EW env [] := fun _ => .inr rfl
theorem EW.cons {env env0 : Env} {k : Nat} {v : Value} (h : env.get k = v) (r : EW env env0) : EW env ((k, v) :: env0) := fun t => by
  rw [Env.get_put]
  split
  · rename_i e; subst e; exact .inl h.symm
  · exact r t
theorem Weak.of {env : Env} {h : Heap} {env0 : Env} {h0 : Heap} (he : EW env env0) (hn : h0.next = h.next) (hx : Ext h0 h) : Weak env h env0 h0 := ⟨he, hn, hx⟩
theorem Weak.same {env : Env} {h : Heap} {env0 : Env} (he : EW env env0) : Weak env h env0 h := ⟨he, rfl, Ext.refl h⟩
theorem Rel.weak {φ : Ren} {env0 : Env} {h0 : Heap} {t : Array Value} {w : World} (r : Rel P N φ env h t w) (k : Weak env h env0 h0) : Rel P N φ env0 h0 t w := by
  refine ⟨r.sim.forget k.next k.ext, r.size, fun t => ?_⟩
  rw [k.next]
  rcases k.env t with e | e
  · rw [e]; exact r.env t
  · rw [e]; exact .und _
theorem Step.weak {φ : Ren} {h0 : Heap} {w : World} (hn : h0.next = h.next) (hx : Ext h0 h) : Step φ h w φ h0 w :=
  ⟨by omega, fun _ _ => rfl, rfl, rfl, rfl, Nat.le_refl _, fun _ _ _ => rfl, fun _ hk => .inl (hk.forget hx)⟩
theorem AWp.weak {c : Code} {env0 : Env} {h0 : Heap} (p : AWp P N c Q env0 h0) (k : Weak env h env0 h0) : AWp P N c Q env h :=
  fun φ a w hd r => wp_mono (p φ a w hd (r.weak k)) fun _ _ _ hp => hp.trans (Step.weak k.next k.ext)
theorem AWp.skip (k : Q .normal env h) : AWp P N .skip Q env h := fun _ _ _ hd r => wp_skip (Post.now k hd r)
theorem AWp.label {l : Nat} (k : Q .normal env h) : AWp P N (.label l) Q env h := fun _ _ _ hd r => wp_label (Post.now k hd r)
theorem AWp.exit {id : Nat} (k : Q (.exit id) env h) : AWp P N (.exit id) Q env h := fun _ _ _ hd r => wp_exit (Post.now k hd r)
theorem AWp.ret (k : Q .ret env h) : AWp P N .ret Q env h := fun _ _ _ hd r => wp_ret (Post.now k hd r)
@[reducible] def thenQ (K : Env → Heap → Prop) (Q : Exit → Env → Heap → Prop) : Exit → Env → Heap → Prop
  | .normal => K
  | ex => Q ex
@[reducible] def seqQ (P : Program) (N : Nat) (y : Code) (Q : Exit → Env → Heap → Prop) : Exit → Env → Heap → Prop
  | .normal => AWp P N y Q
  | ex => Q ex
theorem AWp.seq {x y : Code} (p : AWp P N x (seqQ P N y Q) env h) : AWp P N (.seq x y) Q env h := by
  intro φ a w hd r
  refine wp_seq (wp_mono (p φ a w hd r) fun ex a' w' hp => ?_)
  cases ex with
  | normal =>
    obtain ⟨e, h2, φ2, k, d, r2, t⟩ := hp
    exact wp_mono (k φ2 a' w' d r2) fun _ _ _ hp2 => hp2.trans t
  | _ => exact hp
theorem AWp.cond {c : Operand} {x y : Code} {t : Bool} (hc : ev P env c = .bool t) (ht : t = true → AWp P N x Q env h) (hf : t = false → AWp P N y Q env h) : AWp P N (.cond c x y) Q env h := by
  intro φ a w hd r
  have hv := r.ev c
  rw [hc] at hv
  exact wp_cond_split hv.bool_inv (fun e => ht e φ a w hd r) (fun e => hf e φ a w hd r)
theorem AWp.condP {c : Operand} {x y : Code} {p : Prop} {ip : Decidable p} (hc : ev P env c = .bool (@decide p ip)) (ht : p → AWp P N x Q env h) (hf : ¬ p → AWp P N y Q env h) : AWp P N (.cond c x y) Q env h :=
  .cond hc (fun e => ht (of_decide_eq_true e)) (fun e => hf (of_decide_eq_false e))
theorem AWp.condT {c : Operand} {x y : Code} (hc : ev P env c = .bool true) (p : AWp P N x Q env h) : AWp P N (.cond c x y) Q env h := .cond hc (fun _ => p) (fun e => by cases e)
theorem AWp.condF {c : Operand} {x y : Code} (hc : ev P env c = .bool false) (p : AWp P N y Q env h) : AWp P N (.cond c x y) Q env h := .cond hc (fun e => by cases e) (fun _ => p)
@[reducible] def blockQ (id : Nat) (Q : Exit → Env → Heap → Prop) : Exit → Env → Heap → Prop
  | .exit id', e, h => if id' = id then Q .normal e h else Q (.exit id') e h
  | ex, e, h => Q ex e h
theorem AWp.block {id : Nat} {c : Code} (p : AWp P N c (blockQ id Q) env h) : AWp P N (.block id c) Q env h := by
  intro φ a w hd r
  refine wp_block (wp_mono (p φ a w hd r) fun ex a' w' hp => ?_)
  cases ex with
  | exit id' =>
    simp only [Exit.inBlock]
    split
    · rename_i he
      exact hp.mono fun e h' k => by simpa [blockQ, he] using k
    · rename_i he
      exact hp.mono fun e h' k => by simpa [blockQ, he] using k
  | _ => exact hp
theorem AWp.cutI {α : Type} {x y : Code} (E : α → Env) (H : α → Heap) (V : α → Prop) (p : AWp P N x (thenQ (fun e h' => ∃ z, V z ∧ Weak e h' (E z) (H z)) Q) env h) (q : ∀ z, V z → AWp P N y Q (E z) (H z)) :
    AWp P N x (seqQ P N y Q) env h :=
  p.mono fun ex e h' k => by
    cases ex with
    | normal => obtain ⟨z, hz, hw⟩ := k; exact (q z hz).weak hw
    | _ => exact k
theorem AWp.loop {α : Type} {c : Code} (E : α → Env) (H : α → Heap) (V : α → Prop) (m : α → Nat) (x : α) (hx : V x) (hw : Weak env h (E x) (H x))
    (round : ∀ y, V y → AWp P N c (thenQ (fun e h' => ∃ z, V z ∧ m z < m y ∧ Weak e h' (E z) (H z)) Q) (E y) (H y)) : AWp P N (.loop c) Q env h := by
  intro φ a w hd r b k cs
  have key : ∀ n y φ' a' w', m y = n → V y → a'.defers = [] → Rel P N φ' (E y) (H y) a'.tmps w' → Step φ h w φ' (H y) w' →
      ∃ e a2 w2, Post P N φ h w (Q e) a2 w2 ∧ Arrives P (lone (b.at a' (.code c :: .inLoop c :: k)) cs w') b k cs e a2 w2 := by
    intro n
    induction n using Nat.strongRecOn with
    | _ n ih =>
      intro y φ' a' w' hn hv hd' r' st
      obtain ⟨e, a1, w1, hq, harr⟩ := round y hv φ' a' w' hd' r' b (.inLoop c :: k) cs
      cases e with
      | normal =>
        obtain ⟨e1, h1, φ1, ⟨z, hz, hlt, hwk⟩, d1, r1, t1⟩ := hq
        have st1 : Step φ h w φ1 (H z) w1 := (st.trans t1).trans (Step.weak hwk.next hwk.ext)
        obtain ⟨e2, a2, w2, hq2, harr2⟩ := ih (m z) (hn ▸ hlt) z φ1 a1 w1 rfl hz d1 (r1.weak hwk) st1
        exact ⟨e2, a2, w2, hq2, .of_steps (Steps.trans harr (.one step_inLoop)) harr2⟩
      | exit id => exact ⟨_, a1, w1, hq.trans st, .pass (x := .inLoop c) rfl (fun _ _ => .inl (by simp)) harr⟩
      | goto l => exact ⟨_, a1, w1, hq.trans st, .pass (x := .inLoop c) rfl (fun _ _ => .inl (by simp)) harr⟩
      | ret => exact ⟨_, a1, w1, hq.trans st, .pass (x := .inLoop c) rfl (fun _ _ => .inl (by simp)) harr⟩
      | panic ch => exact ⟨_, a1, w1, hq.trans st, .pass (x := .inLoop c) rfl (fun _ _ => .inl (by simp)) harr⟩
      | outgrown => exact ⟨_, a1, w1, hq.trans st, .pass (x := .inLoop c) rfl (fun _ _ => .inl (by simp)) harr⟩
  obtain ⟨e, a2, w2, hq, harr⟩ := key _ x φ a w rfl hx hd (r.weak hw) (Step.weak hw.next hw.ext)
  exact ⟨e, a2, w2, hq, .of_steps (.one step_loop) harr⟩
end rules
def ARes (P : Program) (φ : Ren) (h : Heap) (w : World) (Q : Value → Heap → Prop) : Ending → World → Prop
  | .returned c, w' => ∃ v h' φ', Q v h' ∧ VRel φ' h'.next v c ∧ Sim P φ' h' w' ∧ Step φ h w φ' h' w'
  | _, _ => False
inductive VRels (φ : Ren) (n : Nat) : List Value → List Value → Prop
  | nil : VRels φ n [] []
  | cons {v c : Value} {vs cs : List Value} (h : VRel φ n v c) (t : VRels φ n vs cs) : VRels φ n (v :: vs) (c :: cs)
def ACalls (P : Program) (f : FuncId) (args : List Value) (h : Heap) (Q : Value → Heap → Prop) : Prop :=
  ∀ φ w cargs, Sim P φ h w → VRels φ h.next args cargs → Calls P f cargs.toArray w (ARes P φ h w Q)
theorem ACalls.mono {P : Program} {f : FuncId} {args : List Value} {h : Heap} {Q Q' : Value → Heap → Prop} (p : ACalls P f args h Q) (hq : ∀ v h', Q v h' → Q' v h') : ACalls P f args h Q' :=
  fun φ w cargs s va => (p φ w cargs s va).mono fun e w' hr => by
    cases e with
    | returned c => obtain ⟨v, h', φ', q, r⟩ := hr; exact ⟨v, h', φ', hq v h' q, r⟩
    | _ => exact hr
theorem ACalls.wf {P : Program} {f : FuncId} {args : List Value} {h : Heap} {Q : Value → Heap → Prop} (p : WF h → ACalls P f args h Q) : ACalls P f args h Q :=
  fun φ w cargs s va => p s.next φ w cargs s va
theorem ACalls.wf_post {P : Program} {f : FuncId} {args : List Value} {h : Heap} {Q : Value → Heap → Prop} (p : ACalls P f args h Q) : ACalls P f args h fun v h' => Q v h' ∧ WF h' ∧ h.next ≤ h'.next :=
  fun φ w cargs s va => (p φ w cargs s va).mono fun e w' hr => by
    cases e with
    | returned c => obtain ⟨v, h', φ', q, r1, r2, r3⟩ := hr; exact ⟨v, h', φ', ⟨q, r2.next, r3.next⟩, r1, r2, r3⟩
    | _ => exact hr
theorem VRels.length {φ : Ren} {n : Nat} {vs cs : List Value} (h : VRels φ n vs cs) : vs.length = cs.length := by
  induction h with
  | nil => rfl
  | cons _ _ ih => simp [ih]
theorem VRels.at {φ : Ren} {n : Nat} {vs cs : List Value} (h : VRels φ n vs cs) : ∀ i : Nat, VRel φ n (vs.getD i undef) (cs.getD i undef) := by
  induction h with
  | nil => intro i; simp; exact .und _
  | cons hv _ ih =>
    intro i
    cases i with
    | zero => simpa using hv
    | succ i => simpa using ih i
def entryFrom : Nat → List Value → Env
  | _, [] => []
  | k, v :: vs => (k, v) :: entryFrom (k + 1) vs
theorem entryFrom_get : ∀ (vs : List Value) (k t : Nat), (entryFrom k vs).get t = if k ≤ t then vs.getD (t - k) undef else undef
  | [], k, t => by simp [entryFrom, Env.get]
  | v :: vs, k, t => by
    simp only [entryFrom]
    rw [Env.get_put, entryFrom_get vs (k + 1) t]
    by_cases h : k = t
    · subst h; simp
    · by_cases h2 : k ≤ t
      · rw [if_neg h, if_pos (by omega), if_pos h2]
        have : t - k = (t - (k + 1)) + 1 := by omega
        rw [this]; simp
      · rw [if_neg h, if_neg (by omega), if_neg h2]
def entry (vs : List Value) : Env := entryFrom 0 vs
def ResV (P : Program) (fn : Func) (env : Env) (h : Heap) (v : Value) : Prop :=
  ∀ N φ tmps w, Rel P N φ env h tmps w → ∃ c, (results fn tmps).run P w = .ok c w ∧ VRel φ h.next v c
theorem ResV.tmp {P : Program} {fn : Func} {env : Env} {h : Heap} {t : Tmp} (hr : fn.results = #[.tmp t]) : ResV P fn env h (env.get t) := by
  intro N φ tmps w r
  refine ⟨tmps.getD t undef, ?_, r.env t⟩
  simp [results, hr]
theorem ResV.none {P : Program} {fn : Func} {env : Env} {h : Heap} (hr : fn.results = #[]) : ResV P fn env h (.tuple #[]) := by
  intro N φ tmps w r
  exact ⟨.tuple #[], by simp [results, hr], .und _⟩
theorem VRel.tuple2 {φ : Ren} {n : Nat} {a b a' b' : Value} (h1 : VRel φ n a a') (h2 : VRel φ n b b') : VRel φ n (.tuple #[a, b]) (.tuple #[a', b']) := by
  refine .tuple _ _ rfl fun k x y hx hy => ?_
  match k with
  | 0 => simp at hx hy; subst hx hy; exact h1
  | 1 => simp at hx hy; subst hx hy; exact h2
  | k + 2 => simp at hx
theorem ResV.tmp2 {P : Program} {fn : Func} {env : Env} {h : Heap} {t u : Tmp} (hr : fn.results = #[.tmp t, .tmp u]) : ResV P fn env h (.tuple #[env.get t, env.get u]) := by
  intro N φ tmps w r
  refine ⟨.tuple #[tmps.getD t undef, tmps.getD u undef], ?_, .tuple2 (r.env t) (r.env u)⟩
  simp [results, hr]
@[reducible] def endQ (K : Env → Heap → Prop) : Exit → Env → Heap → Prop
  | .normal, e, h => K e h
  | .ret, e, h => K e h
  | _, _, _ => False
theorem ACalls.body {P : Program} {f : FuncId} {fn : Func} {c : Code} {args : List Value} {h : Heap} {Q : Value → Heap → Prop} (hf : P.funcs[f]? = some fn) (hb : fn.body = some c) (hn : Nat.ble args.length fn.ntmps = true)
    (p : AWp P fn.ntmps c (endQ fun env h' => ∃ v, ResV P fn env h' v ∧ Q v h') (entry args) h) : ACalls P f args h Q := by
  intro φ w cargs s va
  have hn := Nat.le_of_ble_eq_true hn
  refine calls_of_wp hf hb (wp_mono (p φ _ w rfl ⟨s, ?_, ?_⟩) ?_)
  · have := va.length
    simp; omega
  · intro t
    unfold entry
    rw [entryFrom_get]
    simp only [Nat.zero_le, if_true, Nat.sub_zero]
    have h1 := va.at t
    have hlen := va.length
    by_cases ht : t < cargs.length
    · have e : (cargs.toArray ++ Array.replicate (fn.ntmps - cargs.toArray.size) undef).getD t undef = cargs.getD t undef := by
        simp [Array.getD_eq_getD_getElem?, Array.getElem?_append, ht]
      rw [e]; exact h1
    · have e : args.getD t undef = undef := by simp [List.getD_eq_getElem?_getD, List.getElem?_eq_none (show args.length ≤ t by omega)]
      rw [e]; exact .und _
  · intro ex a' w' hp
    cases ex with
    | normal =>
      obtain ⟨e, h2, φ2, ⟨v, hv, q⟩, d, r, t⟩ := hp
      obtain ⟨cv, hc, hvr⟩ := hv _ _ _ _ r
      exact ⟨d, cv, hc, v, h2, φ2, q, hvr, r.sim, t⟩
    | ret =>
      obtain ⟨e, h2, φ2, ⟨v, hv, q⟩, d, r, t⟩ := hp
      obtain ⟨cv, hc, hvr⟩ := hv _ _ _ _ r
      exact ⟨d, cv, hc, v, h2, φ2, q, hvr, r.sim, t⟩
    | _ => obtain ⟨e, h2, φ2, k, _⟩ := hp; exact k.elim
theorem ACalls.reset {P : Program} {f : FuncId} {args : List Value} {h : Heap} {Q : Value → Heap → Prop} (p : ACalls P f args h fun v h' => scalar v = true ∧ Ext h h' ∧ Q v h) : ACalls P f args h Q :=
  fun φ w cargs s va => (p φ w cargs s va).mono fun e w' hr => by
    cases e with
    | returned c =>
      obtain ⟨v, h', φ', ⟨hs, hx, q⟩, r1, r2, r3⟩ := hr
      refine ⟨v, h, φ', q, ?_, s.reset r2 r3.agree hx, r3.reset hx⟩
      exact r1.lower (VRel.of_scalar (φ := φ) (n := h.next) hs)
    | _ => exact hr
end Go.Eng
