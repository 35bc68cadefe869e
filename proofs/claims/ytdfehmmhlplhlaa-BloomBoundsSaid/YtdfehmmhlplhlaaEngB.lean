/-
  The engine, part B: how the abstract heap follows the world: a new block, a block written, a block under a new number, a step back to an elder heap.
-/
import Derived.Test.YtdfehmmhlplhlaaEngA
namespace Go.Eng
open Go

variable {P : Program} {φ : Ren} {h : Heap} {w : World}

theorem heap_push (w : World) (o : Obj) (k : Nat) : (w.heap.push o)[k]? = if k = w.heap.size then some o else w.heap[k]? := by
  rw [Array.getElem?_push]

theorem BRel.world {φ φ' : Ren} {n n' : Nat} {i : Nat} {b : Blk} {w w' : World} (r : BRel φ n i b w) (ha : ∀ i, i < n → φ' i = φ i) (hi : i < n) (hn : n ≤ n') (hb : w'.heap[(φ i).b]? = w.heap[(φ i).b]?) : BRel φ' n' i b w' := by
  unfold BRel at r ⊢
  by_cases ho : b.own = true
  · simp only [ho, if_true] at r ⊢
    obtain ⟨arr, fr, h1, h2, h3, h4, h5⟩ := r
    refine ⟨arr, fr, by rw [ha i hi, hb, h1], by rw [ha i hi]; exact h2, h3, h4, fun k v hk => ?_⟩
    obtain ⟨c, hc, hr⟩ := h5 k v hk
    exact ⟨c, hc, hr.mono ha hn⟩
  · simp only [ho, if_false, Bool.false_eq_true] at r ⊢
    intro k v hk
    obtain ⟨c, hc, hr⟩ := r k v hk
    refine ⟨c, ?_, hr.mono ha hn⟩
    rw [ha i hi]
    rw [World.cell?_of_block (w := w) hb]
    exact hc

def Ren.put (φ : Ren) (n : Nat) (x : Pl) : Ren := fun i => if i = n then x else φ i
theorem Ren.put_lt {φ : Ren} {n : Nat} {x : Pl} : ∀ i, i < n → (Ren.put φ n x) i = φ i := fun i hi => by simp [Ren.put, Nat.ne_of_lt hi]
theorem Ren.put_at {φ : Ren} {n : Nat} {x : Pl} : (Ren.put φ n x) n = x := by simp [Ren.put]

/-- A new block. -/
theorem Sim.alloc (s : Sim P φ h w) (cs : List Value) (arr : Array Value) (e : TypeId) (fr : Nat × Nat) (hfr : fr.1 = fr.2 ∨ arr.size ≤ fr.1)
    (hl : cs.length ≤ arr.size) (hr : ∀ (k : Nat) v, cs[k]? = some v → ∃ c, arr[k]? = some c ∧ VRel φ h.next v c) :
    Sim P (Ren.put φ h.next ⟨w.heap.size, 0, arr.size⟩) (h.alloc ⟨cs, e, true⟩) (w.alloc (.cells arr e fr)) ∧
    Step φ h w (Ren.put φ h.next ⟨w.heap.size, 0, arr.size⟩) (h.alloc ⟨cs, e, true⟩) (w.alloc (.cells arr e fr)) := by
  have hheap : ∀ k : Nat, (w.alloc (.cells arr e fr)).heap[k]? = if k = w.heap.size then some (.cells arr e fr) else w.heap[k]? := fun k => heap_push w _ k
  have hold : ∀ i b, (h.alloc ⟨cs, e, true⟩).get i = some b → i ≠ h.next → h.get i = some b := by
    intro i b hb hne
    simpa [Heap.alloc, hne] using hb
  constructor
  · refine ⟨?_, ?_, ?_, ?_, ?_⟩
    · intro i hi
      have h1 : h.next + 1 ≤ i := hi
      simp only [Heap.alloc]
      rw [if_neg (by omega), s.next i (by omega)]
    · intro i b hb
      by_cases hin : i = h.next
      · subst hin
        have : b = ⟨cs, e, true⟩ := by simpa [Heap.alloc] using hb.symm
        subst this
        simp only [BRel, if_true, Ren.put_at]
        refine ⟨arr, fr, by rw [hheap]; simp, ⟨trivial, Nat.le_refl _⟩, hfr, hl, fun k v hk => ?_⟩
        obtain ⟨c, hc, hv⟩ := hr k v hk
        exact ⟨c, hc, hv.mono Ren.put_lt (by simp [Heap.alloc])⟩
      · have hb' := hold i b hb hin
        refine (s.blk i b hb').world Ren.put_lt (s.lt hb') (by simp [Heap.alloc]) ?_
        rw [hheap, if_neg (by have := s.low i b hb'; omega)]
    · intro i b hb
      by_cases hin : i = h.next
      · subst hin
        rw [Ren.put_at]
        simp
      · have hb' := hold i b hb hin
        rw [Ren.put_lt i (s.lt hb')]
        have := s.low i b hb'
        simp; omega
    · intro i j b hb ho hj he
      cases hxj : (h.alloc ⟨cs, e, true⟩).get j with
      | none => exact absurd hxj hj
      | some bj =>
        by_cases hin : i = h.next
        · by_cases hjn : j = h.next
          · omega
          · exfalso
            have hb' := hold j bj hxj hjn
            rw [hin, Ren.put_at, Ren.put_lt j (s.lt hb')] at he
            have := s.low j bj hb'
            simp at he; omega
        · have hb' := hold i b hb hin
          rw [Ren.put_lt i (s.lt hb')] at he
          by_cases hjn : j = h.next
          · exfalso
            rw [hjn, Ren.put_at] at he
            have := s.low i b hb'
            simp at he; omega
          · have hbj := hold j bj hxj hjn
            rw [Ren.put_lt j (s.lt hbj)] at he
            exact s.apart i j b hb' ho (by rw [hbj]; simp) he
    · intro g hg
      obtain ⟨h1, h2⟩ := s.glob g hg
      exact ⟨by rw [Ren.put_lt g h2]; exact h1, by simp only [Heap.alloc]; omega⟩
  · refine ⟨by simp [Heap.alloc], Ren.put_lt, rfl, rfl, rfl, by simp, fun k hk _ => by rw [hheap, if_neg (by omega)], ?_⟩
    rintro k ⟨i, b, h1, h2, h3⟩
    by_cases hin : i = h.next
    · subst hin
      rw [Ren.put_at] at h3
      exact .inr (by simp at h3; omega)
    · have hb' := hold i b h1 hin
      rw [Ren.put_lt i (s.lt hb')] at h3
      exact .inl ⟨i, b, hb', h2, h3⟩

/-- A block of the engine's own, written: its cells are others. -/
theorem Sim.write (s : Sim P φ h w) {i : Nat} {b : Blk} (hi : h.get i = some b) (ho : b.own = true) {arr : Array Value} {fr : Nat × Nat} (harr : w.heap[(φ i).b]? = some (.cells arr b.elem fr))
    {w' : World} {arr' : Array Value} {fr' : Nat × Nat} (hsz : arr'.size = arr.size) (hfr' : fr'.1 = fr'.2 ∨ arr'.size ≤ fr'.1) (hw : ∀ k : Nat, w'.heap[k]? = if k = (φ i).b then some (.cells arr' b.elem fr') else w.heap[k]?)
    (hos : w'.os = w.os) (htape : w'.tape = w.tape) (hout : w'.output = w.output)
    (cs : List Value) (hl : cs.length ≤ arr'.size) (hr : ∀ (k : Nat) v, cs[k]? = some v → ∃ c, arr'[k]? = some c ∧ VRel φ h.next v c) :
    Sim P φ (h.set i ⟨cs, b.elem, true⟩) w' ∧ Step φ h w φ (h.set i ⟨cs, b.elem, true⟩) w' := by
  have hlow := s.low i b hi
  have hsize : w'.heap.size = w.heap.size := by
    apply Nat.le_antisymm
    · rcases Nat.lt_or_ge w.heap.size w'.heap.size with hlt | hge
      · have := hw w.heap.size
        rw [if_neg (by omega), Array.getElem?_eq_none (Nat.le_refl _), Array.getElem?_eq_getElem hlt] at this
        cases this
      · exact hge
    · rcases Nat.lt_or_ge w'.heap.size w.heap.size with hlt | hge
      · have := hw w'.heap.size
        rw [Array.getElem?_eq_none (Nat.le_refl _)] at this
        split at this
        · cases this
        · rw [Array.getElem?_eq_getElem hlt] at this; cases this
      · exact hge
  have hold : ∀ j bj, (h.set i ⟨cs, b.elem, true⟩).get j = some bj → j ≠ i → h.get j = some bj := by
    intro j bj hj hne
    simpa [Heap.set, hne] using hj
  obtain ⟨arr0, fr0, e1, e2, _, _, _⟩ := s.owned hi ho
  rw [harr] at e1
  simp only [Option.some.injEq, Obj.cells.injEq, true_and] at e1
  obtain ⟨rfl, rfl⟩ := e1
  constructor
  · refine ⟨?_, ?_, ?_, ?_, ?_⟩
    · intro j hj
      have h1 : h.next ≤ j := hj
      have := s.lt hi
      simp only [Heap.set]
      rw [if_neg (by omega), s.next j h1]
    · intro j bj hj
      by_cases hji : j = i
      · subst hji
        have : bj = ⟨cs, b.elem, true⟩ := by simpa [Heap.set] using hj.symm
        subst this
        simp only [BRel, if_true]
        exact ⟨arr', fr', by rw [hw]; simp, by rw [hsz]; exact e2, hfr', hl, hr⟩
      · have hj' := hold j bj hj hji
        refine (s.blk j bj hj').world (fun _ _ => rfl) (s.lt hj') (Nat.le_refl _) ?_
        rw [hw, if_neg]
        intro he
        exact hji (s.apart i j b hi ho (by rw [hj']; simp) he)
    · intro j bj hj
      rw [hsize]
      by_cases hji : j = i
      · subst hji; exact hlow
      · exact s.low j bj (hold j bj hj hji)
    · intro j k bj hj hoj hk he
      cases hxk : (h.set i ⟨cs, b.elem, true⟩).get k with
      | none => exact absurd hxk hk
      | some bk =>
        have hk' : h.get k ≠ none := by
          by_cases hki : k = i
          · subst hki; rw [hi]; simp
          · rw [hold k bk hxk hki]; simp
        by_cases hji : j = i
        · subst hji; exact s.apart j k b hi ho hk' he
        · exact s.apart j k bj (hold j bj hj hji) hoj hk' he
    · exact s.glob
  · refine ⟨Nat.le_refl _, fun _ _ => rfl, hos, htape, hout, by omega, ?_, ?_⟩
    · intro k hk hno
      rw [hw, if_neg]
      intro he
      exact hno ⟨i, b, hi, ho, he.symm⟩
    · rintro k ⟨j, bj, h1, h2, h3⟩
      by_cases hji : j = i
      · subst hji; exact .inl ⟨j, b, hi, ho, h3⟩
      · exact .inl ⟨j, bj, hold j bj h1 hji, h2, h3⟩

/-- A block of the engine's own under a new number; the elder number is dead. -/
theorem Sim.renumber (s : Sim P φ h w) {i : Nat} {b : Blk} (hi : h.get i = some b) (ho : b.own = true) :
    Sim P (Ren.put φ h.next (φ i)) ((h.kill i).alloc b) w ∧ Step φ h w (Ren.put φ h.next (φ i)) ((h.kill i).alloc b) w := by
  have hlt := s.lt hi
  have hold : ∀ j bj, ((h.kill i).alloc b).get j = some bj → j ≠ h.next → h.get j = some bj ∧ j ≠ i := by
    intro j bj hj hne
    have : (if j = i then none else h.get j) = some bj := by simpa [Heap.alloc, Heap.kill, hne] using hj
    split at this
    · cases this
    · exact ⟨this, by assumption⟩
  have hnew : ∀ bj, ((h.kill i).alloc b).get h.next = some bj → bj = b := by
    intro bj hj
    simpa [Heap.alloc, Heap.kill] using hj.symm
  constructor
  · refine ⟨?_, ?_, ?_, ?_, ?_⟩
    · intro j hj
      have h1 : h.next + 1 ≤ j := hj
      show (if j = h.next then some b else if j = i then none else h.get j) = none
      rw [if_neg (by omega), if_neg (by omega), s.next j (by omega)]
    · intro j bj hj
      by_cases hjn : j = h.next
      · subst hjn
        obtain rfl := hnew bj hj
        obtain ⟨arr, fr, h1, h2, h3, h4, h5⟩ := s.owned hi ho
        simp only [BRel, ho, if_true, Ren.put_at]
        refine ⟨arr, fr, h1, h2, h3, h4, fun k v hk => ?_⟩
        obtain ⟨c, hc, hv⟩ := h5 k v hk
        exact ⟨c, hc, hv.mono Ren.put_lt (by simp [Heap.alloc, Heap.kill])⟩
      · obtain ⟨hj', _⟩ := hold j bj hj hjn
        exact (s.blk j bj hj').world Ren.put_lt (s.lt hj') (by simp [Heap.alloc, Heap.kill]) rfl
    · intro j bj hj
      by_cases hjn : j = h.next
      · subst hjn; rw [Ren.put_at]; exact s.low i b hi
      · obtain ⟨hj', _⟩ := hold j bj hj hjn
        rw [Ren.put_lt j (s.lt hj')]
        exact s.low j bj hj'
    · intro j k bj hj hoj hk he
      cases hxk : ((h.kill i).alloc b).get k with
      | none => exact absurd hxk hk
      | some bk =>
        by_cases hjn : j = h.next
        · by_cases hkn : k = h.next
          · omega
          · exfalso
            obtain ⟨hk', hki⟩ := hold k bk hxk hkn
            rw [hjn, Ren.put_at, Ren.put_lt k (s.lt hk')] at he
            exact hki (s.apart i k b hi ho (by rw [hk']; simp) he)
        · obtain ⟨hj', hji⟩ := hold j bj hj hjn
          rw [Ren.put_lt j (s.lt hj')] at he
          by_cases hkn : k = h.next
          · exfalso
            rw [hkn, Ren.put_at] at he
            exact hji (s.apart j i bj hj' hoj (by rw [hi]; simp) he).symm
          · obtain ⟨hk', _⟩ := hold k bk hxk hkn
            rw [Ren.put_lt k (s.lt hk')] at he
            exact s.apart j k bj hj' hoj (by rw [hk']; simp) he
    · intro g hg
      obtain ⟨h1, h2⟩ := s.glob g hg
      exact ⟨by rw [Ren.put_lt g h2]; exact h1, by simp only [Heap.alloc, Heap.kill]; omega⟩
  · refine ⟨by simp [Heap.alloc, Heap.kill], Ren.put_lt, rfl, rfl, rfl, Nat.le_refl _, fun _ _ _ => rfl, ?_⟩
    rintro k ⟨j, bj, h1, h2, h3⟩
    by_cases hjn : j = h.next
    · subst hjn
      rw [Ren.put_at] at h3
      exact .inl ⟨i, b, hi, ho, h3⟩
    · obtain ⟨hj', _⟩ := hold j bj h1 hjn
      rw [Ren.put_lt j (s.lt hj')] at h3
      exact .inl ⟨j, bj, hj', h2, h3⟩

/-- Which numbers a value names. -/
def Bdd (n : Nat) (v : Value) : Prop := ∃ φ c, VRel φ n v c
theorem VRel.bdd {n : Nat} {v c : Value} (r : VRel φ n v c) : Bdd n v := ⟨φ, c, r⟩
theorem VRel.lower {n n' : Nat} {v c : Value} (r : VRel φ n' v c) : ∀ {φ0 : Ren} {c0 : Value}, VRel φ0 n v c0 → VRel φ n v c := by
  induction r with
  | und c => intro φ0 c0 _; exact .und c
  | bool b => intro φ0 c0 _; exact .bool b
  | int k a => intro φ0 c0 _; exact .int k a
  | float k a => intro φ0 c0 _; exact .float k a
  | complex k a b => intro φ0 c0 _; exact .complex k a b
  | string s => intro φ0 c0 _; exact .string s
  | nilPtr => intro φ0 c0 _; exact .nilPtr
  | ptr i o hi => intro φ0 c0 r0; exact .ptr i o r0.ptr_inv.2.1
  | nilSlice => intro φ0 c0 _; exact .nilSlice
  | slice i o len cap cap' s a' hi h1 h2 h3 h4 h5 h6 =>
    intro φ0 c0 r0
    obtain ⟨_, _, _, hlt, _⟩ := r0.slice_inv
    exact .slice i o len cap cap' s a' hlt h1 h2 h3 h4 h5 h6
  | func fn f c f' c' h1 h2 h3 h4 i3 i4 =>
    intro φ0 c0 r0
    obtain ⟨f0, d0, _, s1, s2, q1, q2⟩ := r0.func_inv
    refine .func fn f c f' c' h1 h2 (fun k x y hx hy => ?_) (fun k x y hx hy => ?_)
    · have hk : k < f0.size := by rw [← s1]; exact (Array.getElem?_eq_some_iff.1 hx).1
      exact i3 k x y hx hy (q1 k x _ hx (Array.getElem?_eq_getElem hk))
    · have hk : k < d0.size := by rw [← s2]; exact (Array.getElem?_eq_some_iff.1 hx).1
      exact i4 k x y hx hy (q2 k x _ hx (Array.getElem?_eq_getElem hk))
  | nilFunc => intro φ0 c0 _; exact .nilFunc
  | iface t v v' _ ih => intro φ0 c0 r0; obtain ⟨u, _, hu⟩ := r0.iface_inv; exact .iface t v v' (ih hu)
  | nilIface => intro φ0 c0 _; exact .nilIface
  | agg c c' h1 _ ih =>
    intro φ0 c0 r0
    obtain ⟨d0, _, s1, q1⟩ := r0.agg_inv
    refine .agg c c' h1 (fun k x y hx hy => ?_)
    have hk : k < d0.size := by rw [← s1]; exact (Array.getElem?_eq_some_iff.1 hx).1
    exact ih k x y hx hy (q1 k x _ hx (Array.getElem?_eq_getElem hk))
  | tuple c c' h1 _ ih =>
    intro φ0 c0 r0
    by_cases hz : c.size = 0
    · have : c = #[] := by simpa using hz
      subst this
      exact .und _
    · obtain ⟨d0, _, s1, q1⟩ := r0.tuple_inv hz
      refine .tuple c c' h1 (fun k x y hx hy => ?_)
      have hk : k < d0.size := by rw [← s1]; exact (Array.getElem?_eq_some_iff.1 hx).1
      exact ih k x y hx hy (q1 k x _ hx (Array.getElem?_eq_getElem hk))
  | nilMap => intro φ0 c0 _; exact .nilMap
  | map i hi => intro φ0 c0 r0; exact .map i r0.map_inv.1

/-- Back to the elder heap: all that was made since is let go. -/
def Ext (h h' : Heap) : Prop := ∀ i b, h.get i = some b → h'.get i = some b
theorem Ext.refl (h : Heap) : Ext h h := fun _ _ hi => hi
theorem Ext.trans {h1 h2 h3 : Heap} (a : Ext h1 h2) (b : Ext h2 h3) : Ext h1 h3 := fun i c hi => b i c (a i c hi)

theorem Sim.reset {φ' : Ren} {h' : Heap} {w' : World} (s0 : Sim P φ h w) (s : Sim P φ' h' w') (_ : ∀ i, i < h.next → φ' i = φ i) (hx : Ext h h') : Sim P φ' h w' where
  next := s0.next
  blk i b hi := by
    have r0 := s0.blk i b hi
    have r := s.blk i b (hx i b hi)
    unfold BRel at r r0 ⊢
    by_cases ho : b.own = true
    · simp only [ho, if_true] at r r0 ⊢
      obtain ⟨arr, fr, h1, h2, h3, h4, h5⟩ := r
      obtain ⟨arr0, fr0, _, _, _, _, g5⟩ := r0
      refine ⟨arr, fr, h1, h2, h3, h4, fun k v hk => ?_⟩
      obtain ⟨c, hc, hv⟩ := h5 k v hk
      obtain ⟨c0, _, hv0⟩ := g5 k v hk
      exact ⟨c, hc, hv.lower hv0⟩
    · simp only [ho, if_false, Bool.false_eq_true] at r r0 ⊢
      intro k v hk
      obtain ⟨c, hc, hv⟩ := r k v hk
      obtain ⟨c0, _, hv0⟩ := r0 k v hk
      exact ⟨c, hc, hv.lower hv0⟩
  low i b hi := s.low i b (hx i b hi)
  apart i j b hi ho hj he := by
    cases hxj : h.get j with
    | none => exact absurd hxj hj
    | some bj => exact s.apart i j b (hx i b hi) ho (by rw [hx j bj hxj]; simp) he
  glob g hg := ⟨(s.glob g hg).1, (s0.glob g hg).2⟩
theorem Step.reset {φ' : Ren} {h' : Heap} {w' : World} (t : Step φ h w φ' h' w') (hx : Ext h h') : Step φ h w φ' h w' where
  next := Nat.le_refl _
  agree := t.agree
  os := t.os
  tape := t.tape
  output := t.output
  size := t.size
  frame := t.frame
  own k hk := t.own k (by
    obtain ⟨i, b, h1, h2, h3⟩ := hk
    exact ⟨i, b, hx i b h1, h2, h3⟩)

theorem Heap.alloc_new (h : Heap) (b : Blk) : (h.alloc b).get h.next = some b := by simp [Heap.alloc]
theorem Heap.alloc_old {h : Heap} {b : Blk} {i : Nat} (hi : i ≠ h.next) : (h.alloc b).get i = h.get i := by simp [Heap.alloc, hi]
theorem Heap.set_alloc (h : Heap) (b c : Blk) : (h.alloc b).set h.next c = h.alloc c := by
  simp only [Heap.alloc, Heap.set, Heap.mk.injEq, and_true]
  funext j
  by_cases hj : j = h.next <;> simp [hj]
theorem Heap.set_at (h : Heap) (i : Nat) (b : Blk) : (h.set i b).get i = some b := by simp [Heap.set]
theorem Heap.set_other {h : Heap} {i j : Nat} {b : Blk} (hj : j ≠ i) : (h.set i b).get j = h.get j := by simp [Heap.set, hj]
theorem Heap.new1 (h : Heap) (b c : Blk) : ((h.alloc b).alloc c).get h.next = some b := by simp [Heap.alloc]
theorem Heap.new2 (h : Heap) (b c d : Blk) : (((h.alloc b).alloc c).alloc d).get h.next = some b := by
  rw [Heap.alloc_old (by show h.next ≠ h.next + 1 + 1; omega)]
  exact Heap.new1 h b c
theorem Heap.new3 (h : Heap) (b c d e : Blk) : ((((h.alloc b).alloc c).alloc d).alloc e).get h.next = some b := by
  rw [Heap.alloc_old (by show h.next ≠ h.next + 1 + 1 + 1; omega)]
  exact Heap.new2 h b c d
/-- From 'next' on there is nothing. -/
def WF (h : Heap) : Prop := ∀ i, h.next ≤ i → h.get i = none
theorem WF.alloc {h : Heap} (wf : WF h) (b : Blk) : WF (h.alloc b) := by
  intro i hi
  have h1 : h.next + 1 ≤ i := hi
  rw [Heap.alloc_old (by omega)]
  exact wf i (by omega)
theorem WF.lt {h : Heap} (wf : WF h) {i : Nat} {b : Blk} (hi : h.get i = some b) : i < h.next := by
  rcases Nat.lt_or_ge i h.next with h1 | h1
  · exact h1
  · rw [wf i h1] at hi; cases hi
theorem WF.ext {h : Heap} (wf : WF h) (b : Blk) : Ext h (h.alloc b) := by
  intro i c hi
  have := wf.lt hi
  rw [Heap.alloc_old (by omega)]
  exact hi
/-- A new row in the place of one that the call has made since. -/
theorem WF.ext_kill {h h1 : Heap} (wf : WF h) (hx : Ext h h1) (wf1 : WF h1) {j : Nat} (hj : h.next ≤ j) (b : Blk) : Ext h ((h1.kill j).alloc b) := by
  intro i c hi
  have h2 := wf.lt hi
  have h3 := hx i c hi
  have h4 := wf1.lt h3
  show (if i = h1.next then some b else if i = j then none else h1.get i) = some c
  rw [if_neg (by omega), if_neg (by omega)]
  exact h3
theorem WF.ext_set {h h1 : Heap} (wf : WF h) (hx : Ext h h1) {j : Nat} (hj : h.next ≤ j) (b : Blk) : Ext h (h1.set j b) := by
  intro i c hi
  have h2 := wf.lt hi
  rw [Heap.set_other (by omega)]
  exact hx i c hi
theorem WF.ext_alloc {h h1 : Heap} (hx : Ext h h1) (wf1 : WF h1) (b : Blk) : Ext h (h1.alloc b) := hx.trans (wf1.ext b)
theorem WF.kill {h : Heap} (wf : WF h) (i : Nat) : WF (h.kill i) := by
  intro j hj
  show (if j = i then none else h.get j) = none
  split
  · rfl
  · exact wf j hj
theorem WF.set {h : Heap} (wf : WF h) {i : Nat} (hi : i < h.next) (b : Blk) : WF (h.set i b) := by
  intro j hj
  have h1 : h.next ≤ j := hj
  rw [Heap.set_other (by omega)]
  exact wf j h1
theorem Heap.kill_alloc_new (h : Heap) (i : Nat) (b : Blk) : ((h.kill i).alloc b).get h.next = some b := by
  show (if h.next = h.next then some b else _) = some b
  simp
theorem Heap.kill_alloc_old {h : Heap} {i j : Nat} {b : Blk} (h1 : j ≠ h.next) (h2 : j ≠ i) : ((h.kill i).alloc b).get j = h.get j := by
  show (if j = h.next then some b else if j = i then none else h.get j) = h.get j
  rw [if_neg h1, if_neg h2]
end Go.Eng
