/-
  Texts of one claim, merged: 4 parts.
-/
import Derived.Test.YtigmojilaadbhaaGreatDoorMpa
set_option maxHeartbeats 16000000
/- . -/
namespace Go.Eng
open Go
variable {P : Program} {φ : Ren} {h : Heap} {w : World}
theorem qew (w : World) (o : Obj) (k : Nat) : (w.heap.push o)[k]? = if k = w.heap.size then some o else w.heap[k]? := by
 rw [Array.getElem?_push]
theorem BRel.world {P : Program} {φ φ' : Ren} {n n' : Nat} {i : Nat} {b : Blk} {w w' : World} (r : BRel P φ n i b w) (ha : ∀ i, i < n → φ' i = φ i) (hi : i < n) (hn : n ≤ n') (hb : w'.heap[(φ i).b]? = w.heap[(φ i).b]?) : BRel P φ' n' i b w' := by
 unfold BRel at r ⊢
 by_cases ho : b.own = true
 ·
  simp only [ho, if_true] at r ⊢
  obtain ⟨arr, fr, h1, h2, h3, h4, h5⟩ := r
  refine ⟨arr, fr, by rw [ha i hi, hb, h1], by rw [ha i hi]; exact h2, h3, h4, fun k v hk => ?_⟩
  obtain ⟨c, hc, hr⟩ := h5 k v hk
  exact ⟨c, hc, hr.mono ha hn⟩
 ·
  simp only [ho, if_false, Bk] at r ⊢
  obtain ⟨r0, r⟩ := r
  refine ⟨?_, fun k v hk => ?_⟩
  ·
   unfold Whole at r0 ⊢
   rw [ha i hi, hb]
   exact r0
  obtain ⟨c, hc, hr⟩ := r k v hk
  refine ⟨c, ?_, hr.mono ha hn⟩
  rw [ha i hi]
  rw [World.cell?_of_block (w := w) hb]
  exact hc
def Ren.put (φ : Ren) (n : Nat) (x : Pl) : Ren := fun i => if i = n then x else φ i
theorem Ren.put_lt {φ : Ren} {n : Nat} {x : Pl} : ∀ i, i < n → (Ren.put φ n x) i = φ i := fun i hi => by simp [Ren.put, Nat.ne_of_lt hi]
abbrev aZ := @Ren.put_lt
theorem Ren.put_at {φ : Ren} {n : Nat} {x : Pl} : (Ren.put φ n x) n = x := by simp [Ren.put]
abbrev bM := @Ren.put_at
theorem Sim.alloc (s : Sim P φ h w) (cs : List Value) (arr : Array Value) (e : TypeId) (fr : Nat × Nat) (hfr : fr.1 = fr.2 ∨ (arr.size ≤ fr.1 ∧ ByteT P e))
  (hl : cs.length ≤ arr.size) (hr : ∀ (k : Nat) v, cs[k]? = some v → ∃ c, arr[k]? = some c ∧ VRel φ h.next v c) :
  Sim P (Ren.put φ h.next ⟨w.heap.size, 0, arr.size⟩) (h.alloc ⟨cs, e, true⟩) (w.alloc (.cells arr e fr)) ∧
  Step φ h w (Ren.put φ h.next ⟨w.heap.size, 0, arr.size⟩) (h.alloc ⟨cs, e, true⟩) (w.alloc (.cells arr e fr)) := by
 have hheap : ∀ k : Nat, (w.alloc (.cells arr e fr)).heap[k]? = if k = w.heap.size then some (.cells arr e fr) else w.heap[k]? := fun k => qew w _ k
 have hold : ∀ i b, (h.alloc ⟨cs, e, true⟩).get i = some b → i ≠ h.next → h.get i = some b := by
  intro i b hb hne
  simpa [Heap.alloc, hne] using hb
 constructor
 ·
  refine ⟨?_, ?_, ?_, ?_, ?_, ?_, ?_⟩
  ·
   refine ⟨fun i hi => ?_, fun i hi => ?_⟩
   ·
    have h1 : h.next + 1 ≤ i := hi
    simp only [Heap.alloc]
    rw [Ac (by omega), s.next.c i (by omega)]
   ·
    have h1 : h.next + 1 ≤ i := hi
    exact s.next.o i (by omega)
  ·
   intro i b hb
   by_cases hin : i = h.next
   ·
    subst hin
    have : b = ⟨cs, e, true⟩ := by simpa [Heap.alloc] using hb.symm
    subst this
    simp only [BRel, if_true, bM]
    refine ⟨arr, fr, by rw [hheap]; simp, ⟨trivial, Aa _⟩, hfr, hl, fun k v hk => ?_⟩
    obtain ⟨c, hc, hv⟩ := hr k v hk
    exact ⟨c, hc, hv.mono aZ (by simp [Heap.alloc])⟩
   ·
    have hb' := hold i b hb hin
    refine (s.blk i b hb').world aZ (s.lt hb') (by simp [Heap.alloc]) ?_
    rw [hheap, Ac (by have := s.low i b hb'; omega)]
  ·
   intro i b hb
   by_cases hin : i = h.next
   ·
    subst hin
    rw [bM]
    simp
   ·
    have hb' := hold i b hb hin
    rw [aZ i (s.lt hb')]
    have := s.low i b hb'
    simp; omega
  ·
   intro i j b hb ho hj he
   cases hxj : (h.alloc ⟨cs, e, true⟩).get j with
   | none => exact absurd hxj hj
   | some bj =>
    by_cases hin : i = h.next
    ·
     by_cases hjn : j = h.next
     ·
      omega
     ·
      exfalso
      have hb' := hold j bj hxj hjn
      rw [hin, bM, aZ j (s.lt hb')] at he
      have := s.low j bj hb'
      simp at he; omega
    ·
     have hb' := hold i b hb hin
     rw [aZ i (s.lt hb')] at he
     by_cases hjn : j = h.next
     ·
      exfalso
      rw [hjn, bM] at he
      have := s.low i b hb'
      simp at he; omega
     ·
      have hbj := hold j bj hxj hjn
      rw [aZ j (s.lt hbj)] at he
      exact s.apart i j b hb' ho (by rw [hbj]; simp) he
  ·
   intro g hg
   obtain ⟨h1, h2⟩ := s.glob g hg
   exact ⟨by rw [aZ g h2]; exact h1, by simp only [Heap.alloc]; omega⟩
  ·
   intro i o hi
   refine (s.objs i o hi).world aZ (s.ltO hi) (by simp [Heap.alloc]) ?_
   rw [hheap, Ac (by have := s.lowO hi; omega)]
  ·
   intro i j o hi hj he
   cases hx : (h.alloc ⟨cs, e, true⟩).obj j with
   | none => exact absurd hx hj
   | some oj =>
    rw [aZ i (s.ltO hi), aZ j (s.ltO hx)] at he
    exact s.apartO i j o hi hj he
 ·
  refine ⟨by simp [Heap.alloc], aZ, rfl, rfl, rfl, by simp, fun k hk _ => by rw [hheap, Ac (by omega)], ?_⟩
  rintro k (⟨i, b, h1, h2, h3⟩ | ⟨i, o, h1, h3⟩)
  ·
   by_cases hin : i = h.next
   ·
    subst hin
    rw [bM] at h3
    exact .inr (by simp at h3; omega)
   ·
    have hb' := hold i b h1 hin
    rw [aZ i (s.lt hb')] at h3
    exact .inl (.inl ⟨i, b, hb', h2, h3⟩)
  ·
   rw [aZ i (s.ltO h1)] at h3
   exact .inl (.inr ⟨i, o, h1, h3⟩)
theorem Sim.write (s : Sim P φ h w) {i : Nat} {b : Blk} (hi : h.get i = some b) (ho : b.own = true) {arr : Array Value} {fr : Nat × Nat} (harr : w.heap[(φ i).b]? = some (.cells arr b.elem fr))
  {w' : World} {arr' : Array Value} {fr' : Nat × Nat} (hsz : arr'.size = arr.size) (hfr' : fr'.1 = fr'.2 ∨ (arr'.size ≤ fr'.1 ∧ ByteT P b.elem)) (hw : ∀ k : Nat, w'.heap[k]? = if k = (φ i).b then some (.cells arr' b.elem fr') else w.heap[k]?)
  (hos : w'.os = w.os) (htape : w'.tape = w.tape) (hout : w'.output = w.output)
  (cs : List Value) (hl : cs.length ≤ arr'.size) (hr : ∀ (k : Nat) v, cs[k]? = some v → ∃ c, arr'[k]? = some c ∧ VRel φ h.next v c) :
  Sim P φ (h.set i ⟨cs, b.elem, true⟩) w' ∧ Step φ h w φ (h.set i ⟨cs, b.elem, true⟩) w' := by
 have hlow := s.low i b hi
 have hsize : w'.heap.size = w.heap.size := by
  apply Nat.le_antisymm
  ·
   rcases Bx w.heap.size w'.heap.size with hlt | hge
   ·
    have := hw w.heap.size
    rw [Ac (by omega), Cq (Aa _), Ar hlt] at this
    cases this
   ·
    exact hge
  ·
   rcases Bx w'.heap.size w.heap.size with hlt | hge
   ·
    have := hw w'.heap.size
    rw [Cq (Aa _)] at this
    split at this
    ·
     cases this
    ·
     rw [Ar hlt] at this; cases this
   ·
    exact hge
 have hold : ∀ j bj, (h.set i ⟨cs, b.elem, true⟩).get j = some bj → j ≠ i → h.get j = some bj := by
  intro j bj hj hne
  simpa [Heap.set, hne] using hj
 obtain ⟨arr0, fr0, e1, e2, _, _, _⟩ := s.owned hi ho
 rw [harr] at e1
 simp only [Option.some.injEq, Obj.cells.injEq, true_and] at e1
 obtain ⟨rfl, rfl⟩ := e1
 have hob : ∀ j o, h.obj j = some o → (φ j).b ≠ (φ i).b := by
  intro j o hj he
  obtain ⟨x, q1, _, q2⟩ := (s.objs j o hj).obj
  rw [he, harr] at q1
  exact q2 _ _ _ (Option.some.inj q1).symm
 constructor
 ·
  refine ⟨?_, ?_, ?_, ?_, ?_, ?_, ?_⟩
  ·
   refine ⟨fun j hj => ?_, fun j hj => s.next.o j hj⟩
   have h1 : h.next ≤ j := hj
   have := s.lt hi
   simp only [Heap.set]
   rw [Ac (by omega), s.next.c j h1]
  ·
   intro j bj hj
   by_cases hji : j = i
   ·
    subst hji
    have : bj = ⟨cs, b.elem, true⟩ := by simpa [Heap.set] using hj.symm
    subst this
    simp only [BRel, if_true]
    exact ⟨arr', fr', by rw [hw]; simp, by rw [hsz]; exact e2, hfr', hl, hr⟩
   ·
    have hj' := hold j bj hj hji
    refine (s.blk j bj hj').world (fun _ _ => rfl) (s.lt hj') (Aa _) ?_
    rw [hw, Ac]
    intro he
    exact hji (s.apart i j b hi ho (by rw [hj']; simp) he)
  ·
   intro j bj hj
   rw [hsize]
   by_cases hji : j = i
   ·
    subst hji; exact hlow
   ·
    exact s.low j bj (hold j bj hj hji)
  ·
   intro j k bj hj hoj hk he
   cases hxk : (h.set i ⟨cs, b.elem, true⟩).get k with
   | none => exact absurd hxk hk
   | some bk =>
    have hk' : h.get k ≠ none := by
     by_cases hki : k = i
     ·
      subst hki; rw [hi]; simp
     ·
      rw [hold k bk hxk hki]; simp
    by_cases hji : j = i
    ·
     subst hji; exact s.apart j k b hi ho hk' he
    ·
     exact s.apart j k bj (hold j bj hj hji) hoj hk' he
  ·
   exact s.glob
  ·
   intro j o hj
   refine (s.objs j o hj).world (fun _ _ => rfl) (s.ltO hj) (Aa _) ?_
   rw [hw, Ac (hob j o hj)]
  ·
   exact s.apartO
 ·
  refine ⟨Aa _, fun _ _ => rfl, hos, htape, hout, by omega, ?_, ?_⟩
  ·
   intro k hk hno
   rw [hw, Ac]
   intro he
   exact hno (.inl ⟨i, b, hi, ho, he.symm⟩)
  ·
   rintro k (⟨j, bj, h1, h2, h3⟩ | ⟨j, o, h1, h3⟩)
   ·
    by_cases hji : j = i
    ·
     subst hji; exact .inl (.inl ⟨j, b, hi, ho, h3⟩)
    ·
     exact .inl (.inl ⟨j, bj, hold j bj h1 hji, h2, h3⟩)
   ·
    exact .inl (.inr ⟨j, o, h1, h3⟩)
theorem Sim.renumber (s : Sim P φ h w) {i : Nat} {b : Blk} (hi : h.get i = some b) (ho : b.own = true) :
  Sim P (Ren.put φ h.next (φ i)) ((h.kill i).alloc b) w ∧ Step φ h w (Ren.put φ h.next (φ i)) ((h.kill i).alloc b) w := by
 have hlt := s.lt hi
 have hold : ∀ j bj, ((h.kill i).alloc b).get j = some bj → j ≠ h.next → h.get j = some bj ∧ j ≠ i := by
  intro j bj hj hne
  have : (if j = i then none else h.get j) = some bj := by simpa [Heap.alloc, Heap.kill, hne] using hj
  split at this
  ·
   cases this
  ·
   exact ⟨this, by assumption⟩
 have hnew : ∀ bj, ((h.kill i).alloc b).get h.next = some bj → bj = b := by
  intro bj hj
  simpa [Heap.alloc, Heap.kill] using hj.symm
 constructor
 ·
  refine ⟨?_, ?_, ?_, ?_, ?_, ?_, ?_⟩
  ·
   refine ⟨fun j hj => ?_, fun j hj => ?_⟩
   ·
    have h1 : h.next + 1 ≤ j := hj
    show (if j = h.next then some b else if j = i then none else h.get j) = none
    rw [Ac (by omega), Ac (by omega), s.next.c j (by omega)]
   ·
    have h1 : h.next + 1 ≤ j := hj
    exact s.next.o j (by omega)
  ·
   intro j bj hj
   by_cases hjn : j = h.next
   ·
    subst hjn
    obtain rfl := hnew bj hj
    obtain ⟨arr, fr, h1, h2, h3, h4, h5⟩ := s.owned hi ho
    simp only [BRel, ho, if_true, bM]
    refine ⟨arr, fr, h1, h2, h3, h4, fun k v hk => ?_⟩
    obtain ⟨c, hc, hv⟩ := h5 k v hk
    exact ⟨c, hc, hv.mono aZ (by simp [Heap.alloc, Heap.kill])⟩
   ·
    obtain ⟨hj', _⟩ := hold j bj hj hjn
    exact (s.blk j bj hj').world aZ (s.lt hj') (by simp [Heap.alloc, Heap.kill]) rfl
  ·
   intro j bj hj
   by_cases hjn : j = h.next
   ·
    subst hjn; rw [bM]; exact s.low i b hi
   ·
    obtain ⟨hj', _⟩ := hold j bj hj hjn
    rw [aZ j (s.lt hj')]
    exact s.low j bj hj'
  ·
   intro j k bj hj hoj hk he
   cases hxk : ((h.kill i).alloc b).get k with
   | none => exact absurd hxk hk
   | some bk =>
    by_cases hjn : j = h.next
    ·
     by_cases hkn : k = h.next
     ·
      omega
     ·
      exfalso
      obtain ⟨hk', hki⟩ := hold k bk hxk hkn
      rw [hjn, bM, aZ k (s.lt hk')] at he
      exact hki (s.apart i k b hi ho (by rw [hk']; simp) he)
    ·
     obtain ⟨hj', hji⟩ := hold j bj hj hjn
     rw [aZ j (s.lt hj')] at he
     by_cases hkn : k = h.next
     ·
      exfalso
      rw [hkn, bM] at he
      exact hji (s.apart j i bj hj' hoj (by rw [hi]; simp) he).symm
     ·
      obtain ⟨hk', _⟩ := hold k bk hxk hkn
      rw [aZ k (s.lt hk')] at he
      exact s.apart j k bj hj' hoj (by rw [hk']; simp) he
  ·
   intro g hg
   obtain ⟨h1, h2⟩ := s.glob g hg
   exact ⟨by rw [aZ g h2]; exact h1, by simp only [Heap.alloc, Heap.kill]; omega⟩
  ·
   intro j o hj
   exact (s.objs j o hj).world aZ (s.ltO hj) (by simp [Heap.alloc, Heap.kill]) rfl
  ·
   intro j k o hj hk he
   cases hx : ((h.kill i).alloc b).obj k with
   | none => exact absurd hx hk
   | some ok =>
    rw [aZ j (s.ltO hj), aZ k (s.ltO hx)] at he
    exact s.apartO j k o hj hk he
 ·
  refine ⟨by simp [Heap.alloc, Heap.kill], aZ, rfl, rfl, rfl, Aa _, fun _ _ _ => rfl, ?_⟩
  rintro k (⟨j, bj, h1, h2, h3⟩ | ⟨j, o, h1, h3⟩)
  ·
   by_cases hjn : j = h.next
   ·
    subst hjn
    rw [bM] at h3
    exact .inl (.inl ⟨i, b, hi, ho, h3⟩)
   ·
    obtain ⟨hj', _⟩ := hold j bj h1 hjn
    rw [aZ j (s.lt hj')] at h3
    exact .inl (.inl ⟨j, bj, hj', h2, h3⟩)
  ·
   rw [aZ j (s.ltO h1)] at h3
   exact .inl (.inr ⟨j, o, h1, h3⟩)
def Bdd (n : Nat) (v : Value) : Prop := ∃ φ c, VRel φ n v c
theorem VRel.lower {n n' : Nat} {v c : Value} (r : VRel φ n' v c) : ∀ {φ0 : Ren} {c0 : Value}, VRel φ0 n v c0 → VRel φ n v c := by
 induction r with
 | und c => intro φ0 c0 _; exact .und c
 | skip => intro φ0 c0 _; exact .skip
 | bool b => intro φ0 c0 _; exact .bool b
 | int k a => intro φ0 c0 _; exact .int k a
 | float k a => intro φ0 c0 _; exact .float k a
 | complex k a b => intro φ0 c0 _; exact .complex k a b
 | string s => intro φ0 c0 _; exact .string s
 | nilPtr => intro φ0 c0 _; exact .nilPtr
 | ptr i o hi => intro φ0 c0 r0; exact .ptr i o r0.ptr_inv.2.1
 | nilSlice => intro φ0 c0 _; exact .nilSlice
 | slice i o len cap cap' s a' hi h1 h2 h3 h4 h5 h6 =>
  intro φ0 c0 r0
  obtain ⟨_, _, _, hlt, _⟩ := r0.slice_inv
  exact .slice i o len cap cap' s a' hlt h1 h2 h3 h4 h5 h6
 | func fn f c f' c' h1 h2 h3 h4 i3 i4 =>
  intro φ0 c0 r0
  obtain ⟨f0, d0, _, s1, s2, q1, q2⟩ := r0.func_inv
  refine .func fn f c f' c' h1 h2 (fun k x y hx hy => ?_) (fun k x y hx hy => ?_)
  ·
   have hk : k < f0.size := by rw [← s1]; exact (Az.1 hx).1
   exact i3 k x y hx hy (q1 k x _ hx (Ar hk))
  ·
   have hk : k < d0.size := by rw [← s2]; exact (Az.1 hx).1
   exact i4 k x y hx hy (q2 k x _ hx (Ar hk))
 | nilFunc => intro φ0 c0 _; exact .nilFunc
 | iface t v v' _ ih => intro φ0 c0 r0; obtain ⟨u, _, hu⟩ := r0.iface_inv; exact .iface t v v' (ih hu)
 | nilIface => intro φ0 c0 _; exact .nilIface
 | agg c c' h1 _ ih =>
  intro φ0 c0 r0
  obtain ⟨d0, _, s1, q1⟩ := r0.agg_inv
  refine .agg c c' h1 (fun k x y hx hy => ?_)
  have hk : k < d0.size := by rw [← s1]; exact (Az.1 hx).1
  exact ih k x y hx hy (q1 k x _ hx (Ar hk))
 | tuple c c' h1 _ ih =>
  intro φ0 c0 r0
  by_cases hz : c.size = 0
  ·
   have : c = #[] := by simpa using hz
   subst this
   exact .und _
  ·
   obtain ⟨d0, _, s1, q1⟩ := r0.tuple_inv hz
   refine .tuple c c' h1 (fun k x y hx hy => ?_)
   have hk : k < d0.size := by rw [← s1]; exact (Az.1 hx).1
   exact ih k x y hx hy (q1 k x _ hx (Ar hk))
 | nilMap => intro φ0 c0 _; exact .nilMap
 | map i hi => intro φ0 c0 r0; exact .map i r0.map_inv.1
theorem Ext.refl (h : Heap) : Ext h h := ⟨fun _ _ hi => hi, fun _ _ hi => hi⟩
abbrev aU := @Ext.refl
theorem Ext.trans {h1 h2 h3 : Heap} (a : Ext h1 h2) (b : Ext h2 h3) : Ext h1 h3 := ⟨fun i c hi => b.c i c (a.c i c hi), fun i c hi => b.o i c (a.o i c hi)⟩
theorem ERel.lower {φ φ0 : Ren} {n n' : Nat} {e : AEnt} {c c0 : MapEntry} (r : ERel φ n' e c) (r0 : ERel φ0 n e c0) : ERel φ n e c := ⟨r.1.lower r0.1, r.2.1.lower r0.2.1, r.2.2⟩
theorem Sim.reset {φ' : Ren} {h' : Heap} {w' : World} (s0 : Sim P φ h w) (s : Sim P φ' h' w') (_ : ∀ i, i < h.next → φ' i = φ i) (hx : Ext h h') : Sim P φ' h w' where
 next := s0.next
 blk i b hi := by
  have r0 := s0.blk i b hi
  have r := s.blk i b (hx i b hi)
  unfold BRel at r r0 ⊢
  by_cases ho : b.own = true
  ·
   simp only [ho, if_true] at r r0 ⊢
   obtain ⟨arr, fr, h1, h2, h3, h4, h5⟩ := r
   obtain ⟨arr0, fr0, _, _, _, _, g5⟩ := r0
   refine ⟨arr, fr, h1, h2, h3, h4, fun k v hk => ?_⟩
   obtain ⟨c, hc, hv⟩ := h5 k v hk
   obtain ⟨c0, _, hv0⟩ := g5 k v hk
   exact ⟨c, hc, hv.lower hv0⟩
  ·
   simp only [ho, if_false, Bk] at r r0 ⊢
   refine ⟨r.1, fun k v hk => ?_⟩
   obtain ⟨c, hc, hv⟩ := r.2 k v hk
   obtain ⟨c0, _, hv0⟩ := r0.2 k v hk
   exact ⟨c, hc, hv.lower hv0⟩
 low i b hi := s.low i b (hx i b hi)
 apart i j b hi ho hj he := by
  cases hxj : h.get j with
  | none => exact absurd hxj hj
  | some bj => exact s.apart i j b (hx i b hi) ho (by rw [hx j bj hxj]; simp) he
 glob g hg := ⟨(s.glob g hg).1, (s0.glob g hg).2⟩
 objs i o hi := by
  have r0 := s0.objs i o hi
  have r := s.objs i o (hx.o i o hi)
  cases o with
  | map es clock =>
   obtain ⟨cs, h1, h2, h3⟩ := r
   obtain ⟨cs0, g1, g2, g3⟩ := r0
   refine ⟨cs, h1, h2, fun k e c he hc => ?_⟩
   have hk : k < cs0.size := by rw [← g2]; exact (Av.1 he).1
   exact (h3 k e c he hc).lower (g3 k e _ he (Ar hk))
  | mapIter m since seen stepped => exact ⟨r.1, r.2.1, r0.2.2⟩
  | strIter st pos => exact r
 apartO i j o hi hj he := by
  cases hxj : h.obj j with
  | none => exact absurd hxj hj
  | some oj => exact s.apartO i j o (hx.o i o hi) (by rw [hx.o j oj hxj]; simp) he
theorem Step.reset {φ' : Ren} {h' : Heap} {w' : World} (t : Step φ h w φ' h' w') (hx : Ext h h') : Step φ h w φ' h w' where
 next := Aa _
 agree := t.agree
 os := t.os
 tape := t.tape
 output := t.output
 size := t.size
 frame := t.frame
 own k hk := t.own k (by
  rcases hk with ⟨i, b, h1, h2, h3⟩ | ⟨i, o, h1, h3⟩
  ·
   exact .inl ⟨i, b, hx.c i b h1, h2, h3⟩
  ·
   exact .inr ⟨i, o, hx.o i o h1, h3⟩)
theorem Heap.alloc_new (h : Heap) (b : Blk) : (h.alloc b).get h.next = some b := by simp [Heap.alloc]
abbrev aB := @Heap.alloc_new
theorem Heap.alloc_old {h : Heap} {b : Blk} {i : Nat} (hi : i ≠ h.next) : (h.alloc b).get i = h.get i := by simp [Heap.alloc, hi]
theorem Heap.set_alloc (h : Heap) (b c : Blk) : (h.alloc b).set h.next c = h.alloc c := by
 simp only [Heap.alloc, Heap.set, Heap.mk.injEq, and_true]
 funext j
 by_cases hj : j = h.next <;> simp [hj]
abbrev cU := @Heap.set_alloc
theorem Heap.set_at (h : Heap) (i : Nat) (b : Blk) : (h.set i b).get i = some b := by simp [Heap.set]
abbrev aF := @Heap.set_at
theorem Heap.set_other {h : Heap} {i j : Nat} {b : Blk} (hj : j ≠ i) : (h.set i b).get j = h.get j := by simp [Heap.set, hj]
abbrev aH := @Heap.set_other
theorem WF.alloc {h : Heap} (wf : WF h) (b : Blk) : WF (h.alloc b) := by
 refine ⟨fun i hi => ?_, fun i hi => ?_⟩
 ·
  have h1 : h.next + 1 ≤ i := hi
  rw [Heap.alloc_old (by omega)]
  exact wf.c i (by omega)
 ·
  have h1 : h.next + 1 ≤ i := hi
  exact wf.o i (by omega)
theorem WF.lt {h : Heap} (wf : WF h) {i : Nat} {b : Blk} (hi : h.get i = some b) : i < h.next := by
 rcases Bx i h.next with h1 | h1
 ·
  exact h1
 ·
  rw [wf.c i h1] at hi; cases hi
theorem WF.ltO {h : Heap} (wf : WF h) {i : Nat} {o : AObj} (hi : h.obj i = some o) : i < h.next := by
 rcases Bx i h.next with h1 | h1
 ·
  exact h1
 ·
  rw [wf.o i h1] at hi; cases hi
theorem WF.ext {h : Heap} (wf : WF h) (b : Blk) : Ext h (h.alloc b) := by
 refine ⟨fun i c hi => ?_, fun _ _ hi => hi⟩
 have := wf.lt hi
 rw [Heap.alloc_old (by omega)]
 exact hi
theorem WF.ext_set {h h1 : Heap} (wf : WF h) (hx : Ext h h1) {j : Nat} (hj : h.next ≤ j) (b : Blk) : Ext h (h1.set j b) := by
 refine ⟨fun i c hi => ?_, fun i o hi => hx.o i o hi⟩
 have h2 := wf.lt hi
 rw [aH (by omega)]
 exact hx.c i c hi
theorem WF.kill {h : Heap} (wf : WF h) (i : Nat) : WF (h.kill i) := by
 refine ⟨fun j hj => ?_, fun j hj => wf.o j hj⟩
 show (if j = i then none else h.get j) = none
 split
 ·
  rfl
 ·
  exact wf.c j hj
theorem WF.set {h : Heap} (wf : WF h) {i : Nat} (hi : i < h.next) (b : Blk) : WF (h.set i b) := by
 refine ⟨fun j hj => ?_, fun j hj => wf.o j hj⟩
 have h1 : h.next ≤ j := hj
 rw [aH (by omega)]
 exact wf.c j h1
theorem Heap.kill_alloc_new (h : Heap) (i : Nat) (b : Blk) : ((h.kill i).alloc b).get h.next = some b := by
 show (if h.next = h.next then some b else _) = some b
 simp
theorem Heap.kill_alloc_old {h : Heap} {i j : Nat} {b : Blk} (h1 : j ≠ h.next) (h2 : j ≠ i) : ((h.kill i).alloc b).get j = h.get j := by
 show (if j = h.next then some b else if j = i then none else h.get j) = h.get j
 rw [Ac h1, Ac h2]
abbrev Env := List (Nat × Value)
def Env.get : Env → Nat → Value
 | [], _ => undef
 | (k, v) :: e, t => bif Nat.beq k t then v else Env.get e t
def Env.put (e : Env) (d : Option Tmp) (v : Value) : Env :=
 match d with
 | some d => (d, v) :: e
 | none => e
def ev (P : Program) (e : Env) : Operand → Value
 | .tmp t => e.get t
 | .const v => bif plainV v then v else undef
 | .global g => bif Nat.blt g P.globals.size then .pointer (some ⟨g, 0, none⟩) else undef
 | .func f => .func (.func f) #[] #[]
structure Rel (P : Program) (N : Nat) (φ : Ren) (env : Env) (h : Heap) (tmps : Array Value) (w : World) : Prop where
 sim : Sim P φ h w
 size : tmps.size = N
 env : ∀ t, VRel φ h.next (env.get t) (tmps.getD t undef)
theorem Env.get_put (e : Env) (d : Nat) (v : Value) (t : Nat) : Env.get ((d, v) :: e) t = if d = t then v else e.get t := by
 simp only [Env.get]
 by_cases h : d = t
 ·
  subst h; have : Nat.beq d d = true := Nat.beq_refl d
  simp
 ·
  have : Nat.beq d t = false := by
   cases hb : Nat.beq d t with
   | true => exact absurd (Bz hb) h
   | false => rfl
  simp [this, h]
theorem getD_set (a : Array Value) (d : Nat) (v : Value) (t : Nat) (hd : d < a.size) : (a.setIfInBounds d v).getD t undef = if d = t then v else a.getD t undef := by
 simp only [Am, Array.getElem?_setIfInBounds]
 by_cases h : d = t
 ·
  subst h; simp [hd]
 ·
  simp [h]
theorem Rel.put {P : Program} {N : Nat} {φ : Ren} {env : Env} {h : Heap} {a : Act} {w : World} (r : Rel P N φ env h a.tmps w) (d : Option Tmp) (hd : ∀ t, d = some t → t < N) {v c : Value} (hv : VRel φ h.next v c) :
  Rel P N φ (env.put d v) h (a.put d c).tmps w := by
 cases d with
 | none => exact r
 | some d =>
  have hdn := hd d rfl
  refine ⟨r.sim, by simp [Act.put, r.size], fun t => ?_⟩
  show VRel φ h.next (Env.get ((d, v) :: env) t) ((a.tmps.setIfInBounds d c).getD t undef)
  rw [Env.get_put, getD_set _ _ _ _ (by rw [r.size]; exact hdn)]
  split
  ·
   exact hv
  ·
   exact r.env t
theorem Rel.ev {P : Program} {N : Nat} {φ : Ren} {env : Env} {h : Heap} {a : Act} {w : World} (r : Rel P N φ env h a.tmps w) (x : Operand) : VRel φ h.next (ev P env x) (a.eval x) := by
 cases x with
 | tmp t => exact r.env t
 | const v =>
  simp only [Eng.ev, Act.eval]
  cases hp : plainV v with
  | true => exact .of_plain hp
  | false => exact .und _
 | global g =>
  simp only [Eng.ev, Act.eval]
  cases hp : Nat.blt g P.globals.size with
  | true =>
   have hg : g < P.globals.size := by simpa [Nat.blt_eq] using hp
   obtain ⟨h1, h2⟩ := r.sim.glob g hg
   have := VRel.ptr (φ := φ) (n := h.next) g 0 h2
   rw [h1.1, h1.2] at this
   exact this
  | false => exact .und _
 | func f => exact .of_scalar rfl
theorem Rel.step {P : Program} {N : Nat} {φ φ' : Ren} {env : Env} {h h' : Heap} {t : Array Value} {w w' : World} (r : Rel P N φ env h t w) (s : Sim P φ' h' w') (st : Step φ h w φ' h' w') : Rel P N φ' env h' t w' :=
 ⟨s, r.size, fun t => st.mono (r.env t)⟩
def Post (P : Program) (N : Nat) (φ : Ren) (h : Heap) (w : World) (K : Env → Heap → Prop) (a' : Act) (w' : World) : Prop :=
 ∃ env' h' φ', K env' h' ∧ a'.defers = [] ∧ Rel P N φ' env' h' a'.tmps w' ∧ Step φ h w φ' h' w'
def AWp (P : Program) (N : Nat) (c : Code) (Q : Exit → Env → Heap → Prop) (env : Env) (h : Heap) : Prop :=
 ∀ φ a w, a.defers = [] → Rel P N φ env h a.tmps w → c.wp P (fun ex a' w' => Post P N φ h w (Q ex) a' w') a w
theorem Post.trans {P : Program} {N : Nat} {φ φ' : Ren} {h h' : Heap} {w w' : World} {K : Env → Heap → Prop} {a : Act} {w2 : World} (p : Post P N φ' h' w' K a w2) (s : Step φ h w φ' h' w') : Post P N φ h w K a w2 := by
 obtain ⟨e, h2, φ2, k, d, r, t⟩ := p
 exact ⟨e, h2, φ2, k, d, r, s.trans t⟩
theorem Post.mono {P : Program} {N : Nat} {φ : Ren} {h : Heap} {w : World} {K K' : Env → Heap → Prop} {a : Act} {w2 : World} (p : Post P N φ h w K a w2) (hk : ∀ e h', K e h' → K' e h') : Post P N φ h w K' a w2 := by
 obtain ⟨e, h2, φ2, k, d, r, t⟩ := p
 exact ⟨e, h2, φ2, hk _ _ k, d, r, t⟩
theorem Post.now {P : Program} {N : Nat} {φ : Ren} {h : Heap} {w : World} {K : Env → Heap → Prop} {env : Env} {a : Act} (k : K env h) (d : a.defers = []) (r : Rel P N φ env h a.tmps w) : Post P N φ h w K a w :=
 ⟨env, h, φ, k, d, r, Step.refl _ _ _⟩
section rules
variable {P : Program} {N : Nat} {Q : Exit → Env → Heap → Prop} {env : Env} {h : Heap}
theorem AWp.mono {c : Code} {Q' : Exit → Env → Heap → Prop} (p : AWp P N c Q env h) (hq : ∀ ex e h', Q ex e h' → Q' ex e h') : AWp P N c Q' env h :=
 fun φ a w hd r => wp_mono (p φ a w hd r) fun ex _ _ hp => hp.mono (hq ex)
structure Weak (env : Env) (h : Heap) (env0 : Env) (h0 : Heap) : Prop where
 env : ∀ t, env0.get t = env.get t ∨ env0.get t = undef
 next : h0.next = h.next
 ext : Ext h0 h
def EW (env env0 : Env) : Prop := ∀ t, env0.get t = env.get t ∨ env0.get t = undef
theorem EW.nil {env : Env} : EW env [] := fun _ => .inr rfl
abbrev aN := @EW.nil
theorem EW.cons {env env0 : Env} {k : Nat} {v : Value} (h : env.get k = v) (r : EW env env0) : EW env ((k, v) :: env0) := fun t => by
 rw [Env.get_put]
 split
 ·
  rename_i e; subst e; exact .inl h.symm
 ·
  exact r t
abbrev aA := @EW.cons
theorem Weak.same {env : Env} {h : Heap} {env0 : Env} (he : EW env env0) : Weak env h env0 h := ⟨he, rfl, aU h⟩
abbrev aI := @Weak.same
theorem Rel.weak {φ : Ren} {env0 : Env} {h0 : Heap} {t : Array Value} {w : World} (r : Rel P N φ env h t w) (k : Weak env h env0 h0) : Rel P N φ env0 h0 t w := by
 refine ⟨r.sim.forget k.next k.ext, r.size, fun t => ?_⟩
 rw [k.next]
 rcases k.env t with e | e
 ·
  rw [e]; exact r.env t
 ·
  rw [e]; exact .und _
theorem Step.weak {φ : Ren} {h0 : Heap} {w : World} (hn : h0.next = h.next) (hx : Ext h0 h) : Step φ h w φ h0 w :=
 ⟨by omega, fun _ _ => rfl, rfl, rfl, rfl, Aa _, fun _ _ _ => rfl, fun _ hk => .inl (hk.forget hx)⟩
abbrev dB := @Step.weak
theorem AWp.weak {c : Code} {env0 : Env} {h0 : Heap} (p : AWp P N c Q env0 h0) (k : Weak env h env0 h0) : AWp P N c Q env h :=
 fun φ a w hd r => wp_mono (p φ a w hd (r.weak k)) fun _ _ _ hp => hp.trans (dB k.next k.ext)
theorem AWp.k9 (k : Q .normal env h) : AWp P N .skip Q env h := fun _ _ _ hd r => wp_skip (Post.now k hd r)
abbrev dD := @AWp.k9
theorem AWp.label {l : Nat} (k : Q .normal env h) : AWp P N (.label l) Q env h := fun _ _ _ hd r => wp_label (Post.now k hd r)
theorem AWp.exit {id : Nat} (k : Q (.exit id) env h) : AWp P N (.exit id) Q env h := fun _ _ _ hd r => wp_exit (Post.now k hd r)
abbrev aP := @AWp.exit
theorem AWp.ret (k : Q .ret env h) : AWp P N .ret Q env h := fun _ _ _ hd r => wp_ret (Post.now k hd r)
abbrev aM := @AWp.ret
@[reducible] def thenQ (K : Env → Heap → Prop) (Q : Exit → Env → Heap → Prop) : Exit → Env → Heap → Prop
 | .normal => K
 | ex => Q ex
@[reducible] def seqQ (P : Program) (N : Nat) (y : Code) (Q : Exit → Env → Heap → Prop) : Exit → Env → Heap → Prop
 | .normal => AWp P N y Q
 | ex => Q ex
theorem AWp.seq {x y : Code} (p : AWp P N x (seqQ P N y Q) env h) : AWp P N (.seq x y) Q env h := by
 intro φ a w hd r
 refine wp_seq (wp_mono (p φ a w hd r) fun ex a' w' hp => ?_)
 cases ex with
 | normal =>
  obtain ⟨e, h2, φ2, k, d, r2, t⟩ := hp
  exact wp_mono (k φ2 a' w' d r2) fun _ _ _ hp2 => hp2.trans t
 | _ => exact hp
abbrev aR := @AWp.seq
theorem AWp.cond {c : Operand} {x y : Code} {t : Bool} (hc : ev P env c = .bool t) (ht : t = true → AWp P N x Q env h) (hf : t = false → AWp P N y Q env h) : AWp P N (.cond c x y) Q env h := by
 intro φ a w hd r
 have hv := r.ev c
 rw [hc] at hv
 exact wp_cond_split hv.bool_inv (fun e => ht e φ a w hd r) (fun e => hf e φ a w hd r)
theorem AWp.c8 {c : Operand} {x y : Code} (hc : ev P env c = .bool true) (p : AWp P N x Q env h) : AWp P N (.cond c x y) Q env h := .cond hc (fun _ => p) (fun e => by cases e)
abbrev aE := @AWp.c8
theorem AWp.c9 {c : Operand} {x y : Code} (hc : ev P env c = .bool false) (p : AWp P N y Q env h) : AWp P N (.cond c x y) Q env h := .cond hc (fun e => by cases e) (fun _ => p)
abbrev aG := @AWp.c9
@[reducible] def blockQ (id : Nat) (Q : Exit → Env → Heap → Prop) : Exit → Env → Heap → Prop
 | .exit id', e, h => if id' = id then Q .normal e h else Q (.exit id') e h
 | ex, e, h => Q ex e h
theorem AWp.b9 {id : Nat} {c : Code} (p : AWp P N c (blockQ id Q) env h) : AWp P N (.block id c) Q env h := by
 intro φ a w hd r
 refine wp_block (wp_mono (p φ a w hd r) fun ex a' w' hp => ?_)
 cases ex with
 | exit id' =>
  simp only [Exit.inBlock]
  split
  ·
   rename_i he
   exact hp.mono fun e h' k => by simpa [blockQ, he] using k
  ·
   rename_i he
   exact hp.mono fun e h' k => by simpa [blockQ, he] using k
 | _ => exact hp
theorem AWp.seqI {α : Type} {x y : Code} (E : α → Env) (H : α → Heap) (V : α → Prop) (p : AWp P N x (thenQ (fun e h' => ∃ z, V z ∧ Weak e h' (E z) (H z)) Q) env h) (q : ∀ z, V z → AWp P N y Q (E z) (H z)) : AWp P N (.seq x y) Q env h :=
 .seq (p.mono fun ex e h' k => by
  cases ex with
  | normal => obtain ⟨z, hz, hw⟩ := k; exact (q z hz).weak hw
  | _ => exact k)
theorem AWp.cutI {α : Type} {x y : Code} (E : α → Env) (H : α → Heap) (V : α → Prop) (p : AWp P N x (thenQ (fun e h' => ∃ z, V z ∧ Weak e h' (E z) (H z)) Q) env h) (q : ∀ z, V z → AWp P N y Q (E z) (H z)) :
  AWp P N x (seqQ P N y Q) env h :=
 p.mono fun ex e h' k => by
  cases ex with
  | normal => obtain ⟨z, hz, hw⟩ := k; exact (q z hz).weak hw
  | _ => exact k
theorem AWp.loop {α : Type} {c : Code} (E : α → Env) (H : α → Heap) (V : α → Prop) (m : α → Nat) (x : α) (hx : V x) (hw : Weak env h (E x) (H x))
  (round : ∀ y, V y → AWp P N c (thenQ (fun e h' => ∃ z, V z ∧ m z < m y ∧ Weak e h' (E z) (H z)) Q) (E y) (H y)) : AWp P N (.loop c) Q env h := by
 intro φ a w hd r b k cs
 have key : ∀ n y φ' a' w', m y = n → V y → a'.defers = [] → Rel P N φ' (E y) (H y) a'.tmps w' → Step φ h w φ' (H y) w' →
   ∃ e a2 w2, Post P N φ h w (Q e) a2 w2 ∧ Arrives P (lone (b.at a' (.code c :: .inLoop c :: k)) cs w') b k cs e a2 w2 := by
  intro n
  induction n using Nat.strongRecOn with
  | _ n ih =>
   intro y φ' a' w' hn hv hd' r' st
   obtain ⟨e, a1, w1, hq, harr⟩ := round y hv φ' a' w' hd' r' b (.inLoop c :: k) cs
   cases e with
   | normal =>
    obtain ⟨e1, h1, φ1, ⟨z, hz, hlt, hwk⟩, d1, r1, t1⟩ := hq
    have st1 : Step φ h w φ1 (H z) w1 := (st.trans t1).trans (dB hwk.next hwk.ext)
    obtain ⟨e2, a2, w2, hq2, harr2⟩ := ih (m z) (hn ▸ hlt) z φ1 a1 w1 rfl hz d1 (r1.weak hwk) st1
    exact ⟨e2, a2, w2, hq2, .of_steps (Steps.trans harr (.one step_inLoop)) harr2⟩
   | exit id => exact ⟨_, a1, w1, hq.trans st, .pass (x := .inLoop c) rfl (fun _ _ => .inl (by simp)) harr⟩
   | goto l => exact ⟨_, a1, w1, hq.trans st, .pass (x := .inLoop c) rfl (fun _ _ => .inl (by simp)) harr⟩
   | ret => exact ⟨_, a1, w1, hq.trans st, .pass (x := .inLoop c) rfl (fun _ _ => .inl (by simp)) harr⟩
   | panic ch => exact ⟨_, a1, w1, hq.trans st, .pass (x := .inLoop c) rfl (fun _ _ => .inl (by simp)) harr⟩
   | outgrown => exact ⟨_, a1, w1, hq.trans st, .pass (x := .inLoop c) rfl (fun _ _ => .inl (by simp)) harr⟩
 obtain ⟨e, a2, w2, hq, harr⟩ := key _ x φ a w rfl hx hd (r.weak hw) (dB hw.next hw.ext)
 exact ⟨e, a2, w2, hq, .of_steps (.one step_loop) harr⟩
abbrev bB := @AWp.loop
end rules
def ARes (P : Program) (φ : Ren) (h : Heap) (w : World) (Q : Value → Heap → Prop) : Ending → World → Prop
 | .returned c, w' => ∃ v h' φ', Q v h' ∧ VRel φ' h'.next v c ∧ Sim P φ' h' w' ∧ Step φ h w φ' h' w'
 | _, _ => False
inductive VRels (φ : Ren) (n : Nat) : List Value → List Value → Prop
 | nil : VRels φ n [] []
 | cons {v c : Value} {vs cs : List Value} (h : VRel φ n v c) (t : VRels φ n vs cs) : VRels φ n (v :: vs) (c :: cs)
def ACalls (P : Program) (f : FuncId) (args : List Value) (h : Heap) (Q : Value → Heap → Prop) : Prop :=
 ∀ φ w cargs, Sim P φ h w → VRels φ h.next args cargs → Calls P f cargs.toArray w (ARes P φ h w Q)
theorem ACalls.mono {P : Program} {f : FuncId} {args : List Value} {h : Heap} {Q Q' : Value → Heap → Prop} (p : ACalls P f args h Q) (hq : ∀ v h', Q v h' → Q' v h') : ACalls P f args h Q' :=
 fun φ w cargs s va => (p φ w cargs s va).mono fun e w' hr => by
  cases e with
  | returned c => obtain ⟨v, h', φ', q, r⟩ := hr; exact ⟨v, h', φ', hq v h' q, r⟩
  | _ => exact hr
theorem ACalls.wf {P : Program} {f : FuncId} {args : List Value} {h : Heap} {Q : Value → Heap → Prop} (p : WF h → ACalls P f args h Q) : ACalls P f args h Q :=
 fun φ w cargs s va => p s.next φ w cargs s va
abbrev aL := @ACalls.wf
theorem ACalls.wf_post {P : Program} {f : FuncId} {args : List Value} {h : Heap} {Q : Value → Heap → Prop} (p : ACalls P f args h Q) : ACalls P f args h fun v h' => Q v h' ∧ WF h' ∧ h.next ≤ h'.next :=
 fun φ w cargs s va => (p φ w cargs s va).mono fun e w' hr => by
  cases e with
  | returned c => obtain ⟨v, h', φ', q, r1, r2, r3⟩ := hr; exact ⟨v, h', φ', ⟨q, r2.next, r3.next⟩, r1, r2, r3⟩
  | _ => exact hr
theorem VRels.length {φ : Ren} {n : Nat} {vs cs : List Value} (h : VRels φ n vs cs) : vs.length = cs.length := by
 induction h with
 | nil => rfl
 | cons _ _ ih => simp [ih]
theorem VRels.at {φ : Ren} {n : Nat} {vs cs : List Value} (h : VRels φ n vs cs) : ∀ i : Nat, VRel φ n (vs.getD i undef) (cs.getD i undef) := by
 induction h with
 | nil => intro i; simp; exact .und _
 | cons hv _ ih =>
  intro i
  cases i with
  | zero => simpa using hv
  | succ i => simpa using ih i
def entryFrom : Nat → List Value → Env
 | _, [] => []
 | k, v :: vs => (k, v) :: entryFrom (k + 1) vs
theorem qcf : ∀ (vs : List Value) (k t : Nat), (entryFrom k vs).get t = if k ≤ t then vs.getD (t - k) undef else undef
 | [], k, t => by simp [entryFrom, Env.get]
 | v :: vs, k, t => by
  simp only [entryFrom]
  rw [Env.get_put, qcf vs (k + 1) t]
  by_cases h : k = t
  ·
   subst h; simp
  ·
   by_cases h2 : k ≤ t
   ·
    rw [Ac h, Ah (by omega), Ah h2]
    have : t - k = (t - (k + 1)) + 1 := by omega
    rw [this]; simp
   ·
    rw [Ac h, Ac (by omega), Ac h2]
def entry (vs : List Value) : Env := entryFrom 0 vs
def ResV (P : Program) (fn : Func) (env : Env) (h : Heap) (v : Value) : Prop :=
 ∀ N φ tmps w, Rel P N φ env h tmps w → ∃ c, (results fn tmps).run P w = .ok c w ∧ VRel φ h.next v c
theorem ResV.tmp {P : Program} {fn : Func} {env : Env} {h : Heap} {t : Tmp} (hr : fn.results = #[.tmp t]) : ResV P fn env h (env.get t) := by
 intro N φ tmps w r
 refine ⟨tmps.getD t undef, ?_, r.env t⟩
 simp [results, hr]
abbrev aC := @ResV.tmp
theorem ResV.none {P : Program} {fn : Func} {env : Env} {h : Heap} (hr : fn.results = #[]) : ResV P fn env h (.tuple #[]) := by
 intro N φ tmps w r
 exact ⟨.tuple #[], by simp [results, hr], .und _⟩
theorem VRel.tuple2 {φ : Ren} {n : Nat} {a b a' b' : Value} (h1 : VRel φ n a a') (h2 : VRel φ n b b') : VRel φ n (.tuple #[a, b]) (.tuple #[a', b']) := by
 refine .tuple _ _ rfl fun k x y hx hy => ?_
 match k with
 | 0 => simp at hx hy; subst hx hy; exact h1
 | 1 => simp at hx hy; subst hx hy; exact h2
 | k + 2 => simp at hx
theorem VRel.tuple3 {φ : Ren} {n : Nat} {a b c a' b' c' : Value} (h1 : VRel φ n a a') (h2 : VRel φ n b b') (h3 : VRel φ n c c') : VRel φ n (.tuple #[a, b, c]) (.tuple #[a', b', c']) := by
 refine .tuple _ _ rfl fun k x y hx hy => ?_
 match k with
 | 0 => simp at hx hy; subst hx hy; exact h1
 | 1 => simp at hx hy; subst hx hy; exact h2
 | 2 => simp at hx hy; subst hx hy; exact h3
 | k + 3 => simp at hx
theorem ResV.tmp2 {P : Program} {fn : Func} {env : Env} {h : Heap} {t u : Tmp} (hr : fn.results = #[.tmp t, .tmp u]) : ResV P fn env h (.tuple #[env.get t, env.get u]) := by
 intro N φ tmps w r
 refine ⟨.tuple #[tmps.getD t undef, tmps.getD u undef], ?_, .tuple2 (r.env t) (r.env u)⟩
 simp [results, hr]
abbrev bG := @ResV.tmp2
theorem ResV.tmp3 {P : Program} {fn : Func} {env : Env} {h : Heap} {t u s : Tmp} (hr : fn.results = #[.tmp t, .tmp u, .tmp s]) : ResV P fn env h (.tuple #[env.get t, env.get u, env.get s]) := by
 intro N φ tmps w r
 refine ⟨.tuple #[tmps.getD t undef, tmps.getD u undef, tmps.getD s undef], ?_, .tuple3 (r.env t) (r.env u) (r.env s)⟩
 simp [results, hr]
@[reducible] def endQ (K : Env → Heap → Prop) : Exit → Env → Heap → Prop
 | .normal, e, h => K e h
 | .ret, e, h => K e h
 | _, _, _ => False
theorem ACalls.body {P : Program} {f : FuncId} {fn : Func} {c : Code} {args : List Value} {h : Heap} {Q : Value → Heap → Prop} (hf : P.funcs[f]? = some fn) (hb : fn.body = some c) (hn : Nat.ble args.length fn.ntmps = true)
  (p : AWp P fn.ntmps c (endQ fun env h' => ∃ v, ResV P fn env h' v ∧ Q v h') (entry args) h) : ACalls P f args h Q := by
 intro φ w cargs s va
 have hn := Ab hn
 refine calls_of_wp hf hb (wp_mono (p φ _ w rfl ⟨s, ?_, ?_⟩) ?_)
 ·
  have := va.length
  simp; omega
 ·
  intro t
  unfold entry
  rw [qcf]
  simp only [Ao, if_true, Nat.sub_zero]
  have h1 := va.at t
  have hlen := va.length
  by_cases ht : t < cargs.length
  ·
   have e : (cargs.toArray ++ Array.replicate (fn.ntmps - cargs.toArray.size) undef).getD t undef = cargs.getD t undef := by
    simp [Array.getD_eq_getD_getElem?, Array.getElem?_append, ht]
   rw [e]; exact h1
  ·
   have e : args.getD t undef = undef := by simp [List.getD_eq_getElem?_getD, List.getElem?_eq_none (show args.length ≤ t by omega)]
   rw [e]; exact .und _
 ·
  intro ex a' w' hp
  cases ex with
  | normal =>
   obtain ⟨e, h2, φ2, ⟨v, hv, q⟩, d, r, t⟩ := hp
   obtain ⟨cv, hc, hvr⟩ := hv _ _ _ _ r
   exact ⟨d, cv, hc, v, h2, φ2, q, hvr, r.sim, t⟩
  | ret =>
   obtain ⟨e, h2, φ2, ⟨v, hv, q⟩, d, r, t⟩ := hp
   obtain ⟨cv, hc, hvr⟩ := hv _ _ _ _ r
   exact ⟨d, cv, hc, v, h2, φ2, q, hvr, r.sim, t⟩
  | _ => obtain ⟨e, h2, φ2, k, _⟩ := hp; exact k.elim
abbrev aD := @ACalls.body
theorem ACalls.reset {P : Program} {f : FuncId} {args : List Value} {h : Heap} {Q : Value → Heap → Prop} (p : ACalls P f args h fun v h' => scalar v = true ∧ Ext h h' ∧ Q v h) : ACalls P f args h Q :=
 fun φ w cargs s va => (p φ w cargs s va).mono fun e w' hr => by
  cases e with
  | returned c =>
   obtain ⟨v, h', φ', ⟨hs, hx, q⟩, r1, r2, r3⟩ := hr
   refine ⟨v, h, φ', q, ?_, s.reset r2 r3.agree hx, r3.reset hx⟩
   exact r1.lower (VRel.of_scalar (φ := φ) (n := h.next) hs)
  | _ => exact hr
abbrev aO := @ACalls.reset
theorem qbO {Q Q' : Exit → Act → World → Prop} (hq : ∀ e a w, Q e a w → Q' e a w) (l : LetsOut Q) : LetsOut Q' := by
 obtain ⟨a, w, k⟩ := l
 exact ⟨a, w, hq _ _ _ k⟩
theorem qgc {P : Program} {o : Oper} {a : Act} {next next' : Act → World → Prop} {Q Q' : Exit → Act → World → Prop} (hn : ∀ a w, next a w → next' a w) (hq : ∀ e a w, Q e a w → Q' e a w) :
  ∀ r, o.upon P a next Q r → o.upon P a next' Q' r := by
 intro r hr
 unfold Oper.upon at hr ⊢
 split at hr
 ·
  exact hn _ _ hr
 ·
  exact hn _ _ hr
 ·
  exact hn _ _ hr
 ·
  refine hr.mono fun e w' k => ?_
  cases e with
  | returned v => exact hn _ _ k
  | panicked c => exact hq _ _ _ k
  | outgrown => exact qbO hq k
 ·
  exact hr.mono fun _ _ k => hn _ _ k
 ·
  exact hq _ _ _ hr
 ·
  exact hr.elim
theorem qce {P : Program} {ops : Array Oper} {Q Q' : Exit → Act → World → Prop} (hq : ∀ e a w, Q e a w → Q' e a w) : ∀ (l : List Oper) (a : Act) (w : World), wpList P ops Q l a w → wpList P ops Q' l a w
 | [], _, _, p => hq _ _ _ p
 | o :: rest, a, w, p => by
  simp only [wpList] at p ⊢
  split
  ·
   rename_i hw
   rw [Ah hw] at p
   rcases p with p | ⟨p1, p2⟩
   ·
    exact .inl (qgc (qce hq rest) hq _ p)
   ·
    exact .inr ⟨p1, qbO hq p2⟩
  ·
   rename_i hw
   rw [Ac hw] at p
   exact qce hq rest _ _ p
def AL (P : Program) (N : Nat) (ops : Array Oper) (l : List Oper) (Q : Exit → Env → Heap → Prop) (env : Env) (h : Heap) : Prop :=
 ∀ φ a w, a.defers = [] → Rel P N φ env h a.tmps w → wpList P ops (fun ex a' w' => Post P N φ h w (Q ex) a' w') l a w
structure RelO (P : Program) (φ : Ren) (ρ : Operand → Value) (o : Oper) (h : Heap) (a : Act) (w : World) : Prop where
 sim : Sim P φ h w
 ev : ∀ x, x ∈ o.op.operands → VRel φ h.next (ρ x) (a.eval x)
def AOp (P : Program) (o : Oper) (ρ : Operand → Value) (h : Heap) (K : Value → Heap → Prop) : Prop :=
 ∀ φ a w, RelO P φ ρ o h a w → ∀ (next : Act → World → Prop) (Qc : Exit → Act → World → Prop),
  (∀ c w' φ' h' v, K v h' → VRel φ' h'.next v c → Sim P φ' h' w' → Step φ h w φ' h' w' → next (a.put o.dst c) w') → o.wp P a w next Qc
def dstB (N : Nat) : Option Tmp → Bool
 | none => true
 | some d => Nat.blt d N
variable {P : Program} {N : Nat} {ops : Array Oper} {rest : List Oper} {o : Oper} {Q : Exit → Env → Heap → Prop} {env : Env} {ρ : Operand → Value} {h : Heap} {K : Value → Heap → Prop}
theorem qbX {d : Option Tmp} (hd : dstB N d = true) : ∀ t, d = some t → t < N := by
 rintro t rfl
 simpa [dstB, Nat.blt_eq] using hd
theorem AWp.r9 {id : Nat} (p : AL P N ops ops.toList Q env h) : AWp P N (.region id ops false) Q env h :=
 fun φ a w hd r => wp_region_list (p φ a w hd r)
abbrev aY := @AWp.r9
theorem AL.nil (k : Q .normal env h) : AL P N ops [] Q env h := fun _ _ _ hd r => Post.now k hd r
abbrev aW := @AL.nil
theorem qa6 (a : Act) (d : Option Tmp) (c : Value) : (a.put d c).defers = a.defers := by cases d <;> rfl
def gv (ops : Array Oper) (env : Env) (o : Oper) : Option Bool :=
 match o.guard with
 | none => some true
 | some (j, want) => match (ops[j]?).bind (·.dst) with
  | some t => match env.get t with
   | .bool b => some (b == want)
   | .chan none => some false
   | _ => none
  | none => none
theorem qbk {φ : Ren} {env : Env} {h : Heap} {tmps : Array Value} {w : World} {o : Oper} {b : Bool} (r : Rel P N φ env h tmps w) (hg : gv ops env o = some b) : Region.wanted o (yielded ops tmps) = b := by
 unfold gv at hg
 unfold Region.wanted
 cases hgd : o.guard with
 | none => rw [hgd] at hg; simpa using hg
 | some jw =>
  obtain ⟨j, want⟩ := jw
  rw [hgd] at hg
  simp only at hg ⊢
  cases hj : (ops[j]?).bind (·.dst) with
  | none => rw [hj] at hg; simp at hg
  | some t =>
   rw [hj] at hg
   simp only at hg
   cases hv : env.get t with
   | bool x =>
    rw [hv] at hg
    simp only [Option.some.injEq] at hg
    have h1 := r.env t
    rw [hv] at h1
    have h2 := h1.bool_inv
    have ht : t < tmps.size := by
     rcases Bx t tmps.size with hl | hl
     ·
      exact hl
     ·
      rw [Am, Cq hl] at h2
      simp [undef] at h2
    have h3 : tmps[t]? = some (.bool x) := by
     rw [Ar ht]
     rw [← h2]
     simp [Array.getD_eq_getD_getElem?, Array.getElem?_eq_getElem ht]
    simp only [yielded, hj, Da, h3]
    rw [← hg]
    cases x <;> cases want <;> rfl
   | chan x =>
    cases x with
    | some x => rw [hv] at hg; simp at hg
    | none =>
     rw [hv] at hg
     simp only [Option.some.injEq] at hg
     have h1 := r.env t
     rw [hv] at h1
     have h2 := h1.skip_inv
     rw [← hg]
     simp only [yielded, hj, Da]
     rw [Am] at h2
     cases h3 : tmps[t]? with
     | none => rfl
     | some u => rw [h3] at h2; simp only [Bj] at h2; rw [h2]; rfl
   | _ => rw [hv] at hg; simp at hg
def sB (N : Nat) (ops : Array Oper) (env : Env) (d : Tmp) (o : Oper) : Bool := Nat.blt d N && (match gv ops env o with | some true => true | _ => false)
theorem AL.set {d : Tmp} {op : Op} {ty : TypeId} {pos : String} {aft : Array Edge} {g : Option (Nat × Bool)} (hd : Nat.blt d N = true) (hg : gv ops env ⟨some d, op, ty, pos, aft, g⟩ = some true)
  (p : AOp P ⟨some d, op, ty, pos, aft, g⟩ (ev P env) h fun v h' => AL P N ops rest Q ((d, v) :: env) h') : AL P N ops (⟨some d, op, ty, pos, aft, g⟩ :: rest) Q env h := by
 intro φ a w hdf r
 simp only [wpList, qbk r hg, if_true]
 refine .inl (p φ a w ⟨r.sim, fun x _ => r.ev x⟩ _ _ fun c w' φ' h' v k vr s st => ?_)
 exact qce (fun _ _ _ hp => hp.trans st) _ _ _ (k φ' _ w' (by rw [qa6]; exact hdf) ((r.step s st).put (some d) (qbX hd) vr))
theorem AL.eff {op : Op} {ty : TypeId} {pos : String} {aft : Array Edge} {g : Option (Nat × Bool)} (hg : gv ops env ⟨none, op, ty, pos, aft, g⟩ = some true) (p : AOp P ⟨none, op, ty, pos, aft, g⟩ (ev P env) h fun _ h' => AL P N ops rest Q env h') :
  AL P N ops (⟨none, op, ty, pos, aft, g⟩ :: rest) Q env h := by
 intro φ a w hdf r
 simp only [wpList, qbk r hg, if_true]
 refine .inl (p φ a w ⟨r.sim, fun x _ => r.ev x⟩ _ _ fun c w' φ' h' v k vr s st => ?_)
 exact qce (fun _ _ _ hp => hp.trans st) _ _ _ (k φ' _ w' (by rw [qa6]; exact hdf) (r.step s st))
abbrev aJ := @AL.eff
theorem AL.skip {d : Option Tmp} {op : Op} {ty : TypeId} {pos : String} {aft : Array Edge} {g : Option (Nat × Bool)} (hd : dstB N d = true) (hg : gv ops env ⟨d, op, ty, pos, aft, g⟩ = some false)
  (p : AL P N ops rest Q (env.put d skipV) h) : AL P N ops (⟨d, op, ty, pos, aft, g⟩ :: rest) Q env h := by
 intro φ a w hdf r
 simp only [wpList, qbk r hg, Bk, if_false]
 exact p φ _ w (by rw [qa6]; exact hdf) (r.put d (qbX hd) .skip)
abbrev aK := @AL.skip
theorem zz {d : Tmp} {op : Op} {ty : TypeId} {pos : String} {aft : Array Edge} {g : Option (Nat × Bool)} (hb : sB N ops env d ⟨some d, op, ty, pos, aft, g⟩ = true)
 (p : AOp P ⟨some d, op, ty, pos, aft, g⟩ (ev P env) h fun v h' => AL P N ops rest Q ((d, v) :: env) h') : AL P N ops (⟨some d, op, ty, pos, aft, g⟩ :: rest) Q env h := by
 unfold sB at hb
 rw [Ae] at hb
 refine AL.set hb.1 ?_ p
 revert hb
 cases gv ops env ⟨some d, op, ty, pos, aft, g⟩ with
 | none => intro hb; cases hb.2
 | some b => cases b with
  | false => intro hb; cases hb.2
  | true => intro _; rfl
class W (g : Prop) (s : outParam Prop) : Prop where
 w : s → g
instance w_1 : W (AL P N ops [] Q env h) (Q .normal env h) := ⟨aW⟩
instance w_2 {x y : Code} : W (AWp P N (.seq x y) Q env h) (AWp P N x (seqQ P N y Q) env h) := ⟨aR⟩
instance w_3 {id : Nat} : W (AWp P N (.region id ops false) Q env h) (AL P N ops ops.toList Q env h) := ⟨aY⟩
instance w_4 {id : Nat} {c : Code} : W (AWp P N (.block id c) Q env h) (AWp P N c (blockQ id Q) env h) := ⟨AWp.b9⟩
instance w_5 : W (AWp P N .skip Q env h) (Q .normal env h) := ⟨dD⟩
instance w_6 : W (AWp P N .ret Q env h) (Q .ret env h) := ⟨aM⟩
theorem aq {h : Heap} (w : WF h) (b : Blk) : ∃ H, h.alloc b = H ∧ H.get h.next = some b ∧ Ext h H ∧ WF H ∧ H.next = h.next + 1 := ⟨_, rfl, aB _ _, w.ext b, w.alloc b, rfl⟩
theorem sB_1 {N : Nat} {ops : Array Oper} {env : Env} {d : Tmp} {o : Oper} (h : sB N ops env d o = true) : Nat.blt d N = true := by
 unfold sB at h
 rw [Ae] at h
 exact h.1
theorem sB_2 {N : Nat} {ops : Array Oper} {env : Env} {d : Tmp} {o : Oper} (h : sB N ops env d o = true) : gv ops env o = some true := by
 unfold sB at h
 rw [Ae] at h
 revert h
 cases gv ops env o with
 | none => intro h; cases h.2
 | some b => cases b with
  | false => intro h; cases h.2
  | true => intro _; rfl
theorem AL.heap {l : List Oper} {h' : Heap} (e : h' = h) (p : AL P N ops l Q env h) : AL P N ops l Q env h' := e ▸ p
abbrev aS := @AL.heap
theorem AWp.heap {c : Code} {h' : Heap} (e : h' = h) (p : AWp P N c Q env h) : AWp P N c Q env h' := e ▸ p
abbrev cX := @AWp.heap
theorem AOp.of_run (p : ∀ φ (a : Act) w, RelO P φ ρ o h a w → ∃ c w' φ' h' v, (execOp a.eval o).run P w = .ok (.value c) w' ∧ K v h' ∧ VRel φ' h'.next v c ∧ Sim P φ' h' w' ∧ Step φ h w φ' h' w') : AOp P o ρ h K := by
 intro φ a w r next Qc kk
 obtain ⟨c, w', φ', h', v, hr, k, v1, s, st⟩ := p φ a w r
 unfold Oper.wp
 rw [hr]
 exact kk c w' φ' h' v k v1 s st
theorem AOp.of_skip (p : ∀ φ (a : Act) w, RelO P φ ρ o h a w → ∃ w' φ' h', (execOp a.eval o).run P w = .ok .skip w' ∧ K undef h' ∧ Sim P φ' h' w' ∧ Step φ h w φ' h' w') : AOp P o ρ h K := by
 intro φ a w r next Qc kk
 obtain ⟨w', φ', h', hr, k, s, st⟩ := p φ a w r
 unfold Oper.wp
 rw [hr]
 exact kk undef w' φ' h' undef k (.und _) s st
theorem AOp.of_pure {v : Value} (k : K v h) (p : ∀ φ (a : Act) w, RelO P φ ρ o h a w → ∃ c, (execOp a.eval o).run P w = .ok (.value c) w ∧ VRel φ h.next v c) : AOp P o ρ h K :=
 .of_run fun φ a w r => by
  obtain ⟨c, hr, hv⟩ := p φ a w r
  exact ⟨c, w, φ, h, v, hr, k, hv, r.sim, Step.refl _ _ _⟩
class TyD (P : Program) (t : TypeId) (d : outParam TypeDesc) : Prop where
 eq : P.underlying t = some d
class TyI (P : Program) (t : TypeId) (size bytes : outParam Nat) (zero : outParam Value) : Prop where
 ex : ∃ i, P.info? t = some i ∧ i.size = size ∧ i.bytes = bytes ∧ i.zero = some zero
 sz : zero.cells.size = size
 plain : zero.cells.toList.all scalar = true
theorem qaV {P : Program} {t : TypeId} {s b : Nat} {z : Value} (h : (P.info? t).map (fun i => (i.size, i.bytes, i.zero)) = some (s, b, some z)) : ∃ i, P.info? t = some i ∧ i.size = s ∧ i.bytes = b ∧ i.zero = some z := by
 cases hi : P.info? t with
 | none => rw [hi] at h; cases h
 | some i =>
  rw [hi] at h
  simp only [Dm, Option.some.injEq, Prod.mk.injEq] at h
  exact ⟨i, rfl, h.1, h.2.1, h.2.2⟩
theorem TyI.size {t : TypeId} {s b : Nat} {z : Value} [k : TyI P t s b z] (w : World) : (sizeOf t).run P w = .ok s w := by
 obtain ⟨i, h1, h2, h3, h4⟩ := k.ex
 simp [sizeOf, typeInfo, h1, h2]
theorem TyI.zero {t : TypeId} {s b : Nat} {z : Value} [k : TyI P t s b z] (w : World) : (zeroValue t).run P w = .ok z w := by
 obtain ⟨i, h1, h2, h3, h4⟩ := k.ex
 simp [zeroValue, typeInfo, h1, h4]
theorem TyD.run {t : TypeId} {d : TypeDesc} [k : TyD P t d] (w : World) : (underlying t).run P w = .ok d w := run_underlying k.eq w
def aggB : TypeDesc → Bool
 | .struct _ | .array _ _ => true
 | _ => false
theorem TyD.isAgg {t : TypeId} {d : TypeDesc} [k : TyD P t d] (w : World) : (isAgg t).run P w = .ok (aggB d) w := by
 simp only [Go.isAgg, Sem.run_bind, k.run, Result.andThen_ok]
 cases d <;> rfl
section pureops
variable {dst : Option Tmp} {ty : TypeId} {pos : String} {aft : Array Edge} {g : Option (Nat × Bool)}
theorem qal {x : Operand} {v : Value} (hx : ρ x = v) (k : K v h) : AOp P ⟨dst, .move x, ty, pos, aft, g⟩ ρ h K :=
 .of_pure k fun φ a w r => ⟨a.eval x, by simp [execOp], hx ▸ r.ev x (by simp [Op.operands])⟩
theorem qao {x : Operand} {v : Value} (hx : ρ x = v) (k : K v h) : AOp P ⟨dst, .assign x, ty, pos, aft, g⟩ ρ h K :=
 .of_pure k fun φ a w r => ⟨a.eval x, by simp [execOp], hx ▸ r.ev x (by simp [Op.operands])⟩
theorem qac {x : Operand} {i : IntKind} {a : Int} (hx : ρ x = .int i a) (k : K (.int i a) h) : AOp P ⟨dst, .move x, ty, pos, aft, g⟩ ρ h K := qal hx k
theorem qad {x : Operand} {i : IntKind} {a : Int} (hx : ρ x = .int i a) (k : K (.int i a) h) : AOp P ⟨dst, .assign x, ty, pos, aft, g⟩ ρ h K := qao hx k
theorem qdZ {x : Operand} {p : Option Addr} {n c : Nat} (hx : ρ x = .slice p n c) (k : K (.slice p n c) h) : AOp P ⟨dst, .move x, ty, pos, aft, g⟩ ρ h K := qal hx k
theorem qaR {x : Operand} {p : Option Addr} {n c : Nat} (hx : ρ x = .slice p n c) (k : K (.slice p n c) h) : AOp P ⟨dst, .assign x, ty, pos, aft, g⟩ ρ h K := qao hx k
theorem qae {x : Operand} {b : Bool} (hx : ρ x = .bool b) (k : K (.bool b) h) : AOp P ⟨dst, .move x, ty, pos, aft, g⟩ ρ h K := qal hx k
theorem qaa {x : Operand} {b : Bool} (hx : ρ x = .bool b) (k : K (.bool b) h) : AOp P ⟨dst, .assign x, ty, pos, aft, g⟩ ρ h K := qao hx k
theorem qaB {x : Operand} {p : Option Addr} (hx : ρ x = .pointer p) (k : K (.pointer p) h) : AOp P ⟨dst, .move x, ty, pos, aft, g⟩ ρ h K := qal hx k
theorem qcE {x : Operand} {p : Option Addr} (hx : ρ x = .pointer p) (k : K (.pointer p) h) : AOp P ⟨dst, .assign x, ty, pos, aft, g⟩ ρ h K := qao hx k
theorem qaj {x : Operand} {p : ByteArray} (hx : ρ x = .string p) (k : K (.string p) h) : AOp P ⟨dst, .move x, ty, pos, aft, g⟩ ρ h K := qal hx k
theorem qah {x : Operand} {p : ByteArray} (hx : ρ x = .string p) (k : K (.string p) h) : AOp P ⟨dst, .assign x, ty, pos, aft, g⟩ ρ h K := qao hx k
theorem qaC {x : Operand} {p : Array Value} (hx : ρ x = .tuple p) (k : K (.tuple p) h) : AOp P ⟨dst, .move x, ty, pos, aft, g⟩ ρ h K := qal hx k
theorem qbl {x : Operand} {f : Fn} {p q : Array Value} (hx : ρ x = .func f p q) (k : K (.func f p q) h) : AOp P ⟨dst, .move x, ty, pos, aft, g⟩ ρ h K := qal hx k
theorem qbj {x : Operand} {f : Fn} {p q : Array Value} (hx : ρ x = .func f p q) (k : K (.func f p q) h) : AOp P ⟨dst, .assign x, ty, pos, aft, g⟩ ρ h K := qao hx k
theorem qag {c x y : Operand} {b : Bool} {v : Value} (hc : ρ c = .bool b) (hx : (bif b then ρ x else ρ y) = v) (k : K v h) : AOp P ⟨dst, .pick c x y, ty, pos, aft, g⟩ ρ h K :=
 .of_pure k fun φ a w r => by
  have h1 := r.ev c (by simp [Op.operands])
  rw [hc] at h1
  have h2 := h1.bool_inv
  refine ⟨if b then a.eval x else a.eval y, by simp [execOp, h2, asBool], ?_⟩
  subst hx
  cases b
  ·
   exact r.ev y (by simp [Op.operands])
  ·
   exact r.ev x (by simp [Op.operands])
end pureops
variable {P : Program} {ρ : Operand → Value} {h : Heap} {K : Value → Heap → Prop} {dst : Option Tmp} {ty : TypeId} {pos : String} {aft : Array Edge} {g : Option (Nat × Bool)}
def binI (op : BinOp) (k : IntKind) (a : Int) (k' : IntKind) (b : Int) : Option Value :=
  match op with
  | .shl => if b < 0 then none else some (.int k (k.wrap (a * 2 ^ min b.toNat k.bits)))
  | .shr => if b < 0 then none else some (.int k (a.fdiv (2 ^ min b.toNat k.bits)))
  | .add => if k = k' then some (.int k (k.wrap (a + b))) else none
  | .sub => if k = k' then some (.int k (k.wrap (a - b))) else none
  | .mul => if k = k' then some (.int k (k.wrap (a * b))) else none
  | .quo => if k = k' then (if b = 0 then none else some (.int k (k.wrap (a.tdiv b)))) else none
  | .rem => if k = k' then (if b = 0 then none else some (.int k (a.tmod b))) else none
  | .and => if k = k' then some (.int k (k.wrap (BitVec.ofInt k.bits a &&& BitVec.ofInt k.bits b).toNat)) else none
  | .or => if k = k' then some (.int k (k.wrap (BitVec.ofInt k.bits a ||| BitVec.ofInt k.bits b).toNat)) else none
  | .xor => if k = k' then some (.int k (k.wrap (BitVec.ofInt k.bits a ^^^ BitVec.ofInt k.bits b).toNat)) else none
  | .andNot => if k = k' then some (.int k (k.wrap (BitVec.ofInt k.bits a &&& ~~~BitVec.ofInt k.bits b).toNat)) else none
  | .eql => if k = k' then some (.bool (decide (a = b))) else none
  | .neq => if k = k' then some (.bool (decide (a ≠ b))) else none
  | .lss => if k = k' then some (.bool (decide (a < b))) else none
  | .leq => if k = k' then some (.bool (decide (a ≤ b))) else none
  | .gtr => if k = k' then some (.bool (decide (b < a))) else none
  | .geq => if k = k' then some (.bool (decide (b ≤ a))) else none
theorem run_binI {op : BinOp} {t : TypeId} {k k' : IntKind} {a b : Int} {v : Value} (w : World) (hv : binI op k a k' b = some v) : (binOp op t (.int k a) (.int k' b)).run P w = .ok v w := by
  cases op <;> simp only [binI] at hv <;>
    first
    | (split at hv
       · rename_i hk; subst hk
         first
         | (split at hv
            · cases hv
            · rename_i hb; cases hv; simp [binOp, Op.intDiv, hb])
         | (cases hv; simp [binOp, Op.intArith, Op.intBits, Op.intCmp]; done)
         | (cases hv; simp [binOp, Op.intCmp]; rfl)
         | (cases hv; simp [binOp, Op.intArith, Op.intBits, Op.intCmp, bne]; by_cases hq : a = b <;> simp [hq])
       · cases hv)
    | (split at hv
       · cases hv
       · rename_i hb; cases hv; simp [binOp, Op.shift, hb])
theorem qeC {op : BinOp} {t : TypeId} {x y : Operand} {k k' : IntKind} {a b : Int} (w : World) : (eqGuard op t x y (.int k a) (.int k' b)).run P w = .ok () w := by
  cases op <;> simp [eqGuard]
theorem qaZ {op : BinOp} {t t' : TypeId} {x y : Operand} {k k' : IntKind} {a b : Int} {v : Value} (hx : ρ x = .int k a) (hy : ρ y = .int k' b) (hv : binI op k a k' b = some v) (kk : K v h) :
    AOp P ⟨dst, .binOp op t x y t', ty, pos, aft, g⟩ ρ h K :=
  .of_run fun φ ac w r => by
    have h1 := hx ▸ r.ev x (by simp [Op.operands])
    have h2 := hy ▸ r.ev y (by simp [Op.operands])
    have e1 := h1.int_inv
    have e2 := h2.int_inv
    refine ⟨v, w, φ, h, v, ?_, kk, ?_, r.sim, Step.refl _ _ _⟩
    · simp [execOp, e1, e2, qeC, run_binI w hv]
    · refine .of_scalar ?_
      cases op <;> simp only [binI] at hv <;> (repeat' split at hv) <;> cases hv <;> rfl
theorem qdM {t : TypeId} [ti : TyD P t .bool] (a b : Bool) (w : World) (d : Nat) : (Op.equalIn (d + 1) t (.bool a) (.bool b)).run P w = .ok (a == b) w := by
  simp [Op.equalIn, ti.run]
theorem qe5 {t : TypeId} [ti : TyD P t .bool] (a b : Bool) (w : World) : (Op.equal t (.bool a) (.bool b)).run P w = .ok (a == b) w := qdM a b w 9999
theorem qeL {t t' : TypeId} {x y : Operand} {a b : Bool} [ti : TyD P t .bool] (hx : ρ x = .bool a) (hy : ρ y = .bool b) (kk : K (.bool (a == b)) h) :
    AOp P ⟨dst, .binOp .eql t x y t', ty, pos, aft, g⟩ ρ h K :=
  .of_pure kk fun φ ac w r => by
    have h1 := hx ▸ r.ev x (by simp [Op.operands])
    have h2 := hy ▸ r.ev y (by simp [Op.operands])
    have e1 := h1.bool_inv
    have e2 := h2.bool_inv
    refine ⟨_, ?_, .bool _⟩
    simp [execOp, e1, e2, eqGuard, binOp, qe5]
def strB (op : BinOp) (x y : ByteArray) : Option Bool :=
  match op with
  | .eql => some (x.toList == y.toList)
  | .neq => some (!(x.toList == y.toList))
  | .lss => some (Op.bytesLess x.toList y.toList)
  | .leq => some (Op.bytesLess x.toList y.toList || x.toList == y.toList)
  | .gtr => some (!(Op.bytesLess x.toList y.toList || x.toList == y.toList))
  | .geq => some (!(Op.bytesLess x.toList y.toList))
  | _ => none
theorem qeB {op : BinOp} {t t' : TypeId} {x y : Operand} {a b : ByteArray} {c : Bool} (hx : ρ x = .string a) (hy : ρ y = .string b) (hc : strB op a b = some c) (kk : K (.bool c) h) :
    AOp P ⟨dst, .binOp op t x y t', ty, pos, aft, g⟩ ρ h K :=
  .of_pure kk fun φ ac w r => by
    have h1 := hx ▸ r.ev x (by simp [Op.operands])
    have h2 := hy ▸ r.ev y (by simp [Op.operands])
    have e1 := h1.string_inv
    have e2 := h2.string_inv
    refine ⟨_, ?_, .bool _⟩
    cases op <;> simp only [strB, Option.some.injEq, reduceCtorEq] at hc <;> subst hc <;> simp [execOp, e1, e2, eqGuard, binOp, Op.stringOp]
theorem op_strAdd {t t' : TypeId} {x y : Operand} {a b : ByteArray} (hx : ρ x = .string a) (hy : ρ y = .string b) (hs : a.size + b.size ≤ maxLen) (kk : K (.string (a ++ b)) h) :
    AOp P ⟨dst, .binOp .add t x y t', ty, pos, aft, g⟩ ρ h K :=
  .of_pure kk fun φ ac w r => by
    have h1 := hx ▸ r.ev x (by simp [Op.operands])
    have h2 := hy ▸ r.ev y (by simp [Op.operands])
    have e1 := h1.string_inv
    have e2 := h2.string_inv
    refine ⟨_, ?_, .string _⟩
    have hm : ¬ (IntKind.i64.max < (a.size : Int) + (b.size : Int)) := by
      have : IntKind.i64.max = 9223372036854775807 := rfl
      simp only [maxLen] at hs
      omega
    have hr : (Op.stringOp .add a b).run P w = .ok (.string (a ++ b)) w := by
      simp only [Op.stringOp]
      rw [Ac (by push_cast; exact hm)]
      rfl
    simp [execOp, e1, e2, eqGuard, binOp, hr]
theorem qaF {t : TypeId} {x : Operand} {b : Bool} (hx : ρ x = .bool b) (kk : K (.bool (!b)) h) : AOp P ⟨dst, .unOp .not t x, ty, pos, aft, g⟩ ρ h K :=
  .of_pure kk fun φ ac w r => by
    have h1 := hx ▸ r.ev x (by simp [Op.operands])
    have e1 := h1.bool_inv
    exact ⟨_, by simp [execOp, e1, Op.unary], .bool _⟩
theorem qiB {s d : TypeId} {x : Operand} {k k' ks : IntKind} {a : Int} [ts : TyD P s (.int ks)] [td : TyD P d (.int k')] (hx : ρ x = .int k a) (kk : K (.int k' (k'.wrap a)) h) :
    AOp P ⟨dst, .convert s d x, ty, pos, aft, g⟩ ρ h K :=
  .of_pure kk fun φ ac w r => by
    have h1 := hx ▸ r.ev x (by simp [Op.operands])
    have e1 := h1.int_inv
    exact ⟨_, by simp [execOp, e1, convert, ts.run, td.run, Conv.intToInt], .int _ _⟩
theorem qav {x : Operand} {i : Nat} {vs : Array Value} {v : Value} (hx : ρ x = .tuple vs) (hv : vs[i]? = some v) (kk : K v h) : AOp P ⟨dst, .extract x i, ty, pos, aft, g⟩ ρ h K :=
  .of_pure kk fun φ ac w r => by
    have h1 := hx ▸ r.ev x (by simp [Op.operands])
    have hi : i < vs.size := (Az.1 hv).1
    obtain ⟨vs', e1, hs, hr⟩ := h1.tuple_inv (by omega)
    have hi' : i < vs'.size := by omega
    exact ⟨vs'[i], by simp [execOp, e1, Instr.extract, Array.getElem?_eq_getElem hi'], hr i v _ hv (Ar hi')⟩
theorem qaH {x : Operand} {i o : Nat} {s : Option Nat} (hx : ρ x = .pointer (some ⟨i, o, s⟩)) (kk : K (.pointer (some ⟨i, o, s⟩)) h) : AOp P ⟨dst, .nilCheck x, ty, pos, aft, g⟩ ρ h K :=
  .of_pure kk fun φ ac w r => by
    have h1 := hx ▸ r.ev x (by simp [Op.operands])
    obtain ⟨e0, _, e1⟩ := h1.ptr_inv
    exact ⟨_, by simp [execOp, e1], e1 ▸ h1⟩
theorem qak {op : BinOp} {t t' : TypeId} {x y : Operand} {k k' : IntKind} {a b : Int} {p : Prop} {ip : Decidable p} (hx : ρ x = .int k a) (hy : ρ y = .int k' b) (hv : binI op k a k' b = some (.bool (@decide p ip))) (hp : p) (kk : K (.bool true) h) :
    AOp P ⟨dst, .binOp op t x y t', ty, pos, aft, g⟩ ρ h K := qaZ hx hy hv (by rw [Al hp]; exact kk)
theorem qai {op : BinOp} {t t' : TypeId} {x y : Operand} {k k' : IntKind} {a b : Int} {p : Prop} {ip : Decidable p} (hx : ρ x = .int k a) (hy : ρ y = .int k' b) (hv : binI op k a k' b = some (.bool (@decide p ip))) (hp : ¬ p) (kk : K (.bool false) h) :
    AOp P ⟨dst, .binOp op t x y t', ty, pos, aft, g⟩ ρ h K := qaZ hx hy hv (by rw [Af hp]; exact kk)
theorem qau {t t' : TypeId} {x y : Operand} {a b : Int} (hx : ρ x = .int .i64 a) (hy : ρ y = .int .i64 b) (hr : -9223372036854775808 ≤ a + b ∧ a + b ≤ 9223372036854775807) (kk : K (.int .i64 (a + b)) h) :
    AOp P ⟨dst, .binOp .add t x y t', ty, pos, aft, g⟩ ρ h K :=
  qaZ hx hy (v := .int .i64 (a + b)) (by simp only [binI, if_true]; congr 2; rw [IntKind.wrap_i64]; omega) kk
theorem qbC {t t' : TypeId} {x y : Operand} {a b : Int} (hx : ρ x = .int .i64 a) (hy : ρ y = .int .i64 b) (hr : -9223372036854775808 ≤ a - b ∧ a - b ≤ 9223372036854775807) (kk : K (.int .i64 (a - b)) h) :
    AOp P ⟨dst, .binOp .sub t x y t', ty, pos, aft, g⟩ ρ h K :=
  qaZ hx hy (v := .int .i64 (a - b)) (by simp only [binI, if_true]; congr 2; rw [IntKind.wrap_i64]; omega) kk
theorem op_mul64 {t t' : TypeId} {x y : Operand} {a b : Int} (hx : ρ x = .int .i64 a) (hy : ρ y = .int .i64 b) (hr : -9223372036854775808 ≤ a * b ∧ a * b ≤ 9223372036854775807) (kk : K (.int .i64 (a * b)) h) :
    AOp P ⟨dst, .binOp .mul t x y t', ty, pos, aft, g⟩ ρ h K :=
  qaZ hx hy (v := .int .i64 (a * b)) (by simp only [binI, if_true]; congr 2; rw [IntKind.wrap_i64]; omega) kk
theorem op_conv64 {s d : TypeId} {x : Operand} {k ks : IntKind} {a : Int} [ts : TyD P s (.int ks)] [td : TyD P d (.int .i64)] (hx : ρ x = .int k a) (hr : -9223372036854775808 ≤ a ∧ a ≤ 9223372036854775807) (kk : K (.int .i64 a) h) :
    AOp P ⟨dst, .convert s d x, ty, pos, aft, g⟩ ρ h K :=
  qiB hx (by rw [show IntKind.i64.wrap a = a from by rw [IntKind.wrap_i64]; omega]; exact kk)
end Go.Eng
