/-
  The engine, part H: new slices, append, copy, strings and bytes.
-/
import Derived.Test.YtdfehmmhlplhlaaEngG
namespace Go.Eng
open Go

variable {P : Program} {ρ : Operand → Value} {h : Heap} {K : Value → Heap → Prop} {dst : Option Tmp} {ty : TypeId} {pos : String} {aft : Array Edge} {g : Option (Nat × Bool)}

theorem VRel.newSlice {φ : Ren} {h : Heap} {b l len cap cap' : Nat} {s : Option Nat} (h1 : len ≤ cap) (h2 : len ≤ cap') (h3 : cap = len → cap' = len) (h5 : cap' ≤ maxLen) (h6 : ∀ t, s = some t → cap' * t ≤ l) :
    VRel (Ren.put φ h.next ⟨b, 0, l⟩) (h.next + 1) (.slice (some ⟨h.next, 0, s⟩) len cap) (.slice (some ⟨b, 0, none⟩) len cap') :=
  .slice _ _ _ _ _ _ _ (by omega) h1 h2 h3 (.inl (by rw [Ren.put_at])) h5 (by rw [Ren.put_at]; intro t ht; simpa using h6 t ht)

theorem madeCells_one (z : Value) (n : Nat) (hz : z.cells = #[z]) : madeCells z.cells n = Array.replicate n z := by
  apply Array.ext
  · simp [madeCells]
  · intro i h1 h2
    have e1 : i % 1 = 0 := by omega
    simp [madeCells, hz, e1]

/-- A new slice of so many zero elements of one cell. -/
theorem op_make {t e : TypeId} {x y : Operand} {by_ : Nat} {z : Value} {k k' : IntKind} {l c : Int} [td : TyD P t (.slice e)] [ti : TyI P e 1 by_ z] (hx : ρ x = .int k l) (hy : ρ y = .int k' c)
    (h0 : 0 ≤ l) (h1 : l ≤ c) (h2 : (by_ : Int) * c ≤ 281474976710656) (h3 : c ≤ 9223372036854775807) (hz : oneB z = true)
    (kk : K (.slice (some ⟨h.next, 0, some 1⟩) l.toNat c.toNat) (h.alloc ⟨List.replicate l.toNat z, e, true⟩)) : AOp P ⟨dst, .makeSlice t x y, ty, pos, aft, g⟩ ρ h K :=
  .of_run fun φ ac w r => by
    have e1 := (hx ▸ r.ev x (by simp [Op.operands])).int_inv
    have e2 := (hy ▸ r.ev y (by simp [Op.operands])).int_inv
    obtain ⟨i, i1, i2, i3, i4⟩ := ti.ex
    subst i3
    have hr := run_make (P := P) w t e i z td.eq i1 i4 k k' l c h0 h1 h2 h3
    have hzc : z.cells = #[z] := by cases z <;> first | rfl | (simp [oneB] at hz)
    have hzs : scalar z = true := by
      have := ti.plain
      rw [hzc] at this
      simpa using this
    rw [i2, Nat.mul_one, madeCells_one z _ hzc] at hr
    obtain ⟨s1, s2⟩ := r.sim.alloc (List.replicate l.toNat z) (Array.replicate c.toNat z) e (0, 0) (.inl rfl) (by simp; omega) (fun j v hj => by
      have hj' := List.getElem?_replicate (n := l.toNat) (a := z) (i := j)
      rw [hj'] at hj
      split at hj
      · cases hj
        exact ⟨z, by simp [Array.getElem?_replicate]; omega, .of_scalar hzs⟩
      · cases hj)
    refine ⟨_, _, _, _, _, by simp [execOp, e1, e2, hr]; rfl, kk, ?_, s1, s2⟩
    refine .newSlice (by omega) (by omega) (by omega) (by simp only [maxLen]; omega) ?_
    intro t ht
    cases ht
    simp

/-- What an append takes: so many elements, and their cells. -/
inductive Src (h : Heap) (sz : Nat) : Value → Nat → List Value → Prop
  | nil : Src h sz (.slice none 0 0) 0 []
  | empty (a : Addr) (c : Nat) : Src h sz (.slice (some a) 0 c) 0 []
  | slice (i o : Nat) (s : Option Nat) (m c : Nat) (b : Blk) (hi : h.get i = some b) (hl : o + m * sz ≤ b.cells.length) : Src h sz (.slice (some ⟨i, o, s⟩) m c) m ((b.cells.drop o).take (m * sz))
  | str (st : ByteArray) (h1 : sz = 1) : Src h sz (.string st) st.size (st.data.toList.map fun b => .int .u8 b.toNat)

theorem Src.run {sz : Nat} {v : Value} {m : Nat} {news : List Value} (s : Src h sz v m news) {φ : Ren} {w : World} (sm : Sim P φ h w) {c : Value} (hv : VRel φ h.next v c) :
    ∃ cs, VRels φ h.next news cs ∧ cs.length = m * sz ∧ (∀ w2 : World, (Builtin.lenOf c).run P w2 = .ok m w2) ∧ ∀ w2 : World, w2.heap = w.heap → (Builtin.firstCells sz m c).run P w2 = .ok cs.toArray w2 := by
  cases s with
  | nil =>
    obtain ⟨_, _, rfl⟩ := hv.nilSlice_inv
    exact ⟨[], .nil, by simp, fun _ => rfl, fun _ _ => rfl⟩
  | empty a cc =>
    obtain ⟨i, o, s⟩ := a
    obtain ⟨cap', a', rfl, _⟩ := hv.slice_inv
    refine ⟨[], .nil, by simp, fun _ => rfl, fun w2 _ => ?_⟩
    simp only [Builtin.firstCells, Nat.zero_mul]
    rfl
  | slice i o s _ cc b hi hl =>
    obtain ⟨cap', a', rfl, hlt, q1, q2, q3, q4, q5, q6⟩ := hv.slice_inv
    by_cases hm : m = 0
    · subst hm
      refine ⟨[], by simp; exact .nil, by simp, fun _ => rfl, fun w2 _ => ?_⟩
      simp only [Builtin.firstCells, Nat.zero_mul]
      rfl
    · obtain rfl := q4.resolve_right (by omega)
      obtain ⟨cs, h1, h2, h3⟩ := sm.row hi o (m * sz) hl
      refine ⟨cs, h1, h2, fun _ => rfl, fun w2 hw => ?_⟩
      have := run_loadCells_list (P := P) w2 _ cs (fun j v hj => by
        have := h3 j v hj
        rw [World.cell?_of_block (w := w) (by rw [hw])]
        exact this)
      rw [h2] at this
      exact this
  | str st h1 =>
    obtain rfl := hv.string_inv
    subst h1
    refine ⟨st.data.toList.map fun b => .int .u8 b.toNat, VRels.scalars (List.all_eq_true.2 (by intro v hv; obtain ⟨b, _, rfl⟩ := List.mem_map.1 hv; rfl)), by simp, fun _ => rfl, fun w2 _ => ?_⟩
    simp only [Builtin.firstCells, Sem.run_pure]
    congr 1
    have : (st.extract 0 st.size) = st := by
      apply ByteArray.ext
      simp
    rw [this]
    apply Array.ext'
    simp

def appB : TypeDesc → Bool
  | .slice _ => true
  | .string => true
  | _ => false
theorem appB_cases {d : TypeDesc} (h : appB d = true) : (∃ e, d = .slice e) ∨ d = .string := by
  cases d <;> first | exact .inl ⟨_, rfl⟩ | exact .inr rfl | (simp [appB] at h)
/-- append in place, or into a new row. -/
theorem run_append {t t2 e : TypeId} {d2 : TypeDesc} {ty : TypeId} {sz by_ : Nat} {z : Value} [td : TyD P t (.slice e)] [t2d : TyD P t2 d2] [ti : TyI P e sz by_ z] (hd2 : appB d2 = true) (w : World)
    (base : Option Addr) (n cap m : Nat) (x : Value) (olds news : List Value) (hln : ∀ w2 : World, (Builtin.lenOf x).run P w2 = .ok m w2) (hnews : ∀ w2 : World, w2.heap = w.heap → (Builtin.firstCells sz m x).run P w2 = .ok news.toArray w2)
    (_ : news.length = m * sz) (holds : ∀ w2 : World, w2.heap = w.heap → (Builtin.firstCells sz n (.slice base n cap)).run P w2 = .ok olds.toArray w2)
    (h1 : n + m ≤ maxLen) (h2 : (n + m) * by_ ≤ 140737488355328) :
    (Builtin.append_ #[t, t2] ty #[.slice base n cap, x]).run P w =
      if n + m ≤ cap then (match base with | some a => (storeCells (a.add (n * sz)) news).run P w | none => .ok () w).andThen fun _ w' => .ok (.slice base (n + m) cap) w'
      else .ok (.slice (some ⟨w.heap.size, 0, none⟩) (n + m) (grownCap w (n + m) cap e)) (w.drew.alloc (.cells ((olds ++ news).toArray ++ Builtin.zeroCells z.cells (grownCap w (n + m) cap e - (n + m))) e)) := by
  obtain ⟨i, i1, i2, i3, i4⟩ := ti.ex
  have ht : ∀ w2 : World, (underlying t).run P w2 = .ok (.slice e) w2 := fun w2 => td.run w2
  have ht2 : ∀ w2 : World, (underlying t2).run P w2 = .ok d2 w2 := fun w2 => t2d.run w2
  have hsz : ∀ w2 : World, (sizeOf e).run P w2 = .ok sz w2 := fun w2 => ti.size w2
  have hn1 := hnews w rfl
  have hnd := hnews w.drew rfl
  have hod := holds w.drew rfl
  by_cases hc : n + m ≤ cap
  · rw [if_pos hc]
    rcases appB_cases hd2 with ⟨e2, rfl⟩ | rfl <;> cases base <;> simp [Builtin.append_, ht, ht2, hsz, hln, hc, hn1]
  · rw [if_neg hc]
    have hfit : Builtin.nextslicecap (n + m) cap * i.bytes ≤ 281474976710656 := by rw [i3]; exact growslice_fits (by omega) h2
    have h63 : ¬ (9223372036854775807 < ((n : Int) + (m : Int))) := by simp only [maxLen] at h1; omega
    have h48 : ¬ (281474976710656 < Builtin.nextslicecap (n + m) cap * i.bytes) := by omega
    rcases appB_cases hd2 with ⟨e2, rfl⟩ | rfl <;> simp [Builtin.append_, ht, ht2, hsz, hln, hc, h63, h48, typeInfo, i1, zeroValue, i4, Question.forced, hod, hnd, newRow, grownCap] <;> (congr 2; apply Array.ext'; simp)

theorem grown_row {φ : Ren} {w : World} (sm : Sim P φ h w) {e : TypeId} {sz by_ : Nat} {z : Value} [ti : TyI P e sz by_ z] {xs cs : List Value} (hr : VRels φ h.next xs cs) {n cap : Nat} (hl : cs.length = n * sz) (h1 : n ≤ maxLen) (w1 : World) (hw : w1 = w.drew.alloc (.cells (cs.toArray ++ Builtin.zeroCells z.cells (grownCap w n cap e - n)) e)) :
    ∃ φ', VRel φ' (h.next + 1) (.slice (some ⟨h.next, 0, some sz⟩) n (n + 1)) (.slice (some ⟨w.heap.size, 0, none⟩) n (grownCap w n cap e)) ∧ Sim P φ' (h.alloc ⟨xs, e, true⟩) w1 ∧ Step φ h w φ' (h.alloc ⟨xs, e, true⟩) w1 := by
  subst hw
  have hge := grownCap_ge w n cap e
  have hle := grownCap_le_maxLen w n cap e h1
  have hsz : (cs.toArray ++ Builtin.zeroCells z.cells (grownCap w n cap e - n)).size = grownCap w n cap e * sz := by
    simp only [Array.size_append, List.size_toArray, size_zeroCells, ti.sz, hl, ← Nat.add_mul]
    congr 1
    omega
  obtain ⟨s1, s2⟩ := sm.drew.alloc xs (cs.toArray ++ Builtin.zeroCells z.cells (grownCap w n cap e - n)) e (0, 0) (.inl rfl) (by simp [hr.length]) (fun k v hk => by
    obtain ⟨c, hc, hv⟩ := hr.get hk
    refine ⟨c, ?_, hv⟩
    rw [Array.getElem?_append_left (by simpa using (List.getElem?_eq_some_iff.1 hc).1)]
    simpa using hc)
  refine ⟨_, ?_, s1, Step.drew.trans s2⟩
  refine .newSlice (by omega) hge (by omega) hle ?_
  intro t ht
  cases ht
  rw [hsz]
  exact Nat.le_refl _

variable {t t2 e : TypeId} {d2 : TypeDesc} {x y : Operand} {sz by_ : Nat} {z : Value}

theorem exec_append (ac : Act) (aT : Array TypeId) (w : World) {c : Value} {w' : World} (hr : (Builtin.append_ aT ty #[ac.eval x, ac.eval y]).run P w = .ok c w') :
    (execOp ac.eval ⟨dst, .call ⟨.builtin .append, #[x, y], aT⟩, ty, pos, aft, g⟩).run P w = .ok (.value c) w' := by
  simp [execOp, resolve, invoke, builtin, hr]

/-- Behind nothing. -/
theorem op_appendNil {v : Value} {m : Nat} {news : List Value} [td : TyD P t (.slice e)] [t2d : TyD P t2 d2] [ti : TyI P e sz by_ z] (hd2 : appB d2 = true) (hx : ρ x = .slice none 0 0) (hy : ρ y = v) (hs : Src h sz v m news)
    (h1 : m ≤ maxLen) (h2 : m * by_ ≤ 140737488355328) (k0 : m = 0 → K (.slice none 0 0) h) (k1 : 0 < m → K (.slice (some ⟨h.next, 0, some sz⟩) m (m + 1)) (h.alloc ⟨news, e, true⟩)) :
    AOp P ⟨dst, .call ⟨.builtin .append, #[x, y], #[t, t2]⟩, ty, pos, aft, g⟩ ρ h K :=
  .of_run fun φ ac w r => by
    obtain ⟨_, _, e1⟩ := (hx ▸ r.ev x (by simp [Op.operands, Call.operands])).nilSlice_inv
    obtain ⟨cs, q1, q2, q3, q4⟩ := hs.run r.sim (hy ▸ r.ev y (by simp [Op.operands, Call.operands]))
    have hr := run_append (P := P) (ty := ty) (t := t) (t2 := t2) (z := z) hd2 w none 0 0 m (ac.eval y) [] cs q3 q4 q2 (fun _ _ => rfl) (by omega) (by simpa using h2)
    rw [← e1] at hr
    by_cases hm : m = 0
    · subst hm
      simp only [Nat.add_zero, Nat.le_refl, if_true, Result.andThen_ok] at hr
      exact ⟨_, w, φ, h, _, exec_append ac _ w hr, k0 rfl, .nilSlice, r.sim, Step.refl _ _ _⟩
    · rw [if_neg (by omega)] at hr
      simp only [Nat.zero_add, List.nil_append] at hr
      obtain ⟨φ', v1, v2, v3⟩ := grown_row (P := P) r.sim (e := e) (cap := 0) q1 q2 h1 _ rfl
      refine ⟨_, _, φ', _, _, exec_append ac _ w hr, k1 (by omega), v1, ?_, ?_⟩
      · simpa using v2
      · simpa using v3
/-- Behind a row of the engine's own, at its end. -/
theorem op_append {i n cap : Nat} {b : Blk} {v : Value} {m : Nat} {news : List Value} [td : TyD P t (.slice e)] [t2d : TyD P t2 d2] [ti : TyI P e sz by_ z] (hd2 : appB d2 = true)
    (hx : ρ x = .slice (some ⟨i, 0, some sz⟩) n cap) (hy : ρ y = v) (hi : h.get i = some b) (ho : b.own = true) (he : b.elem = e) (hn : b.cells.length = n * sz) (hs : Src h sz v m news) (hone : news.all oneB = true)
    (h1 : n + m ≤ maxLen) (h2 : (n + m) * by_ ≤ 140737488355328) (kk : K (.slice (some ⟨h.next, 0, some sz⟩) (n + m) (n + m + 1)) ((h.kill i).alloc ⟨b.cells ++ news, e, true⟩)) :
    AOp P ⟨dst, .call ⟨.builtin .append, #[x, y], #[t, t2]⟩, ty, pos, aft, g⟩ ρ h K :=
  .of_run fun φ ac w r => by
    obtain ⟨cap', a', e1, hlt, p1, p2, p3, p4, p5, p6⟩ := (hx ▸ r.ev x (by simp [Op.operands, Call.operands])).slice_inv
    obtain ⟨cs, q1, q2, q3, q4⟩ := hs.run r.sim (hy ▸ r.ev y (by simp [Op.operands, Call.operands]))
    obtain ⟨arr, fr, a1, ⟨a2, a2'⟩, a3, a4, a5⟩ := r.sim.owned hi ho
    have hlim := p6 sz rfl
    have hsrc : Src h sz (.slice (some ⟨i, 0, some sz⟩) n cap) n b.cells := by
      have := Src.slice (h := h) (sz := sz) i 0 (some sz) n cap b hi (by omega)
      rwa [List.drop_zero, List.take_of_length_le (by omega)] at this
    obtain ⟨os, o1, o2, _, o4⟩ := hsrc.run r.sim (hx ▸ r.ev x (by simp [Op.operands, Call.operands]))
    rw [e1] at o4
    have hr := run_append (P := P) (ty := ty) (t := t) (t2 := t2) (z := z) hd2 w (some a') n cap' m (ac.eval y) os cs q3 q4 q2 o4 (by omega) h2
    rw [← e1] at hr
    by_cases hm : n + m ≤ cap'
    · rw [if_pos hm] at hr
      have hmm : (n + m) * sz ≤ cap' * sz := Nat.mul_le_mul_right _ hm
      rw [Nat.add_mul] at hmm
      have hone' : ∀ c ∈ cs, c.oneCell' = true := by
        intro c hc
        obtain ⟨j, hj⟩ := List.getElem?_of_mem hc
        have hjl : j < news.length := by rw [q1.length]; exact (List.getElem?_eq_some_iff.1 hj).1
        have hx := List.getElem?_eq_getElem hjl
        obtain ⟨c', hc', hv⟩ := q1.get hx
        rw [hj] at hc'; cases hc'
        exact hv.one (List.all_eq_true.1 hone _ (List.getElem_mem hjl))
      by_cases hcs : cs = []
      · subst hcs
        have hm0 : news = [] := by have := q1.length; simpa using this
        subst hm0
        have hst : (match some a' with | some a => (storeCells (a.add (n * sz)) []).run P w | none => .ok () w) = (.ok () w : Result Unit) := rfl
        simp only [storeCells, Sem.run_pure, Result.andThen_ok] at hr
        obtain ⟨s1, s2⟩ := r.sim.renumber hi ho
        have hb : (⟨b.cells ++ [], e, true⟩ : Blk) = b := by
          cases b
          simp_all
        refine ⟨_, w, Ren.put φ h.next (φ i), _, _, exec_append ac _ w hr, kk, ?_, by rw [hb]; exact s1, by rw [hb]; exact s2⟩
        · refine .slice _ _ _ _ _ _ _ (by simp [Heap.alloc, Heap.kill]) (by omega) hm (by omega) ?_ p5 (by rw [Ren.put_at]; exact p6)
          rw [Ren.put_at]; exact p4
      · have hapos : cap' ≠ 0 := by
          intro hc0
          have : m = 0 := by omega
          rw [this] at q2
          exact hcs (List.eq_nil_of_length_eq_zero (by simpa using q2))
        obtain rfl := p4.resolve_right hapos
        simp only [a2, Nat.zero_add, Addr.add_lit] at hr
        obtain ⟨w', hst, c1, c2, c3, c4⟩ := run_storeRow P (φ i).b b.elem fr cs (n * sz) 0 arr w a1 a3 (by omega) hone'
        rw [hst] at hr
        simp only [Result.andThen_ok] at hr
        simp only [Nat.add_zero] at c4
        have hsl : (Eng.splice arr.toList (n * sz) cs).length = arr.size := by rw [length_splice (by simp; omega)]; simp
        have hnl := q1.length
        obtain ⟨s1, s2⟩ := r.sim.write hi ho a1 (w' := w') (arr' := (Eng.splice arr.toList (n * sz) cs).toArray) (by simpa using hsl) (by simpa [hsl] using a3) c4 c1 c2 c3 (b.cells ++ news) (by simp [hsl]; omega) (by
          intro k v hk
          simp only [List.getElem?_toArray]
          rw [splice_get _ _ _ (by simp; omega)]
          by_cases hk1 : k < b.cells.length
          · rw [List.getElem?_append_left hk1] at hk
            rw [if_neg (by omega)]
            simpa using a5 k v hk
          · rw [List.getElem?_append_right (by omega)] at hk
            have hlt := (List.getElem?_eq_some_iff.1 hk).1
            rw [if_pos (by omega)]
            have := q1.get hk
            rwa [hn] at this)
        obtain ⟨s3, s4⟩ := s1.renumber (i := i) (b := ⟨b.cells ++ news, b.elem, true⟩) (by simp [Heap.set]) rfl
        have hh : ((h.set i ⟨b.cells ++ news, b.elem, true⟩).kill i).alloc ⟨b.cells ++ news, b.elem, true⟩ = (h.kill i).alloc ⟨b.cells ++ news, e, true⟩ := by
          simp only [Heap.alloc, Heap.kill, Heap.set, he, Heap.mk.injEq, and_true]
          funext j
          by_cases h1 : j = h.next
          · simp [h1]
          · by_cases h2 : j = i <;> simp [h1, h2]
        rw [hh] at s3 s4
        refine ⟨_, w', Ren.put φ h.next (φ i), _, _, exec_append ac _ w hr, kk, ?_, s3, s2.trans s4⟩
        refine .slice _ _ _ _ _ _ _ (by simp [Heap.alloc, Heap.kill]) (by omega) hm (by omega) ?_ p5 ?_
        · left
          show _ = (⟨(Ren.put φ h.next (φ i) h.next).b, (Ren.put φ h.next (φ i) h.next).o + 0, none⟩ : Addr)
          rw [Ren.put_at, a2]
        · show ∀ t, _ → _ ≤ (Ren.put φ h.next (φ i) h.next).l
          rw [Ren.put_at]; exact p6
    · rw [if_neg hm] at hr
      have hall : VRels φ h.next (b.cells ++ news) (os ++ cs) := o1.append q1
      obtain ⟨φ', v1, v2, v3⟩ := grown_row (P := P) r.sim (e := e) (cap := cap') hall (n := n + m) (by rw [List.length_append, o2, q2, Nat.add_mul]) h1 _ rfl
      have hx' : ∀ j c, ((h.kill i).alloc ⟨b.cells ++ news, e, true⟩).get j = some c → (h.alloc ⟨b.cells ++ news, e, true⟩).get j = some c := by
        intro j c hj
        have : (if j = h.next then some ⟨b.cells ++ news, e, true⟩ else if j = i then none else h.get j) = some c := hj
        show (if j = h.next then some ⟨b.cells ++ news, e, true⟩ else h.get j) = some c
        split at this
        · rename_i hjn; rw [if_pos hjn]; exact this
        · rename_i hjn
          rw [if_neg hjn]
          split at this
          · cases this
          · exact this
      have v2' : Sim P φ' (h.alloc ⟨b.cells ++ news, e, true⟩) (w.drew.alloc (.cells ((os ++ cs).toArray ++ Builtin.zeroCells z.cells (grownCap w (n + m) cap' e - (n + m))) e)) := by simpa using v2
      have v3' : Step φ h w φ' (h.alloc ⟨b.cells ++ news, e, true⟩) (w.drew.alloc (.cells ((os ++ cs).toArray ++ Builtin.zeroCells z.cells (grownCap w (n + m) cap' e - (n + m))) e)) := by simpa using v3
      refine ⟨_, _, φ', _, _, exec_append ac _ w ?_, kk, v1, v2'.forget rfl hx', v3'.trans (Step.weak rfl hx')⟩
      simpa using hr
end Go.Eng
