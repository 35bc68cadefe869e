/-
  Texts of one claim, merged: 3 parts.
-/
import Derived.Test.YtnioldkmckmajaaMnb
import Derived.Laws.IdiomStrings
set_option maxHeartbeats 16000000
/-
  The engine, part H: new slices, append, copy, strings and bytes.
-/
namespace Go.Eng
open Go
variable {P : Program} {ρ : Operand → Value} {h : Heap} {K : Value → Heap → Prop} {dst : Option Tmp} {ty : TypeId} {pos : String} {aft : Array Edge} {g : Option (Nat × Bool)}
theorem VRel.newSlice {φ : Ren} {h : Heap} {b l len cap cap' : Nat} {s : Option Nat} (h1 : len ≤ cap) (h2 : len ≤ cap') (h3 : (cap = len → cap' = len) ∧ (18446744073709551616 ≤ cap → cap' + 18446744073709551616 = cap)) (h5 : cap' ≤ maxLen) (h6 : ∀ t, s = some t → cap' * t ≤ l) :
    VRel (Ren.put φ h.next ⟨b, 0, l⟩) (h.next + 1) (.slice (some ⟨h.next, 0, s⟩) len cap) (.slice (some ⟨b, 0, none⟩) len cap') :=
  .slice _ _ _ _ _ _ _ (by omega) h1 h2 h3 (.inl (by rw [Ren.put_at])) h5 (by rw [Ren.put_at]; intro t ht; simpa using h6 t ht)
theorem madeCells_one (z : Value) (n : Nat) (hz : z.cells = #[z]) : madeCells z.cells n = Array.replicate n z := by
  apply Array.ext
  · simp [madeCells]
  · intro i h1 h2
    have e1 : i % 1 = 0 := by omega
    simp [madeCells, hz, e1]
theorem op_make {t e : TypeId} {x y : Operand} {by_ : Nat} {z : Value} {k k' : IntKind} {l c : Int} [td : TyD P t (.slice e)] [ti : TyI P e 1 by_ z] (hx : ρ x = .int k l) (hy : ρ y = .int k' c)
    (h0 : 0 ≤ l) (h1 : l ≤ c) (h2 : (by_ : Int) * c ≤ 281474976710656) (h3 : c ≤ 9223372036854775807) (hz : oneB z = true)
    (kk : K (.slice (some ⟨h.next, 0, some 1⟩) l.toNat c.toNat) (h.alloc ⟨List.replicate l.toNat z, e, true⟩)) : AOp P ⟨dst, .makeSlice t x y, ty, pos, aft, g⟩ ρ h K :=
  .of_run fun φ ac w r => by
    have e1 := (hx ▸ r.ev x (by simp [Op.operands])).int_inv
    have e2 := (hy ▸ r.ev y (by simp [Op.operands])).int_inv
    obtain ⟨i, i1, i2, i3, i4⟩ := ti.ex
    subst i3
    have hr := run_make (P := P) w t e i z td.eq i1 i4 k k' l c h0 h1 h2 h3
    have hzc : z.cells = #[z] := by cases z <;> first | rfl | (simp [oneB] at hz)
    have hzs : scalar z = true := by
      have := ti.plain
      rw [hzc] at this
      simpa using this
    rw [i2, Nat.mul_one, madeCells_one z _ hzc] at hr
    obtain ⟨s1, s2⟩ := r.sim.alloc (List.replicate l.toNat z) (Array.replicate c.toNat z) e (0, 0) (.inl rfl) (by simp; omega) (fun j v hj => by
      have hj' := List.getElem?_replicate (n := l.toNat) (a := z) (i := j)
      rw [hj'] at hj
      split at hj
      · cases hj
        exact ⟨z, by simp [Array.getElem?_replicate]; omega, .of_scalar hzs⟩
      · cases hj)
    refine ⟨_, _, _, _, _, by simp [execOp, e1, e2, hr]; rfl, kk, ?_, s1, s2⟩
    refine .newSlice (by omega) (by omega) (by omega) (by simp only [maxLen]; omega) ?_
    intro t ht
    cases ht
    simp
inductive Src (h : Heap) (sz : Nat) : Value → Nat → List Value → Prop
  | nil : Src h sz (.slice none 0 0) 0 []
  | empty (a : Addr) (c : Nat) : Src h sz (.slice (some a) 0 c) 0 []
  | slice (i o : Nat) (s : Option Nat) (m c : Nat) (b : Blk) (hi : h.get i = some b) (hl : o + m * sz ≤ b.cells.length) : Src h sz (.slice (some ⟨i, o, s⟩) m c) m ((b.cells.drop o).take (m * sz))
  | str (st : ByteArray) (h1 : sz = 1) : Src h sz (.string st) st.size (st.data.toList.map fun b => .int .u8 b.toNat)
theorem Src.run {sz : Nat} {v : Value} {m : Nat} {news : List Value} (s : Src h sz v m news) {φ : Ren} {w : World} (sm : Sim P φ h w) {c : Value} (hv : VRel φ h.next v c) :
    ∃ cs, VRels φ h.next news cs ∧ cs.length = m * sz ∧ (∀ w2 : World, (Builtin.lenOf c).run P w2 = .ok m w2) ∧ ∀ w2 : World, w2.heap = w.heap → (Builtin.firstCells sz m c).run P w2 = .ok cs.toArray w2 := by
  cases s with
  | nil =>
    obtain ⟨_, _, rfl⟩ := hv.nilSlice_inv
    exact ⟨[], .nil, by simp, fun _ => rfl, fun _ _ => rfl⟩
  | empty a cc =>
    obtain ⟨i, o, s⟩ := a
    obtain ⟨cap', a', rfl, _⟩ := hv.slice_inv
    refine ⟨[], .nil, by simp, fun _ => rfl, fun w2 _ => ?_⟩
    simp only [Builtin.firstCells, Nat.zero_mul]
    rfl
  | slice i o s _ cc b hi hl =>
    obtain ⟨cap', a', rfl, hlt, q1, q2, q3, q4, q5, q6⟩ := hv.slice_inv
    by_cases hm : m = 0
    · subst hm
      refine ⟨[], by simp; exact .nil, by simp, fun _ => rfl, fun w2 _ => ?_⟩
      simp only [Builtin.firstCells, Nat.zero_mul]
      rfl
    · obtain rfl := q4.resolve_right (by omega)
      obtain ⟨cs, h1, h2, h3⟩ := sm.row hi o (m * sz) hl
      refine ⟨cs, h1, h2, fun _ => rfl, fun w2 hw => ?_⟩
      have := run_loadCells_list (P := P) w2 _ cs (fun j v hj => by
        have := h3 j v hj
        rw [World.cell?_of_block (w := w) (by rw [hw])]
        exact this)
      rw [h2] at this
      exact this
  | str st h1 =>
    obtain rfl := hv.string_inv
    subst h1
    refine ⟨st.data.toList.map fun b => .int .u8 b.toNat, VRels.scalars (List.all_eq_true.2 (by intro v hv; obtain ⟨b, _, rfl⟩ := List.mem_map.1 hv; rfl)), by simp, fun _ => rfl, fun w2 _ => ?_⟩
    simp only [Builtin.firstCells, Sem.run_pure]
    congr 1
    have : (st.extract 0 st.size) = st := by
      apply ByteArray.ext
      simp
    rw [this]
    apply Array.ext'
    simp
def appB : TypeDesc → Bool
  | .slice _ => true
  | .string => true
  | _ => false
theorem appB_cases {d : TypeDesc} (h : appB d = true) : (∃ e, d = .slice e) ∨ d = .string := by
  cases d <;> first | exact .inl ⟨_, rfl⟩ | exact .inr rfl | (simp [appB] at h)
theorem run_append {t t2 e : TypeId} {d2 : TypeDesc} {ty : TypeId} {sz by_ : Nat} {z : Value} [td : TyD P t (.slice e)] [t2d : TyD P t2 d2] [ti : TyI P e sz by_ z] (hd2 : appB d2 = true) (w : World)
    (base : Option Addr) (n cap m : Nat) (x : Value) (olds news : List Value) (hln : ∀ w2 : World, (Builtin.lenOf x).run P w2 = .ok m w2) (hnews : ∀ w2 : World, w2.heap = w.heap → (Builtin.firstCells sz m x).run P w2 = .ok news.toArray w2)
    (_ : news.length = m * sz) (holds : ∀ w2 : World, w2.heap = w.heap → (Builtin.firstCells sz n (.slice base n cap)).run P w2 = .ok olds.toArray w2)
    (h1 : n + m ≤ maxLen) (h2 : (n + m) * by_ ≤ 140737488355328) :
    (Builtin.append_ #[t, t2] ty #[.slice base n cap, x]).run P w =
      if n + m ≤ cap then (match base with | some a => (storeCells (a.add (n * sz)) news).run P w | none => .ok () w).andThen fun _ w' => .ok (.slice base (n + m) cap) w'
      else .ok (.slice (some ⟨w.heap.size, 0, none⟩) (n + m) (grownCap w (n + m) cap e)) (w.drew.alloc (.cells ((olds ++ news).toArray ++ Builtin.zeroCells z.cells (grownCap w (n + m) cap e - (n + m))) e)) := by
  obtain ⟨i, i1, i2, i3, i4⟩ := ti.ex
  have ht : ∀ w2 : World, (underlying t).run P w2 = .ok (.slice e) w2 := fun w2 => td.run w2
  have ht2 : ∀ w2 : World, (underlying t2).run P w2 = .ok d2 w2 := fun w2 => t2d.run w2
  have hsz : ∀ w2 : World, (sizeOf e).run P w2 = .ok sz w2 := fun w2 => ti.size w2
  have hn1 := hnews w rfl
  have hnd := hnews w.drew rfl
  have hod := holds w.drew rfl
  by_cases hc : n + m ≤ cap
  · rw [if_pos hc]
    rcases appB_cases hd2 with ⟨e2, rfl⟩ | rfl <;> cases base <;> simp [Builtin.append_, ht, ht2, hsz, hln, hc, hn1]
  · rw [if_neg hc]
    have hfit : Builtin.nextslicecap (n + m) cap * i.bytes ≤ 281474976710656 := by rw [i3]; exact growslice_fits (by omega) h2
    have h63 : ¬ (9223372036854775807 < ((n : Int) + (m : Int))) := by simp only [maxLen] at h1; omega
    have h48 : ¬ (281474976710656 < Builtin.nextslicecap (n + m) cap * i.bytes) := by omega
    rcases appB_cases hd2 with ⟨e2, rfl⟩ | rfl <;> simp [Builtin.append_, ht, ht2, hsz, hln, hc, h63, h48, typeInfo, i1, zeroValue, i4, Question.forced, hod, hnd, newRow, grownCap] <;> (congr 2; apply Array.ext'; simp)
theorem grown_row {φ : Ren} {w : World} (sm : Sim P φ h w) {e : TypeId} {sz by_ : Nat} {z : Value} [ti : TyI P e sz by_ z] {xs cs : List Value} (hr : VRels φ h.next xs cs) {n cap : Nat} (hl : cs.length = n * sz) (h1 : n ≤ maxLen) (w1 : World) (hw : w1 = w.drew.alloc (.cells (cs.toArray ++ Builtin.zeroCells z.cells (grownCap w n cap e - n)) e)) :
    ∃ φ', VRel φ' (h.next + 1) (.slice (some ⟨h.next, 0, some sz⟩) n (n + 1)) (.slice (some ⟨w.heap.size, 0, none⟩) n (grownCap w n cap e)) ∧ Sim P φ' (h.alloc ⟨xs, e, true⟩) w1 ∧ Step φ h w φ' (h.alloc ⟨xs, e, true⟩) w1 := by
  subst hw
  have hge := grownCap_ge w n cap e
  have hle := grownCap_le_maxLen w n cap e h1
  have hsz : (cs.toArray ++ Builtin.zeroCells z.cells (grownCap w n cap e - n)).size = grownCap w n cap e * sz := by
    simp only [Array.size_append, List.size_toArray, size_zeroCells, ti.sz, hl, ← Nat.add_mul]
    congr 1
    omega
  obtain ⟨s1, s2⟩ := sm.drew.alloc xs (cs.toArray ++ Builtin.zeroCells z.cells (grownCap w n cap e - n)) e (0, 0) (.inl rfl) (by simp [hr.length]) (fun k v hk => by
    obtain ⟨c, hc, hv⟩ := hr.get hk
    refine ⟨c, ?_, hv⟩
    rw [Array.getElem?_append_left (by simpa using (List.getElem?_eq_some_iff.1 hc).1)]
    simpa using hc)
  refine ⟨_, ?_, s1, Step.drew.trans s2⟩
  refine .newSlice (by omega) hge (by simp only [maxLen] at *; omega) hle ?_
  intro t ht
  cases ht
  rw [hsz]
  exact Nat.le_refl _
variable {t t2 e : TypeId} {d2 : TypeDesc} {x y : Operand} {sz by_ : Nat} {z : Value}
theorem exec_append (ac : Act) (aT : Array TypeId) (w : World) {c : Value} {w' : World} (hr : (Builtin.append_ aT ty #[ac.eval x, ac.eval y]).run P w = .ok c w') :
    (execOp ac.eval ⟨dst, .call ⟨.builtin .append, #[x, y], aT⟩, ty, pos, aft, g⟩).run P w = .ok (.value c) w' := by
  simp [execOp, resolve, invoke, builtin, hr]
theorem op_appendNil {v : Value} {m : Nat} {news : List Value} [td : TyD P t (.slice e)] [t2d : TyD P t2 d2] [ti : TyI P e sz by_ z] (hd2 : appB d2 = true) (hx : ρ x = .slice none 0 0) (hy : ρ y = v) (hs : Src h sz v m news)
    (h1 : m ≤ maxLen) (h2 : m * by_ ≤ 140737488355328) (k0 : m = 0 → K (.slice none 0 0) h) (k1 : 0 < m → K (.slice (some ⟨h.next, 0, some sz⟩) m (m + 1)) (h.alloc ⟨news, e, true⟩)) :
    AOp P ⟨dst, .call ⟨.builtin .append, #[x, y], #[t, t2]⟩, ty, pos, aft, g⟩ ρ h K :=
  .of_run fun φ ac w r => by
    obtain ⟨_, _, e1⟩ := (hx ▸ r.ev x (by simp [Op.operands, Call.operands])).nilSlice_inv
    obtain ⟨cs, q1, q2, q3, q4⟩ := hs.run r.sim (hy ▸ r.ev y (by simp [Op.operands, Call.operands]))
    have hr := run_append (P := P) (ty := ty) (t := t) (t2 := t2) (z := z) hd2 w none 0 0 m (ac.eval y) [] cs q3 q4 q2 (fun _ _ => rfl) (by omega) (by simpa using h2)
    rw [← e1] at hr
    by_cases hm : m = 0
    · subst hm
      simp only [Nat.add_zero, Nat.le_refl, if_true, Result.andThen_ok] at hr
      exact ⟨_, w, φ, h, _, exec_append ac _ w hr, k0 rfl, .nilSlice, r.sim, Step.refl _ _ _⟩
    · rw [if_neg (by omega)] at hr
      simp only [Nat.zero_add, List.nil_append] at hr
      obtain ⟨φ', v1, v2, v3⟩ := grown_row (P := P) r.sim (e := e) (cap := 0) q1 q2 h1 _ rfl
      refine ⟨_, _, φ', _, _, exec_append ac _ w hr, k1 (by omega), v1, ?_, ?_⟩
      · simpa using v2
      · simpa using v3
theorem op_append {i n cap : Nat} {b : Blk} {v : Value} {m : Nat} {news : List Value} [td : TyD P t (.slice e)] [t2d : TyD P t2 d2] [ti : TyI P e sz by_ z] (hd2 : appB d2 = true)
    (hx : ρ x = .slice (some ⟨i, 0, some sz⟩) n cap) (hy : ρ y = v) (hi : h.get i = some b) (ho : b.own = true) (he : b.elem = e) (hn : b.cells.length = n * sz) (hs : Src h sz v m news) (hone : news.all oneB = true)
    (h1 : n + m ≤ maxLen) (h2 : (n + m) * by_ ≤ 140737488355328) (kk : K (.slice (some ⟨h.next, 0, some sz⟩) (n + m) (n + m + 1)) ((h.kill i).alloc ⟨b.cells ++ news, e, true⟩)) :
    AOp P ⟨dst, .call ⟨.builtin .append, #[x, y], #[t, t2]⟩, ty, pos, aft, g⟩ ρ h K :=
  .of_run fun φ ac w r => by
    obtain ⟨cap', a', e1, hlt, p1, p2, p3, p4, p5, p6⟩ := (hx ▸ r.ev x (by simp [Op.operands, Call.operands])).slice_inv
    obtain ⟨cs, q1, q2, q3, q4⟩ := hs.run r.sim (hy ▸ r.ev y (by simp [Op.operands, Call.operands]))
    obtain ⟨arr, fr, a1, ⟨a2, a2'⟩, a3, a4, a5⟩ := r.sim.owned hi ho
    have hlim := p6 sz rfl
    have hsrc : Src h sz (.slice (some ⟨i, 0, some sz⟩) n cap) n b.cells := by
      have := Src.slice (h := h) (sz := sz) i 0 (some sz) n cap b hi (by omega)
      rwa [List.drop_zero, List.take_of_length_le (by omega)] at this
    obtain ⟨os, o1, o2, _, o4⟩ := hsrc.run r.sim (hx ▸ r.ev x (by simp [Op.operands, Call.operands]))
    rw [e1] at o4
    have hr := run_append (P := P) (ty := ty) (t := t) (t2 := t2) (z := z) hd2 w (some a') n cap' m (ac.eval y) os cs q3 q4 q2 o4 (by omega) h2
    rw [← e1] at hr
    by_cases hm : n + m ≤ cap'
    · rw [if_pos hm] at hr
      have hmm : (n + m) * sz ≤ cap' * sz := Nat.mul_le_mul_right _ hm
      rw [Nat.add_mul] at hmm
      have hone' : ∀ c ∈ cs, c.oneCell' = true := by
        intro c hc
        obtain ⟨j, hj⟩ := List.getElem?_of_mem hc
        have hjl : j < news.length := by rw [q1.length]; exact (List.getElem?_eq_some_iff.1 hj).1
        have hx := List.getElem?_eq_getElem hjl
        obtain ⟨c', hc', hv⟩ := q1.get hx
        rw [hj] at hc'; cases hc'
        exact hv.one (List.all_eq_true.1 hone _ (List.getElem_mem hjl))
      by_cases hcs : cs = []
      · subst hcs
        have hm0 : news = [] := by have := q1.length; simpa using this
        subst hm0
        have hst : (match some a' with | some a => (storeCells (a.add (n * sz)) []).run P w | none => .ok () w) = (.ok () w : Result Unit) := rfl
        simp only [storeCells, Sem.run_pure, Result.andThen_ok] at hr
        obtain ⟨s1, s2⟩ := r.sim.renumber hi ho
        have hb : (⟨b.cells ++ [], e, true⟩ : Blk) = b := by
          cases b
          simp_all
        refine ⟨_, w, Ren.put φ h.next (φ i), _, _, exec_append ac _ w hr, kk, ?_, by rw [hb]; exact s1, by rw [hb]; exact s2⟩
        · refine .slice _ _ _ _ _ _ _ (by simp [Heap.alloc, Heap.kill]) (by omega) hm (by simp only [maxLen] at *; omega) ?_ p5 (by rw [Ren.put_at]; exact p6)
          rw [Ren.put_at]; exact p4
      · have hapos : cap' ≠ 0 := by
          intro hc0
          have : m = 0 := by omega
          rw [this] at q2
          exact hcs (List.eq_nil_of_length_eq_zero (by simpa using q2))
        obtain rfl := p4.resolve_right hapos
        simp only [a2, Nat.zero_add, Addr.add_lit] at hr
        obtain ⟨w', hst, c1, c2, c3, c4⟩ := run_storeRow P (φ i).b b.elem fr cs (n * sz) 0 arr w a1 (a3.imp id And.left) (by omega) hone'
        rw [hst] at hr
        simp only [Result.andThen_ok] at hr
        simp only [Nat.add_zero] at c4
        have hsl : (Eng.splice arr.toList (n * sz) cs).length = arr.size := by rw [length_splice (by simp; omega)]; simp
        have hnl := q1.length
        obtain ⟨s1, s2⟩ := r.sim.write hi ho a1 (w' := w') (arr' := (Eng.splice arr.toList (n * sz) cs).toArray) (by simpa using hsl) (by simpa [hsl] using a3) c4 c1 c2 c3 (b.cells ++ news) (by simp [hsl]; omega) (by
          intro k v hk
          simp only [List.getElem?_toArray]
          rw [splice_get _ _ _ (by simp; omega)]
          by_cases hk1 : k < b.cells.length
          · rw [List.getElem?_append_left hk1] at hk
            rw [if_neg (by omega)]
            simpa using a5 k v hk
          · rw [List.getElem?_append_right (by omega)] at hk
            have hlt := (List.getElem?_eq_some_iff.1 hk).1
            rw [if_pos (by omega)]
            have := q1.get hk
            rwa [hn] at this)
        obtain ⟨s3, s4⟩ := s1.renumber (i := i) (b := ⟨b.cells ++ news, b.elem, true⟩) (by simp [Heap.set]) rfl
        have hh : ((h.set i ⟨b.cells ++ news, b.elem, true⟩).kill i).alloc ⟨b.cells ++ news, b.elem, true⟩ = (h.kill i).alloc ⟨b.cells ++ news, e, true⟩ := by
          simp only [Heap.alloc, Heap.kill, Heap.set, he, Heap.mk.injEq, and_true]
          funext j
          by_cases h1 : j = h.next
          · simp [h1]
          · by_cases h2 : j = i <;> simp [h1, h2]
        rw [hh] at s3 s4
        refine ⟨_, w', Ren.put φ h.next (φ i), _, _, exec_append ac _ w hr, kk, ?_, s3, s2.trans s4⟩
        refine .slice _ _ _ _ _ _ _ (by simp [Heap.alloc, Heap.kill]) (by omega) hm (by simp only [maxLen] at *; omega) ?_ p5 ?_
        · left
          show _ = (⟨(Ren.put φ h.next (φ i) h.next).b, (Ren.put φ h.next (φ i) h.next).o + 0, none⟩ : Addr)
          rw [Ren.put_at, a2]
        · show ∀ t, _ → _ ≤ (Ren.put φ h.next (φ i) h.next).l
          rw [Ren.put_at]; exact p6
    · rw [if_neg hm] at hr
      have hall : VRels φ h.next (b.cells ++ news) (os ++ cs) := o1.append q1
      obtain ⟨φ', v1, v2, v3⟩ := grown_row (P := P) r.sim (e := e) (cap := cap') hall (n := n + m) (by rw [List.length_append, o2, q2, Nat.add_mul]) h1 _ rfl
      have hx' : ∀ j c, ((h.kill i).alloc ⟨b.cells ++ news, e, true⟩).get j = some c → (h.alloc ⟨b.cells ++ news, e, true⟩).get j = some c := by
        intro j c hj
        have : (if j = h.next then some ⟨b.cells ++ news, e, true⟩ else if j = i then none else h.get j) = some c := hj
        show (if j = h.next then some ⟨b.cells ++ news, e, true⟩ else h.get j) = some c
        split at this
        · rename_i hjn; rw [if_pos hjn]; exact this
        · rename_i hjn
          rw [if_neg hjn]
          split at this
          · cases this
          · exact this
      have v2' : Sim P φ' (h.alloc ⟨b.cells ++ news, e, true⟩) (w.drew.alloc (.cells ((os ++ cs).toArray ++ Builtin.zeroCells z.cells (grownCap w (n + m) cap' e - (n + m))) e)) := by simpa using v2
      have v3' : Step φ h w φ' (h.alloc ⟨b.cells ++ news, e, true⟩) (w.drew.alloc (.cells ((os ++ cs).toArray ++ Builtin.zeroCells z.cells (grownCap w (n + m) cap' e - (n + m))) e)) := by simpa using v3
      refine ⟨_, _, φ', _, _, exec_append ac _ w ?_, kk, v1, v2'.forget rfl ⟨hx', fun _ _ hj => hj⟩, v3'.trans (Step.weak rfl ⟨hx', fun _ _ hj => hj⟩)⟩
      simpa using hr
end Go.Eng
/-
  The engine, part I: strings and bytes, literals, calls.
-/
namespace Go.Eng
open Go
variable {P : Program} {ρ : Operand → Value} {h : Heap} {K : Value → Heap → Prop} {dst : Option Tmp} {ty : TypeId} {pos : String} {aft : Array Edge} {g : Option (Nat × Bool)}
def bv (l : List UInt8) : List Value := l.map fun b => .int .u8 (b.toNat : Int)
theorem bv_length (l : List UInt8) : (bv l).length = l.length := by simp [bv]
theorem bv_append (a b : List UInt8) : bv (a ++ b) = bv a ++ bv b := by simp [bv]
theorem bv_take (l : List UInt8) (n : Nat) : (bv l).take n = bv (l.take n) := by simp [bv, List.map_take]
theorem bv_drop (l : List UInt8) (n : Nat) : (bv l).drop n = bv (l.drop n) := by simp [bv, List.map_drop]
theorem bv_scalar (l : List UInt8) : (bv l).all scalar = true := List.all_eq_true.2 (by intro v hv; obtain ⟨b, _, rfl⟩ := List.mem_map.1 hv; rfl)
theorem bv_one (l : List UInt8) : (bv l).all oneB = true := List.all_eq_true.2 (by intro v hv; obtain ⟨b, _, rfl⟩ := List.mem_map.1 hv; rfl)
theorem bv_get (l : List UInt8) (i : Nat) (b : UInt8) (hb : l[i]? = some b) : (bv l)[i]? = some (.int .u8 (b.toNat : Int)) := by simp [bv, hb]
def bstr (l : List UInt8) : ByteArray := ⟨l.toArray⟩
theorem VRels.bytes {φ : Ren} {n : Nat} : ∀ {l : List UInt8} {cs : List Value}, VRels φ n (bv l) cs → cs = bv l
  | [], cs, r => by cases r; rfl
  | b :: l, cs, r => by
    cases r with
    | cons hv t => rw [hv.int_inv, VRels.bytes t]; rfl
theorem op_bytesStr {sT dT e : TypeId} {x : Operand} {i o m c : Nat} {s : Option Nat} {b : Blk} {l : List UInt8} [ts : TyD P sT (.slice e)] [te : TyD P e (.int .u8)] [td : TyD P dT .string] (hx : ρ x = .slice (some ⟨i, o, s⟩) m c)
    (hi : h.get i = some b) (hl : o + m ≤ b.cells.length) (hb : (b.cells.drop o).take m = bv l) (kk : K (.string (bstr l)) h) : AOp P ⟨dst, .convert sT dT x, ty, pos, aft, g⟩ ρ h K :=
  .of_pure kk fun φ ac w r => by
    obtain ⟨cap', a', e1, hlt, q1, q2, q3, q4, q5, q6⟩ := (hx ▸ r.ev x (by simp [Op.operands])).slice_inv
    have hll : l.length = m := by
      have := congrArg List.length hb
      simp [bv] at this
      omega
    refine ⟨.string (bstr l), ?_, .string _⟩
    have hcells : ∀ j (hj : j < l.length), w.cell? (a'.add j) = some (.int .u8 (l[j].toNat : Int)) := by
      intro j hj
      obtain rfl := q4.resolve_right (by omega)
      obtain ⟨cs, h1, h2, h3⟩ := r.sim.row hi o m hl
      rw [hb] at h1
      have hcs := h1.bytes
      refine h3 j _ ?_
      rw [hcs]
      exact bv_get l j _ (List.getElem?_eq_getElem hj)
    have hr := run_convert_bytes_back (P := P) w sT dT e a' cap' l ts.eq te.eq td.eq hcells
    rw [hll] at hr
    simp [execOp, e1, hr, bstr]
theorem op_nilStr {sT dT e : TypeId} {x : Operand} {m c : Nat} [ts : TyD P sT (.slice e)] [te : TyD P e (.int .u8)] [td : TyD P dT .string] (hx : ρ x = .slice none m c)
    (kk : K (.string ByteArray.empty) h) : AOp P ⟨dst, .convert sT dT x, ty, pos, aft, g⟩ ρ h K :=
  .of_pure kk fun φ ac w r => by
    obtain ⟨_, _, e1⟩ := (hx ▸ r.ev x (by simp [Op.operands])).nilSlice_inv
    exact ⟨_, by simp [execOp, e1, convert, ts.run, te.run, td.run, Conv.bytesToString], .string _⟩
theorem op_strBytes {sT dT e : TypeId} {x : Operand} {st : ByteArray} [ts : TyD P sT .string] [te : TyD P e (.int .u8)] [td : TyD P dT (.slice e)] (hx : ρ x = .string st) (hs : st.size ≤ maxLen)
    (kk : K (.slice (some ⟨h.next, 0, some 1⟩) st.size (st.size + 1)) (h.alloc ⟨bv st.data.toList, e, true⟩)) : AOp P ⟨dst, .convert sT dT x, ty, pos, aft, g⟩ ρ h K :=
  .of_run fun φ ac w r => by
    have e1 := (hx ▸ r.ev x (by simp [Op.operands])).string_inv
    have hge := grownCap_ge w st.size 0 e
    have hle := grownCap_le_maxLen w st.size 0 e hs
    have hr := run_bytes_of_string (P := P) w sT dT e st ts.eq td.eq te.eq
    have hds : st.data.size = st.size := rfl
    have hsz : (bytesRow st (grownCap w st.size 0 e)).size = grownCap w st.size 0 e := by simp [bytesRow, hds]; omega
    obtain ⟨s1, s2⟩ := r.sim.drew.alloc (bv st.data.toList) (bytesRow st (grownCap w st.size 0 e)) e ((bytesRow st (grownCap w st.size 0 e)).size, (bytesRow st (grownCap w st.size 0 e)).size + 1)
      (.inr ⟨Nat.le_refl _, te.eq⟩) (by rw [hsz]; simp [bv_length, hds]; omega) (by
        intro k v hk
        refine ⟨v, ?_, ?_⟩
        · have hkl : k < st.data.size := by simpa [bv] using (List.getElem?_eq_some_iff.1 hk).1
          rw [← hk]
          simp only [bytesRow, bv]
          rw [Array.getElem?_append_left (by simpa using hkl)]
          simp
        · have := List.all_eq_true.1 (bv_scalar st.data.toList) v (List.mem_of_getElem? hk)
          exact .of_scalar this)
    refine ⟨_, _, _, _, _, by simp [execOp, e1, hr]; rfl, kk, ?_, s1, Step.drew.trans s2⟩
    refine .newSlice (by omega) hge (by simp only [maxLen] at *; omega) hle ?_
    intro t ht
    cases ht
    rw [hsz]
    omega
end Go.Eng
/-
  The engine, part J: calls, literals, function values; and regions whose order is drawn.
-/
namespace Go.Eng
open Go
variable {P : Program} {ρ : Operand → Value} {h : Heap} {K : Value → Heap → Prop} {dst : Option Tmp} {ty : TypeId} {pos : String} {aft : Array Edge} {g : Option (Nat × Bool)}
class FnC (P : Program) (f : FuncId) : Prop where
  ex : ∃ fn, P.funcs[f]? = some fn ∧ fn.body.isSome = true ∧ (fn.name == "runtime.NumGoroutine") = false
theorem VRels.map {φ : Ren} {n : Nat} : ∀ {args : List Operand} {r1 r2 : Operand → Value}, (∀ x ∈ args, VRel φ n (r1 x) (r2 x)) → VRels φ n (args.map r1) (args.map r2)
  | [], _, _, _ => .nil
  | x :: args, _, _, hr => .cons (hr x (by simp)) (VRels.map fun y hy => hr y (by simp [hy]))
theorem VRels.ofArr {φ : Ren} {n : Nat} {f f' : Array Value} (h1 : f.size = f'.size) (h3 : ∀ (k : Nat) x y, f[k]? = some x → f'[k]? = some y → VRel φ n x y) : VRels φ n f.toList f'.toList :=
  .of (by simpa using h1) (fun j x y hx hy => h3 j x y (by simpa using hx) (by simpa using hy))
theorem op_call {x : Operand} {f : FuncId} {fi ca : Array Value} {args : Array Operand} {aT : Array TypeId} [fc : FnC P f] {evs : List Value} (hx : ρ x = .func (.func f) fi ca) (he : fi.toList ++ (args.toList.map ρ ++ ca.toList) = evs)
    (c : ACalls P f evs h K) : AOp P ⟨dst, .call ⟨.value x, args, aT⟩, ty, pos, aft, g⟩ ρ h K := by
  intro φ a w r next Qc kk
  have hv := hx ▸ r.ev x (by simp [Op.operands, Call.operands])
  obtain ⟨f', d', e1, s1, s2, q1, q2⟩ := hv.func_inv
  obtain ⟨fn, hf, hb, hn⟩ := fc.ex
  have hargs : VRels φ h.next evs (f'.toList ++ (args.toList.map a.eval ++ d'.toList)) := by
    rw [← he]
    exact (VRels.ofArr s1 q1).append ((VRels.map fun y hy => r.ev y (by simp [Op.operands, Call.operands]; exact .inr (by simpa using hy))).append (VRels.ofArr s2 q2))
  have hc := c φ w _ r.sim hargs
  have hbn : fn.body.isNone = false := by
    cases hbb : fn.body with
    | none => rw [hbb] at hb; cases hb
    | some _ => rfl
  have hrun : (execOp a.eval ⟨dst, .call ⟨.value x, args, aT⟩, ty, pos, aft, g⟩).run P w = .ok (.enter f (f'.toList ++ (args.toList.map a.eval ++ d'.toList)).toArray) w := by
    have harr : (f' ++ args.map a.eval ++ d') = (f'.toList ++ (args.toList.map a.eval ++ d'.toList)).toArray := by
      apply Array.ext'
      simp
    simp only [execOp, resolve, e1, Deferred.ofValue, Sem.run_bind, Sem.run_pure, Result.andThen_ok, invoke, callFunc, run_program, hf, hn, hbn, Bool.false_eq_true, if_false]
    rw [harr]
  unfold Oper.wp
  rw [hrun]
  refine hc.mono fun e w' hr => ?_
  cases e with
  | returned cv =>
    obtain ⟨v, h', φ', k, v1, v2, v3⟩ := hr
    exact kk cv w' φ' h' v k v1 v2 v3
  | panicked ch => exact hr.elim
  | outgrown => exact hr.elim
theorem op_makeFunc {fn : Fn} {f c : Array Operand} {f' c' : List Value} (hf : f.toList.map ρ = f') (hc : c.toList.map ρ = c') (kk : K (.func fn f'.toArray c'.toArray) h) :
    AOp P ⟨dst, .makeFunc fn f c, ty, pos, aft, g⟩ ρ h K :=
  .of_pure kk fun φ ac w r => by
    refine ⟨.func fn (f.map ac.eval) (c.map ac.eval), by simp [execOp, Instr.makeFunc], ?_⟩
    subst hf hc
    refine .func _ _ _ _ _ (by simp) (by simp) ?_ ?_
    · intro k x y hx hy
      simp only [List.getElem?_toArray, List.getElem?_map, Array.getElem?_toList, Array.getElem?_map] at hx hy
      cases hq : f[k]? with
      | none => simp [hq] at hx
      | some o =>
        simp [hq] at hx hy
        subst hx hy
        exact r.ev o (by simp [Op.operands]; exact .inl (Array.mem_of_getElem? hq))
    · intro k x y hx hy
      simp only [List.getElem?_toArray, List.getElem?_map, Array.getElem?_toList, Array.getElem?_map] at hx hy
      cases hq : c[k]? with
      | none => simp [hq] at hx
      | some o =>
        simp [hq] at hx hy
        subst hx hy
        exact r.ev o (by simp [Op.operands]; exact .inr (Array.mem_of_getElem? hq))
def ifaceB : TypeDesc → Bool
  | .interface _ => true
  | _ => false
def fillA (place : Nat → Option (Nat × Nat)) (cells : List Value) : List (Nat × Value) → Option (List Value)
  | [] => some cells
  | (i, v) :: rest =>
    match place i with
    | none => none
    | some (off, size) => if v.cells.size ≠ size || off + v.cells.size > cells.length then none else fillA place (splice cells off v.cells.toList) rest
theorem zipFold (cs : List Value) : ∀ (k : Nat) (off : Nat) (arr : Array Value), ((cs.zipIdx k).foldl (fun (a : Array Value) (p : Value × Nat) => a.setIfInBounds (off + p.2) p.1) arr).toList = if off + k + cs.length ≤ arr.size then splice arr.toList (off + k) cs else ((cs.zipIdx k).foldl (fun (a : Array Value) (p : Value × Nat) => a.setIfInBounds (off + p.2) p.1) arr).toList := by
  induction cs with
  | nil => intro k off arr; simp [splice]
  | cons v cs ih =>
    intro k off arr
    split
    · rename_i hl
      simp only [List.length_cons] at hl
      simp only [List.zipIdx_cons, List.foldl_cons]
      rw [ih (k + 1) off, if_pos (by simp; omega)]
      simp only [Array.toList_setIfInBounds]
      apply List.ext_getElem?
      intro j
      rw [splice_get _ _ _ (by simp; omega), splice_get _ _ _ (by simp; omega)]
      simp only [List.length_cons]
      by_cases h1 : j = off + k
      · subst h1
        rw [if_neg (by omega), if_pos (by omega), List.getElem?_set_self (by simp; omega)]
        simp
      · by_cases h2 : off + (k + 1) ≤ j ∧ j < off + (k + 1) + cs.length
        · rw [if_pos h2, if_pos (by omega)]
          rw [show j - (off + k) = (j - (off + (k + 1))) + 1 from by omega]
          simp
        · rw [if_neg h2, if_neg (by omega)]
          rw [List.getElem?_set_ne (by omega)]
    · rfl
theorem zipFold0 (cs : Array Value) (off : Nat) (arr : Array Value) (hl : off + cs.size ≤ arr.size) : (cs.zipIdx.foldl (fun (a : Array Value) (p : Value × Nat) => a.setIfInBounds (off + p.2) p.1) arr).toList = splice arr.toList off cs.toList := by
  have := zipFold cs.toList 0 off arr
  rw [if_pos (by simpa using hl)] at this
  rw [← Array.foldl_toList]
  simpa using this
theorem VRels.splice {φ : Ren} {n : Nat} {xs cs vs ds : List Value} (a : VRels φ n xs cs) (b : VRels φ n vs ds) (o : Nat) (hl : o + vs.length ≤ xs.length) : VRels φ n (Eng.splice xs o vs) (Eng.splice cs o ds) := by
  have h1 := a.length
  have h2 := b.length
  refine .of (by rw [length_splice hl, length_splice (by omega), h1]) fun j x y hx hy => ?_
  rw [splice_get _ _ _ hl] at hx
  rw [splice_get _ _ _ (by omega)] at hy
  by_cases hin : o ≤ j ∧ j < o + vs.length
  · rw [if_pos hin] at hx
    rw [if_pos (by omega)] at hy
    obtain ⟨c, hc, hv⟩ := b.get hx
    rw [hy] at hc; cases hc; exact hv
  · rw [if_neg hin] at hx
    rw [if_neg (by omega)] at hy
    obtain ⟨c, hc, hv⟩ := a.get hx
    rw [hy] at hc; cases hc; exact hv
theorem fill_run {φ : Ren} {n : Nat} (place : Nat → Option (Nat × Nat)) (ac : Act) : ∀ (parts : List (Nat × Operand)) (cells out : List Value) (arr : Array Value), VRels φ n cells arr.toList →
    (∀ p ∈ parts, VRel φ n (ρ p.2) (ac.eval p.2)) → (∀ p ∈ parts, ρ p.2 ≠ undef) → fillA place cells (parts.map fun p => (p.1, ρ p.2)) = some out →
    ∃ arr', Instr.fill place arr (parts.map fun p => (p.1, ac.eval p.2)) = some arr' ∧ VRels φ n out arr'.toList
  | [], cells, out, arr, hr, _, _, hf => by
    simp [fillA] at hf
    subst hf
    exact ⟨arr, rfl, hr⟩
  | (i, x) :: parts, cells, out, arr, hr, hv, hu, hf => by
    simp only [List.map_cons, fillA] at hf
    split at hf
    · cases hf
    · rename_i off size hp
      split at hf
      · cases hf
      · rename_i hc
        simp only [ne_eq, decide_not, Bool.or_eq_true, Bool.not_eq_eq_eq_not, Bool.not_true, decide_eq_false_iff_not, decide_eq_true_eq, not_or, Classical.not_not, Nat.not_lt] at hc
        have hx := (hv (i, x) (by simp)).cells (hu (i, x) (by simp))
        have hlen := hx.length
        simp only [Array.length_toList] at hlen
        have hcl := hr.length
        simp only [Array.length_toList] at hcl
        obtain ⟨arr', h1, h2⟩ := fill_run place ac parts _ out ((ac.eval x).cells.zipIdx.foldl (fun (a : Array Value) (p : Value × Nat) => a.setIfInBounds (off + p.2) p.1) arr) (by
          rw [zipFold0 _ _ _ (by omega)]
          exact hr.splice hx off (by simp; omega)) (fun p hp => hv p (by simp [hp])) (fun p hp => hu p (by simp [hp])) hf
        refine ⟨arr', ?_, h2⟩
        simp only [List.map_cons, Instr.fill, hp]
        rw [if_neg (by simp; omega)]
        exact h1
theorem op_build {t sz by_ : Nat} {z : Value} {fs : Array Field} {parts : Array (Nat × Operand)} {places : List (Nat × Nat)} {out : List Value} [td : TyD P t (.struct fs)] [ti : TyI P t sz by_ z]
    (hp : ∀ w, (fs.mapM fun f => do pure (f.offset, ← sizeOf f.type) : Sem (Array (Nat × Nat))).run P w = .ok places.toArray w) (hu : ∀ p ∈ parts.toList, ρ p.2 ≠ undef)
    (hf : fillA (places[·]?) z.cells.toList (parts.toList.map fun p => (p.1, ρ p.2)) = some out) (kk : K (.agg out.toArray) h) : AOp P ⟨dst, .build t parts, ty, pos, aft, g⟩ ρ h K :=
  .of_pure kk fun φ ac w r => by
    obtain ⟨arr', h1, h2⟩ := fill_run (φ := φ) (n := h.next) (places[·]?) ac parts.toList z.cells.toList out z.cells (VRels.scalars ti.plain) (fun p hp => r.ev p.2 (by simp [Op.operands]; exact ⟨p.1, by simpa using hp⟩)) hu hf
    refine ⟨.agg arr', ?_, .agg _ _ (by have := h2.length; simpa using this) (fun k x y hx hy => ?_)⟩
    · have he : (parts.map fun (p : Nat × Operand) => (p.1, ac.eval p.2)).toList = parts.toList.map fun p => (p.1, ac.eval p.2) := by simp
      have hrun : (Instr.build t (parts.map fun (p : Nat × Operand) => (p.1, ac.eval p.2))).run P w = .ok (.agg arr') w := by
        simp only [Instr.build, Sem.run_bind, ti.zero, Result.andThen_ok, td.run, hp, he, List.getElem?_toArray]
        rw [h1]
        rfl
      simp [execOp, hrun]
    · obtain ⟨c, hc, hv⟩ := h2.get (j := k) (x := x) (by simpa using hx)
      simp only [Array.getElem?_toList] at hc
      rw [hy] at hc; cases hc; exact hv
theorem op_buildSlice {t e by_ : Nat} {z : Value} {len : Nat} {parts : Array (Nat × Operand)} {out : List Value} [td : TyD P t (.slice e)] [ti : TyI P e 1 by_ z] (hz : oneB z = true) (hl : len ≤ 16777216) (hu : ∀ p ∈ parts.toList, ρ p.2 ≠ undef)
    (hf : fillA (fun i => some (i * 1, 1)) (List.replicate len z) (parts.toList.map fun p => (p.1, ρ p.2)) = some out) (hlen : out.length = len)
    (kk : K (.slice (some ⟨h.next, 0, some 1⟩) len len) (h.alloc ⟨out, e, true⟩)) : AOp P ⟨dst, .buildSlice t len parts, ty, pos, aft, g⟩ ρ h K :=
  .of_run fun φ ac w r => by
    have hzc : z.cells = #[z] := by cases z <;> first | rfl | (simp [oneB] at hz)
    have hzs : scalar z = true := by
      have := ti.plain
      rw [hzc] at this
      simpa using this
    have hmade : (Array.range len).map (fun x => z.cells[x % z.cells.size]!) = Array.replicate len z := madeCells_one z len hzc
    obtain ⟨arr', h1, h2⟩ := fill_run (φ := φ) (n := h.next) (fun i => some (i * 1, 1)) ac parts.toList (List.replicate len z) out (Array.replicate len z) (by
      have : (List.replicate len z).all scalar = true := List.all_eq_true.2 (by intro v hv; rw [List.eq_of_mem_replicate hv]; exact hzs)
      simpa using VRels.scalars (φ := φ) (n := h.next) this) (fun p hp => r.ev p.2 (by simp [Op.operands]; exact ⟨p.1, by simpa using hp⟩)) hu hf
    have hal : arr'.size = len := by have := h2.length; simp at this; omega
    obtain ⟨s1, s2⟩ := r.sim.alloc out arr' e (0, 0) (.inl rfl) (by omega) h2.toArr
    have he : (parts.map fun (p : Nat × Operand) => (p.1, ac.eval p.2)).toList = parts.toList.map fun p => (p.1, ac.eval p.2) := by simp
    have hrun : (Instr.buildSlice t len (parts.map fun (p : Nat × Operand) => (p.1, ac.eval p.2))).run P w = .ok (.slice (some ⟨w.heap.size, 0, none⟩) len len) (w.alloc (.cells arr' e)) := by
      have hb : ¬ (len * 1 > 2 ^ 24) := by omega
      by_cases hl0 : len = 0
      · subst hl0
        simp only [Instr.buildSlice, Sem.run_bind, td.run, Result.andThen_ok, ti.size, if_neg hb, Nat.zero_mul, if_true, Sem.run_pure, he]
        rw [show (Array.map (fun x => (#[] : Array Value)[x % (#[] : Array Value).size]!) (Array.range 0)) = Array.replicate 0 z from by simp [Array.range_zero'], h1]
        simp [newRow]
      · have hn0 : ¬ (len * 1 = 0) := by omega
        simp only [Instr.buildSlice, Sem.run_bind, td.run, Result.andThen_ok, ti.size, if_neg hb, if_neg hn0, ti.zero, Sem.run_pure, he]
        rw [show (Array.map (fun x => z.cells[x % z.cells.size]!) (Array.range (len * 1))) = Array.replicate len z from by rw [Nat.mul_one]; exact hmade, h1]
        simp [newRow]
    refine ⟨_, _, _, _, _, by simp [execOp, hrun]; rfl, kk, ?_, s1, s2⟩
    have h24 : len ≤ maxLen := by simp only [maxLen]; omega
    refine .newSlice (Nat.le_refl _) (Nat.le_refl _) ⟨fun _ => rfl, fun hb => by simp only [maxLen] at h24; omega⟩ h24 ?_
    intro t ht
    cases ht
    omega
end Go.Eng
