/-
  Texts of one claim, merged: 3 parts.
-/
import Derived.Test.YtnioldkmckmajaaMnf
import Derived.Deep.Slices
import Derived.ChangeArms
import Derived.ChangeOld
import Derived.OpenShut
import Derived.SizedLaws
import Derived.Test.YtnioldkmckmajaaMnm
set_option maxHeartbeats 16000000
/-
  The engine: arguments of any plain type, from the world «to» an abstract heap.
-/
namespace Go.Eng
open Go
theorem flat_get {α : Type} {c : Nat} (hc : 0 < c) : ∀ {L : List (List α)}, (∀ l ∈ L, l.length = c) → ∀ m : Nat, L.flatten[m]? = (L[m / c]?).bind (·[m % c]?)
  | [], _, m => by simp
  | l :: L, h, m => by
    have hl := h l (by simp)
    rw [List.flatten_cons]
    by_cases hm : m < c
    · rw [List.getElem?_append_left (by omega), Nat.div_eq_of_lt hm, Nat.mod_eq_of_lt hm]
      rfl
    · rw [List.getElem?_append_right (by omega), hl, flat_get hc (fun x hx => h x (List.mem_cons_of_mem _ hx)) (m - c)]
      have h1 : m / c = (m - c) / c + 1 := by rw [Nat.div_eq m c, if_pos ⟨hc, by omega⟩]
      have h2 : m % c = (m - c) % c := by rw [Nat.mod_eq m c, if_pos ⟨hc, by omega⟩]
      rw [h1, h2, List.getElem?_cons_succ]
theorem flat_len {α : Type} {c : Nat} : ∀ {L : List (List α)}, (∀ l ∈ L, l.length = c) → L.flatten.length = L.length * c
  | [], _ => by simp
  | l :: L, h => by
    rw [List.flatten_cons, List.length_append, h l (by simp), flat_len (fun x hx => h x (List.mem_cons_of_mem _ hx)), List.length_cons, Nat.add_mul]
    omega
theorem flat_chunk {α : Type} {c : Nat} : ∀ {L : List (List α)}, (∀ l ∈ L, l.length = c) → ∀ {k : Nat} {l : List α}, L[k]? = some l → (L.flatten.drop (k * c)).take c = l
  | [], _, k, l, hk => by simp at hk
  | x :: L, h, 0, l, hk => by
    simp only [List.getElem?_cons_zero, Option.some.injEq] at hk
    subst hk
    have := h x (by simp)
    rw [Nat.zero_mul, List.drop_zero, List.flatten_cons, List.take_append_of_le_length (by omega), List.take_of_length_le (by omega)]
  | x :: L, h, k + 1, l, hk => by
    have hx := h x (by simp)
    rw [List.getElem?_cons_succ] at hk
    have := flat_chunk (fun y hy => h y (List.mem_cons_of_mem _ hy)) hk
    rw [List.flatten_cons, show (k + 1) * c = x.length + k * c by rw [Nat.add_mul]; omega, List.drop_length_add_append]
    exact this
theorem flat_piece {α : Type} : ∀ {L : List (List α)} {k : Nat} {l : List α}, L[k]? = some l → (L.flatten.drop ((L.take k).map List.length).sum).take l.length = l
  | [], k, l, hk => by simp at hk
  | x :: L, 0, l, hk => by
    simp only [List.getElem?_cons_zero, Option.some.injEq] at hk
    subst hk
    simp
  | x :: L, k + 1, l, hk => by
    rw [List.getElem?_cons_succ] at hk
    have := flat_piece hk
    rw [List.flatten_cons, List.take_succ_cons, List.map_cons, List.sum_cons, List.drop_length_add_append]
    exact this
theorem chunks_flat {α : Type} {c : Nat} : ∀ {m : Nat} {l : List α}, l.length = m * c → ((List.range m).map fun k => (l.drop (k * c)).take c).flatten = l
  | 0, l, h => by
    have : l = [] := List.eq_nil_of_length_eq_zero (by simpa using h)
    simp [this]
  | m + 1, l, h => by
    have hm : (m + 1) * c = m * c + c := by rw [Nat.add_mul]; omega
    rw [List.range_succ, List.map_append, List.flatten_append]
    have h1 : ((List.range m).map fun k => (l.drop (k * c)).take c) = (List.range m).map fun k => ((l.take (m * c)).drop (k * c)).take c := by
      refine List.map_congr_left fun k hk => ?_
      have hk := List.mem_range.1 hk
      have h2 : (k + 1) * c ≤ m * c := Nat.mul_le_mul_right _ (by omega)
      have h3 : (k + 1) * c = k * c + c := by rw [Nat.add_mul]; omega
      rw [List.drop_take, List.take_take, Nat.min_eq_left (by omega)]
    rw [h1, chunks_flat (l := l.take (m * c)) (by rw [List.length_take]; omega)]
    simp only [List.map_cons, List.map_nil, List.flatten_cons, List.flatten_nil, List.append_nil]
    rw [List.take_of_length_le (l := l.drop (m * c)) (by rw [List.length_drop]; omega), List.take_append_drop]
section
variable {P : Program}
def laysF (P : Program) : List Field → Nat → Option Nat
  | [], o => some o
  | f :: r, o => if f.offset = o then laysF P r (o + P.cellsOf f.type) else none
def plainT (P : Program) : Nat → TypeId → Bool
  | 0, _ => false
  | n + 1, t => match P.underlying t with
    | some .bool | some (.int _) | some .string => P.cellsOf t == 1
    | some (.slice e) => P.cellsOf t == 1 && Nat.blt 0 (P.cellsOf e) && plainT P n e
    | some (.struct fs) => laysF P fs.toList 0 == some (P.cellsOf t) && fs.toList.all fun f => plainT P n f.type
    | some (.array m e) => P.cellsOf t == m * P.cellsOf e && plainT P n e
    | _ => false
def Rd (P : Program) (h : Heap) : Nat → TypeId → List Value → Prop
  | 0, _, _ => False
  | n + 1, t, cs => match P.underlying t with
    | some .bool => ∃ b, cs = [.bool b]
    | some (.int k) => ∃ a, cs = [.int k a] ∧ (Lit.int k a).wf = true
    | some .string => ∃ s, cs = [.string (bstr s)] ∧ s.length ≤ reachBytes
    | some (.slice e) => cs = [.slice none 0 0] ∨ ∃ i len cap cells, cs = [.slice (some ⟨i, 0, none⟩) len cap] ∧ len * P.bytesOf e ≤ reachBytes ∧ cells.length = len * P.cellsOf e ∧ (cells ≠ [] → h.get i = some ⟨cells, 0, false⟩) ∧
        ∀ k, k < len → Rd P h n e ((cells.drop (k * P.cellsOf e)).take (P.cellsOf e))
    | some (.struct fs) => cs.length = P.cellsOf t ∧ ∀ f ∈ fs.toList, Rd P h n f.type ((cs.drop f.offset).take (P.cellsOf f.type))
    | some (.array m e) => cs.length = P.cellsOf t ∧ ∀ k, k < m → Rd P h n e ((cs.drop (k * P.cellsOf e)).take (P.cellsOf e))
    | _ => False
theorem Rd.ext {h h' : Heap} (hx : Ext h h') : ∀ {n : Nat} {t : TypeId} {cs : List Value}, Rd P h n t cs → Rd P h' n t cs
  | 0, _, _, r => r.elim
  | n + 1, t, cs, r => by
    unfold Rd at r ⊢
    split <;> simp_all only
    · rcases r with r | ⟨i, len, cap, cells, h1, h2, h3, h4, h5⟩
      · exact .inl r
      · exact .inr ⟨i, len, cap, cells, h1, h2, h3, fun hne => hx.c _ _ (h4 hne), fun k hk => (h5 k hk).ext hx⟩
    · exact ⟨trivial, fun f hf => (r.2 f hf).ext hx⟩
    · exact ⟨trivial, fun k hk => (r.2 k hk).ext hx⟩
theorem roRen_app {G : Nat} {bs bs' : List RoB} : ∀ i, i < G + bs.length → roRen G (bs ++ bs') i = roRen G bs i := by
  intro i hi
  unfold roRen
  split
  · rfl
  · rw [List.getElem?_append_left (by omega)]
theorem roHeap_ext {G : Nat} {bs bs' : List RoB} : Ext (roHeap G bs) (roHeap G (bs ++ bs')) := by
  refine ⟨fun i b hi => ?_, fun i o hi => hi⟩
  unfold roHeap at hi ⊢
  simp only at hi ⊢
  split at hi
  · cases hi
  · rename_i hg
    rw [if_neg hg]
    cases hq : bs[i - G]? with
    | none => rw [hq] at hi; cases hi
    | some rb =>
      rw [hq] at hi
      have := (List.getElem?_eq_some_iff.1 hq).1
      rw [List.getElem?_append_left this, hq]
      exact hi
theorem roVRels {G : Nat} {bs bs' : List RoB} {xs cs : List Value} (r : VRels (roRen G bs) (G + bs.length) xs cs) : VRels (roRen G (bs ++ bs')) (G + (bs ++ bs').length) xs cs :=
  r.mono roRen_app (by simp)
def RoAll (G : Nat) (bs bs' : List RoB) (W : World) : Prop := ∀ b ∈ bs', b.at_.spot = none ∧ ∀ (k : Nat) v, b.cells[k]? = some v → ∃ c, W.cell? (b.at_.add k) = some c ∧ VRel (roRen G bs) (G + bs.length) v c
theorem RoAll.app {G : Nat} {bs b1 b2 : List RoB} {W : World} (r : RoAll G bs b1 W) : RoAll G (bs ++ b2) b1 W := by
  intro b hb
  obtain ⟨h1, h2⟩ := r b hb
  refine ⟨h1, fun k v hk => ?_⟩
  obtain ⟨c, q1, q2⟩ := h2 k v hk
  exact ⟨c, q1, q2.mono roRen_app (by simp)⟩
theorem RoAll.two {G : Nat} {bs b1 b2 : List RoB} {W : World} (r1 : RoAll G bs b1 W) (r2 : RoAll G bs b2 W) : RoAll G bs (b1 ++ b2) W := by
  intro b hb
  rcases List.mem_append.1 hb with h | h
  · exact r1 b h
  · exact r2 b h
def Opens (P : Program) (G : Nat) (W : World) (n : Nat) (t : TypeId) (cs : List Value) : Prop :=
  ∀ bs : List RoB, ∃ (bs' : List RoB) (avs : List Value), RoAll G (bs ++ bs') bs' W ∧ VRels (roRen G (bs ++ bs')) (G + (bs ++ bs').length) avs cs ∧ Rd P (roHeap G (bs ++ bs')) n t avs
theorem opens_list {G n : Nat} {W : World} : ∀ (items : List (TypeId × List Value)), (∀ x ∈ items, Opens P G W n x.1 x.2) → ∀ bs : List RoB, ∃ (bs' : List RoB) (avs : List (List Value)), RoAll G (bs ++ bs') bs' W ∧ avs.length = items.length ∧
    ∀ (k : Nat) x a, items[k]? = some x → avs[k]? = some a → VRels (roRen G (bs ++ bs')) (G + (bs ++ bs').length) a x.2 ∧ Rd P (roHeap G (bs ++ bs')) n x.1 a
  | [], _, bs => ⟨[], [], (fun b hb => by cases hb), rfl, fun k x a hx => by simp at hx⟩
  | y :: items, h, bs => by
    obtain ⟨b1, a1, r1, v1, d1⟩ := h y (by simp) bs
    obtain ⟨b2, a2, r2, l2, q2⟩ := opens_list items (fun x hx => h x (List.mem_cons_of_mem _ hx)) (bs ++ b1)
    refine ⟨b1 ++ b2, a1 :: a2, ?_, by simp [l2], fun k x a hx ha => ?_⟩
    · rw [← List.append_assoc]
      exact r1.app.two r2
    · rw [← List.append_assoc]
      cases k with
      | zero =>
        simp only [List.getElem?_cons_zero, Option.some.injEq] at hx ha
        subst hx ha
        exact ⟨roVRels v1, d1.ext roHeap_ext⟩
      | succ k =>
        simp only [List.getElem?_cons_succ] at hx ha
        exact q2 k x a hx ha
theorem VRels.flat {φ : Ren} {n : Nat} : ∀ {avs cs : List (List Value)}, avs.length = cs.length → (∀ (k : Nat) a c, avs[k]? = some a → cs[k]? = some c → VRels φ n a c) → VRels φ n avs.flatten cs.flatten
  | [], [], _, _ => .nil
  | a :: avs, c :: cs, hl, h => by
    rw [List.flatten_cons, List.flatten_cons]
    exact (h 0 a c rfl rfl).append (VRels.flat (by simpa using hl) fun k x y hx hy => h (k + 1) x y hx hy)
  | [], c :: cs, hl, _ => by simp at hl
  | a :: avs, [], hl, _ => by simp at hl
theorem laysF_flat {cs : List Value} : ∀ {fs : List Field} {o T : Nat}, laysF P fs o = some T → T ≤ cs.length → (fs.map fun f => (cs.drop f.offset).take (P.cellsOf f.type)).flatten = (cs.drop o).take (T - o) ∧ o ≤ T
  | [], o, T, h, _ => by
    simp only [laysF, Option.some.injEq] at h
    subst h
    simp
  | f :: fs, o, T, h, hT => by
    unfold laysF at h
    split at h
    · rename_i ho
      obtain ⟨e, hle⟩ := laysF_flat (cs := cs) h hT
      refine ⟨?_, by omega⟩
      rw [List.map_cons, List.flatten_cons, e, ho, ← List.drop_drop, show T - o = P.cellsOf f.type + (T - (o + P.cellsOf f.type)) by omega, List.take_add]
    · cases h
theorem laysF_off : ∀ {fs : List Field} {o T : Nat}, laysF P fs o = some T → ∀ (k : Nat) f, fs[k]? = some f → f.offset = o + ((fs.take k).map fun f => P.cellsOf f.type).sum
  | [], o, T, h, k, f, hk => by simp at hk
  | g :: fs, o, T, h, k, f, hk => by
    unfold laysF at h
    split at h
    · rename_i ho
      cases k with
      | zero =>
        simp only [List.getElem?_cons_zero, Option.some.injEq] at hk
        subst hk
        simpa using ho
      | succ k =>
        rw [List.getElem?_cons_succ] at hk
        have := laysF_off h k f hk
        rw [this, List.take_succ_cons, List.map_cons, List.sum_cons]
        omega
    · cases h
theorem laysF_len : ∀ {fs : List Field} {o T : Nat}, laysF P fs o = some T → T = o + (fs.map fun f => P.cellsOf f.type).sum
  | [], o, T, h => by simp only [laysF, Option.some.injEq] at h; simp [h]
  | g :: fs, o, T, h => by
    unfold laysF at h
    split at h
    · have := laysF_len h
      rw [this, List.map_cons, List.sum_cons]
      omega
    · cases h
theorem weightsAll_in {H : Type} {e : TypeId} : ∀ {l : List (DataW H)} {d : DataW H}, d ∈ l → ∀ n ∈ d.weights P e, n ∈ DataW.weightsAll P e l
  | d' :: r, d, hd, n, hn => by
    simp only [DataW.weightsAll, List.mem_append]
    rcases List.mem_cons.1 hd with rfl | h
    · exact .inl hn
    · exact .inr (weightsAll_in h n hn)
theorem plainT_len {n : Nat} {t : TypeId} (hp : plainT P n t = true) {h : Heap} {cs : List Value} (r : Rd P h n t cs) : cs.length = P.cellsOf t := by
  cases n with
  | zero => exact r.elim
  | succ n =>
    unfold Rd at r
    unfold plainT at hp
    split at r
    · rename_i hu; rw [hu] at hp; obtain ⟨b, rfl⟩ := r; simpa using (beq_iff_eq.1 hp).symm
    · rename_i hu; rw [hu] at hp; obtain ⟨a, rfl, _⟩ := r; simpa using (beq_iff_eq.1 hp).symm
    · rename_i hu; rw [hu] at hp; obtain ⟨s, rfl, _⟩ := r; simpa using (beq_iff_eq.1 hp).symm
    · rename_i hu
      rw [hu] at hp
      simp only [Bool.and_eq_true, beq_iff_eq] at hp
      rcases r with rfl | ⟨i, len, cap, cells, rfl, _⟩
      · simpa using hp.1.1.symm
      · simpa using hp.1.1.symm
    · exact r.1
    · exact r.1
    · exact r.elim
section
variable {H : Type} {enc : TypeId × Value → H} {W : World} {base : Nat} {spare : Nat → Bool} {held : Bool}
theorem opens {G : Nat} (hall : ∀ b, spare b = true) : ∀ (n : Nat) (t : TypeId) (fuel : Nat) (cs : List Value) (x : DataW H × List MemPlace), plainT P n t = true → DataW.trod enc P W base spare held fuel t cs = some x →
    (x.1.weights P t).all (· ≤ reachBytes) = true → Opens P G W n t cs
  | 0, _, _, _, _, hp, _, _ => by simp [plainT] at hp
  | n + 1, t, fuel, cs, x, hp, ht, hs => by
    intro bs
    have hp0 := hp
    unfold plainT at hp
    split at hp
    · rename_i hu
      obtain ⟨b, rfl, rfl⟩ := DataW.trod_bool hu ht
      refine ⟨[], [.bool b], (fun b hb => by cases hb), .cons (.bool b) .nil, ?_⟩
      unfold Rd
      rw [hu]
      exact ⟨b, rfl⟩
    · rename_i k hu
      obtain ⟨a, rfl, rfl, hw⟩ := DataW.trod_int hu ht
      refine ⟨[], [.int k a], (fun b hb => by cases hb), .cons (.int k a) .nil, ?_⟩
      unfold Rd
      rw [hu]
      exact ⟨a, rfl, hw⟩
    · rename_i hu
      obtain ⟨s, rfl, rfl, _⟩ := DataW.trod_string hu ht
      have hsz : s.data.toList.length ≤ reachBytes := by
        have := List.all_eq_true.1 hs s.data.toList.length (by simp [DataW.weights])
        simpa using this
      have hb : s = bstr s.data.toList := by
        unfold bstr
        cases s
        simp
      refine ⟨[], [.string s], (fun b hb => by cases hb), .cons (.string s) .nil, ?_⟩
      unfold Rd
      rw [hu]
      exact ⟨s.data.toList, by rw [← hb], hsz⟩
    · rename_i e hu
      simp only [Bool.and_eq_true, beq_iff_eq, Nat.blt_eq] at hp
      obtain ⟨⟨hc1, hc0⟩, hpe⟩ := hp
      rcases DataW.trod_slice hu ht with ⟨rfl, rfl⟩ | ⟨a, len, cap, elems, rest, m, _, rfl, rfl, hb, hl, hm, hlen, hel, hsp, hns⟩
      · refine ⟨[], [.slice none 0 0], (fun b hb => by cases hb), .cons .nilSlice .nil, ?_⟩
        unfold Rd
        rw [hu]
        exact .inl rfl
      · have hws : ∀ y ∈ elems, (y.1.weights P e).all (· ≤ reachBytes) = true := by
          intro y hy
          refine List.all_eq_true.2 fun q hq => ?_
          refine List.all_eq_true.1 hs q ?_
          simp only [DataW.weights, hu]
          refine List.mem_cons_of_mem _ (List.mem_append_left _ ?_)
          exact weightsAll_in (List.mem_map.2 ⟨y, hy, rfl⟩) q hq
        have hsz : len * P.bytesOf e ≤ reachBytes := by
          have := List.all_eq_true.1 hs ((elems.length + rest.length) * P.bytesOf e) (by simp [DataW.weights, hu])
          have h2 : elems.length * P.bytesOf e ≤ (elems.length + rest.length) * P.bytesOf e := Nat.mul_le_mul_right _ (by omega)
          rw [hlen] at h2
          have h3 : (elems.length + rest.length) * P.bytesOf e ≤ reachBytes := of_decide_eq_true this
          rw [hlen] at h3
          omega
        have hget : ∀ i, i < len → ∃ ci y, W.cells? base (a.add (i * P.cellsOf e)) (P.cellsOf e) = some ci ∧ elems[i]? = some y ∧ DataW.trod enc P W base spare held m e ci = some y := by
          intro i hi
          have h1 := hel i hi
          rw [List.getElem?_eq_getElem (by omega)] at h1
          obtain ⟨ci, q1, q2⟩ := Option.bind_eq_some_iff.1 h1
          exact ⟨ci, elems[i], q1, List.getElem?_eq_getElem (by omega), q2⟩
        let items : List (TypeId × List Value) := (List.range len).map fun i => (e, (W.cells? base (a.add (i * P.cellsOf e)) (P.cellsOf e)).getD [])
        have hitems : ∀ y ∈ items, Opens P G W n y.1 y.2 := by
          intro y hy
          obtain ⟨i, hi, rfl⟩ := List.mem_map.1 hy
          obtain ⟨ci, z, q1, q2, q3⟩ := hget i (List.mem_range.1 hi)
          show Opens P G W n e _
          rw [q1]
          exact opens hall n e m ci z hpe q3 (hws z (List.mem_of_getElem? q2))
        obtain ⟨b1, avs, r1, l1, q⟩ := opens_list items hitems bs
        have hil : items.length = len := by simp [items]
        rw [hil] at l1
        have hit : ∀ (k : Nat), k < len → ∃ ci, items[k]? = some (e, ci) ∧ W.cells? base (a.add (k * P.cellsOf e)) (P.cellsOf e) = some ci := by
          intro k hk
          obtain ⟨ci, z, q1, _, _⟩ := hget k hk
          refine ⟨ci, ?_, q1⟩
          simp only [items, List.getElem?_map, List.getElem?_range hk, Option.map_some, q1, Option.getD_some]
        have hal : ∀ l ∈ avs, l.length = P.cellsOf e := by
          intro l hl'
          obtain ⟨k, hk⟩ := List.getElem?_of_mem hl'
          have hkl : k < len := by have := (List.getElem?_eq_some_iff.1 hk).1; omega
          obtain ⟨ci, q1, q2⟩ := hit k hkl
          exact plainT_len hpe (q k _ _ q1 hk).2
        have hfl := flat_len hal
        let blk : RoB := ⟨avs.flatten, if cap = 0 then ⟨0, 0, none⟩ else a⟩
        have hcell : ∀ (j : Nat) v, avs.flatten[j]? = some v → ∃ c, W.cell? (a.add j) = some c ∧ VRel (roRen G (bs ++ b1)) (G + (bs ++ b1).length) v c := by
          intro j v hj
          rw [flat_get hc0 hal] at hj
          obtain ⟨l, h1, h2⟩ := Option.bind_eq_some_iff.1 hj
          have hkl : j / P.cellsOf e < len := by have := (List.getElem?_eq_some_iff.1 h1).1; omega
          obtain ⟨ci, q1, q2⟩ := hit _ hkl
          obtain ⟨c, hc, hv⟩ := (q _ _ _ q1 h1).1.get h2
          refine ⟨c, ?_, hv⟩
          obtain ⟨_, _, g3⟩ := World.cells?_some q2
          have := g3 (j % P.cellsOf e) (Nat.mod_lt _ hc0)
          rw [hc] at this
          rw [← this, Go.Deep.add_add, Nat.mul_comm, Nat.div_add_mod]
        have hspot : cap ≠ 0 → a.spot = none := by
          intro hcap
          have hz : ∃ ci, W.cells? base (a.add (0 * P.cellsOf e)) (P.cellsOf e) = some ci := by
            by_cases hl0 : len = 0
            · obtain ⟨hr1, hr2⟩ := hsp (hall _)
              have := hr2 0 (by omega)
              rw [List.getElem?_eq_getElem (by omega)] at this
              simp only [hl0, Nat.add_zero] at this
              obtain ⟨ci, q1, _⟩ := Option.bind_eq_some_iff.1 this
              exact ⟨ci, q1⟩
            · obtain ⟨ci, z, q1, _⟩ := hget 0 (by omega)
              exact ⟨ci, q1⟩
          obtain ⟨ci, q1⟩ := hz
          obtain ⟨_, g2, g3⟩ := World.cells?_some q1
          have g4 := g3 0 hc0
          rw [List.getElem?_eq_getElem (by omega), Nat.zero_mul] at g4
          rw [Go.Deep.add_add] at g4
          exact spot_of g4
        have hq : (bs ++ (b1 ++ [blk]))[bs.length + b1.length]? = some blk := by
          rw [List.getElem?_append_right (by omega), List.getElem?_append_right (by omega)]
          simp
        have hren : roRen G (bs ++ (b1 ++ [blk])) (G + (bs.length + b1.length)) = ⟨blk.at_.block, blk.at_.off, 0⟩ := by
          unfold roRen
          rw [if_neg (by omega), show G + (bs.length + b1.length) - G = bs.length + b1.length by omega, hq]
        refine ⟨b1 ++ [blk], [.slice (some ⟨G + (bs.length + b1.length), 0, none⟩) len (if cap = len then len else len + 1)], ?_, ?_, ?_⟩
        · rw [← List.append_assoc]
          refine r1.app.two fun b hb => ?_
          rw [List.mem_singleton.1 hb]
          by_cases hcap : cap = 0
          · have hz : avs.flatten = [] := List.eq_nil_of_length_eq_zero (by rw [hfl, l1, show len = 0 by omega]; simp)
            refine ⟨by show (if cap = 0 then _ else a : Addr).spot = none; rw [if_pos hcap], fun k v hk => ?_⟩
            replace hk : avs.flatten[k]? = some v := hk
            rw [hz] at hk
            simp at hk
          · refine ⟨by show (if cap = 0 then _ else a : Addr).spot = none; rw [if_neg hcap]; exact hspot hcap, fun k v hk => ?_⟩
            obtain ⟨c, hc, hv⟩ := hcell k v hk
            refine ⟨c, ?_, hv.mono roRen_app (by simp)⟩
            show W.cell? ((if cap = 0 then _ else a : Addr).add k) = some c
            rw [if_neg hcap]
            exact hc
        · refine .cons (.slice _ _ _ _ _ _ _ (by simp) ?_ hl ?_ ?_ hm (by intro t ht; cases ht)) .nil
          · split <;> omega
          · simp only [maxLen] at hm
            split
            · exact ⟨fun _ => by omega, fun e => by omega⟩
            · exact ⟨fun e => by omega, fun e => by omega⟩
          · by_cases hcap : cap = 0
            · exact .inr hcap
            · left
              rw [hren]
              have h1 := hspot hcap
              show a = ⟨(if cap = 0 then _ else a : Addr).block, (if cap = 0 then _ else a : Addr).off + 0, none⟩
              rw [if_neg hcap]
              cases a
              simp only at h1
              subst h1
              rfl
        · unfold Rd
          rw [hu]
          right
          refine ⟨_, len, _, avs.flatten, rfl, hsz, by rw [hfl, l1], fun hne => ?_, fun k hk => ?_⟩
          · show (if _ < G then none else ((bs ++ (b1 ++ [blk]))[_]?).bind _) = _
            rw [if_neg (by omega), show G + (bs.length + b1.length) - G = bs.length + b1.length by omega, hq]
            show (if avs.flatten.isEmpty then none else some (⟨avs.flatten, 0, false⟩ : Blk)) = _
            rw [if_neg (by simpa using hne)]
          · obtain ⟨l, hk2⟩ : ∃ l, avs[k]? = some l := ⟨_, List.getElem?_eq_getElem (by omega)⟩
            rw [flat_chunk hal hk2]
            obtain ⟨ci, q1, _⟩ := hit k hk
            have := (q k _ _ q1 hk2).2
            rw [← List.append_assoc]
            exact this.ext roHeap_ext
    · rename_i fs hu
      simp only [Bool.and_eq_true, beq_iff_eq] at hp
      obtain ⟨hlay, hpf⟩ := hp
      obtain ⟨xs, m, _, rfl, hcl, hxl, hx⟩ := DataW.trod_struct hu ht
      let items : List (TypeId × List Value) := fs.toList.map fun f => (f.type, (cs.drop f.offset).take (P.cellsOf f.type))
      have hxt : ∀ (k : Nat) f, fs.toList[k]? = some f → ∃ y, xs[k]? = some y ∧ DataW.trod enc P W base spare held m f.type ((cs.drop f.offset).take (P.cellsOf f.type)) = some y := by
        intro k f hf
        have h1 := hx k f (by simpa using hf)
        have hk := (List.getElem?_eq_some_iff.1 hf).1
        rw [List.getElem?_eq_getElem (by simp at hk; omega)] at h1
        exact ⟨_, List.getElem?_eq_getElem (by simp at hk; omega), h1⟩
      have hwe : ∀ (k : Nat) f y, fs.toList[k]? = some f → xs[k]? = some y → (y.1.weights P f.type).all (· ≤ reachBytes) = true := by
        intro k f y hf hy
        refine List.all_eq_true.2 fun q hq => ?_
        refine List.all_eq_true.1 hs q ?_
        simp only [DataW.weights, hu]
        exact DataW.weights_mem_each (j := k) (t := f.type) (d := y.1) (by simp only [List.getElem?_map, hf, Option.map_some]) (by simp [List.getElem?_map, hy]) q hq
      have hitems : ∀ y ∈ items, Opens P G W n y.1 y.2 := by
        intro y hy
        obtain ⟨f, hf, rfl⟩ := List.mem_map.1 hy
        obtain ⟨k, hk⟩ := List.getElem?_of_mem hf
        obtain ⟨z, h1, h2⟩ := hxt k f hk
        exact opens hall n f.type m _ z (List.all_eq_true.1 hpf f hf) h2 (hwe k f z hk h1)
      obtain ⟨b1, avs, r1, l1, q⟩ := opens_list items hitems bs
      have hal : ∀ (k : Nat) f a, fs.toList[k]? = some f → avs[k]? = some a → VRels (roRen G (bs ++ b1)) (G + (bs ++ b1).length) a ((cs.drop f.offset).take (P.cellsOf f.type)) ∧ Rd P (roHeap G (bs ++ b1)) n f.type a ∧ a.length = P.cellsOf f.type := by
        intro k f a hf ha
        obtain ⟨h1, h2⟩ := q k (f.type, (cs.drop f.offset).take (P.cellsOf f.type)) a (by simp only [items, List.getElem?_map, hf, Option.map_some]) ha
        exact ⟨h1, h2, plainT_len (List.all_eq_true.1 hpf f (List.mem_of_getElem? hf)) h2⟩
      obtain ⟨hf1, _⟩ := laysF_flat (cs := cs) hlay (by omega)
      rw [List.drop_zero, Nat.sub_zero, List.take_of_length_le (by omega)] at hf1
      have hlens : avs.map List.length = fs.toList.map fun f => P.cellsOf f.type := by
        apply List.ext_getElem?
        intro k
        rw [List.getElem?_map, List.getElem?_map]
        cases hk : fs.toList[k]? with
        | none =>
          have : avs[k]? = none := by
            rw [List.getElem?_eq_none_iff] at hk ⊢
            simp [items] at l1
            simp at hk
            omega
          rw [this]; rfl
        | some f =>
          have hkl := (List.getElem?_eq_some_iff.1 hk).1
          have : ∃ a, avs[k]? = some a := ⟨_, List.getElem?_eq_getElem (by simp [items] at l1; simp at hkl; omega)⟩
          obtain ⟨a, ha⟩ := this
          rw [ha]
          simp [(hal k f a hk ha).2.2]
      refine ⟨b1, avs.flatten, r1, ?_, ?_⟩
      · rw [← hf1]
        refine VRels.flat (by simpa [items] using l1) fun k a c ha hc => ?_
        rw [List.getElem?_map] at hc
        cases hk : fs.toList[k]? with
        | none => rw [hk] at hc; cases hc
        | some f =>
          rw [hk] at hc
          simp only [Option.map_some, Option.some.injEq] at hc
          subst hc
          exact (hal k f a hk ha).1
      · unfold Rd
        rw [hu]
        refine ⟨?_, fun f hf => ?_⟩
        · rw [List.length_flatten, hlens]
          have := laysF_len hlay
          omega
        · obtain ⟨k, hk⟩ := List.getElem?_of_mem hf
          have hkl := (List.getElem?_eq_some_iff.1 hk).1
          obtain ⟨a, ha⟩ : ∃ a, avs[k]? = some a := ⟨_, List.getElem?_eq_getElem (by simp [items] at l1; simp at hkl; omega)⟩
          have h1 := laysF_off hlay k f hk
          have h2 := flat_piece ha
          rw [List.map_take, hlens, ← List.map_take, (hal k f a hk ha).2.2] at h2
          rw [h1, Nat.zero_add, h2]
          exact (hal k f a hk ha).2.1
    · rename_i m e hu
      simp only [Bool.and_eq_true, beq_iff_eq] at hp
      obtain ⟨hce, hpe⟩ := hp
      obtain ⟨xs, fu, _, rfl, hcl, hxl, hx⟩ := DataW.trod_array hu ht
      let items : List (TypeId × List Value) := (List.range m).map fun k => (e, (cs.drop (k * P.cellsOf e)).take (P.cellsOf e))
      have hxt : ∀ k, k < m → ∃ y, xs[k]? = some y ∧ DataW.trod enc P W base spare held fu e ((cs.drop (k * P.cellsOf e)).take (P.cellsOf e)) = some y := by
        intro k hk
        have h1 := hx k hk
        rw [List.getElem?_eq_getElem (by omega)] at h1
        exact ⟨_, List.getElem?_eq_getElem (by omega), h1⟩
      have hws : ∀ y ∈ xs, (y.1.weights P e).all (· ≤ reachBytes) = true := by
        intro y hy
        refine List.all_eq_true.2 fun q hq => ?_
        refine List.all_eq_true.1 hs q ?_
        simp only [DataW.weights, hu]
        exact weightsAll_in (List.mem_map.2 ⟨y, hy, rfl⟩) q hq
      have hitems : ∀ y ∈ items, Opens P G W n y.1 y.2 := by
        intro y hy
        obtain ⟨k, hk, rfl⟩ := List.mem_map.1 hy
        obtain ⟨z, h1, h2⟩ := hxt k (List.mem_range.1 hk)
        exact opens hall n e fu _ z hpe h2 (hws z (List.mem_of_getElem? h1))
      obtain ⟨b1, avs, r1, l1, q⟩ := opens_list items hitems bs
      have hil : items.length = m := by simp [items]
      rw [hil] at l1
      have hal : ∀ (k : Nat) a, k < m → avs[k]? = some a → VRels (roRen G (bs ++ b1)) (G + (bs ++ b1).length) a ((cs.drop (k * P.cellsOf e)).take (P.cellsOf e)) ∧ Rd P (roHeap G (bs ++ b1)) n e a := by
        intro k a hk ha
        exact q k (e, (cs.drop (k * P.cellsOf e)).take (P.cellsOf e)) a (by simp only [items, List.getElem?_map, List.getElem?_range hk, Option.map_some]) ha
      have hall : ∀ l ∈ avs, l.length = P.cellsOf e := by
        intro l hl
        obtain ⟨k, hk⟩ := List.getElem?_of_mem hl
        exact plainT_len hpe (hal k l (by have := (List.getElem?_eq_some_iff.1 hk).1; omega) hk).2
      have hcs : ((List.range m).map fun k => (cs.drop (k * P.cellsOf e)).take (P.cellsOf e)).flatten = cs := chunks_flat (by omega)
      refine ⟨b1, avs.flatten, r1, ?_, ?_⟩
      · conv => arg 4; rw [← hcs]
        refine VRels.flat (by simpa using l1) fun k a c ha hc => ?_
        have hk : k < m := by have := (List.getElem?_eq_some_iff.1 ha).1; omega
        rw [List.getElem?_map, List.getElem?_range hk] at hc
        simp only [Option.map_some, Option.some.injEq] at hc
        subst hc
        exact (hal k a hk ha).1
      · unfold Rd
        rw [hu]
        refine ⟨by rw [flat_len hall, l1, hce], fun k hk => ?_⟩
        obtain ⟨a, ha⟩ : ∃ a, avs[k]? = some a := ⟨_, List.getElem?_eq_getElem (by omega)⟩
        rw [flat_chunk hall ha]
        exact (hal k a hk ha).2
    · cases hp
end
end
end Go.Eng
/-
  The engine: slices whose elements have several cells.
-/
namespace Go.Eng
open Go
section
variable {P : Program} {ρ : Operand → Value} {h : Heap} {K : Value → Heap → Prop} {dst : Option Tmp} {ty : TypeId} {pos : String} {aft : Array Edge} {g : Option (Nat × Bool)}
structure RN (c : Nat) (h : Heap) (v : Value) (rows : List (List Value)) : Prop where
  len : ∀ r ∈ rows, r.length = c
  at_ : (v = .slice none 0 0 ∧ rows = []) ∨ ∃ i o s cap, v = .slice (some ⟨i, o, s⟩) rows.length cap ∧ (s = none ∨ s = some c) ∧ (rows ≠ [] → ∃ b, h.get i = some b ∧ o + rows.length * c ≤ b.cells.length ∧ (b.cells.drop o).take (rows.length * c) = rows.flatten)
def PR (h : Heap) (p : Value) (row : List Value) : Prop := ∃ i o s b, p = .pointer (some ⟨i, o, s⟩) ∧ h.get i = some b ∧ o + row.length ≤ b.cells.length ∧ (b.cells.drop o).take row.length = row
theorem RN.ext {c : Nat} {h h' : Heap} {v : Value} {rows : List (List Value)} (r : RN c h v rows) (hx : Ext h h') : RN c h' v rows :=
  ⟨r.len, r.at_.imp id fun ⟨i, o, s, cap, h1, h2, h3⟩ => ⟨i, o, s, cap, h1, h2, fun hv => by obtain ⟨b, h4, h5⟩ := h3 hv; exact ⟨b, hx.c i b h4, h5⟩⟩⟩
theorem RN.nil (c : Nat) (h : Heap) : RN c h (.slice none 0 0) [] := ⟨by simp, .inl ⟨rfl, rfl⟩⟩
theorem RN.slice {c : Nat} {v : Value} {rows : List (List Value)} (r : RN c h v rows) : ∃ a k, v = .slice a rows.length k := by
  rcases r.at_ with ⟨rfl, rfl⟩ | ⟨i, o, s, cap, h1, _⟩
  · exact ⟨none, 0, rfl⟩
  · exact ⟨_, cap, h1⟩
theorem RN.own {c i n cap : Nat} {e : TypeId} {w : Bool} {rows : List (List Value)} (hl : ∀ r ∈ rows, r.length = c) (hi : h.get i = some ⟨rows.flatten, e, w⟩) (hn : rows.length = n) : RN c h (.slice (some ⟨i, 0, some c⟩) n cap) rows := by
  subst hn
  have := flat_len hl
  exact ⟨hl, .inr ⟨i, 0, some c, cap, rfl, .inr rfl, fun _ => ⟨_, hi, by simp only [Nat.zero_add]; omega, by simp only [List.drop_zero]; rw [List.take_of_length_le (by omega)]⟩⟩⟩
theorem RN.row1 {c i k : Nat} {e : TypeId} {w : Bool} {row : List Value} (hl : row.length = c) (hi : h.get i = some ⟨row, e, w⟩) : RN c h (.slice (some ⟨i, 0, some c⟩) 1 k) [row] :=
  RN.own (rows := [row]) (by intro r hr; rw [List.mem_singleton.1 hr]; exact hl) (by simpa using hi) rfl
theorem RN.src {c : Nat} {v : Value} {rows : List (List Value)} (r : RN c h v rows) : Src h c v rows.length rows.flatten := by
  rcases r.at_ with ⟨rfl, rfl⟩ | ⟨i, o, s, cap, rfl, hs, hb⟩
  · exact .nil
  · by_cases hv : rows = []
    · subst hv; exact .empty _ _
    · obtain ⟨b, h1, h2, h3⟩ := hb hv
      have := Src.slice (h := h) (sz := c) i o s rows.length cap b h1 h2
      rw [h3] at this
      exact this
def vblk : Value → Option Nat
  | .slice (some a) _ _ => some a.block
  | _ => none
def ptrN (c : Nat) (v : Value) (a : Int) : Value :=
  match v with
  | .slice (some ⟨i, o, _⟩) _ _ => .pointer (some ⟨i, o + a.toNat * c, none⟩)
  | _ => undef
theorem RN.elt {c : Nat} {v : Value} {rows : List (List Value)} (r : RN c h v rows) {a : Int} {u : List Value} (hu : rows[a.toNat]? = some u) : PR h (ptrN c v a) u := by
  have hl := (List.getElem?_eq_some_iff.1 hu).1
  have hul := r.len u (List.mem_of_getElem? hu)
  rcases r.at_ with ⟨rfl, rfl⟩ | ⟨i, o, s, cap, rfl, hs, hb⟩
  · simp at hl
  · obtain ⟨b, h1, h2, h3⟩ := hb (by intro e; subst e; simp at hl)
    have h4 := flat_chunk r.len hu
    have h5 : a.toNat * c + c ≤ rows.length * c := by have := Nat.mul_le_mul_right c (show a.toNat + 1 ≤ rows.length from hl); rw [Nat.add_mul] at this; omega
    refine ⟨i, o + a.toNat * c, none, b, rfl, h1, by omega, ?_⟩
    rw [hul, ← List.drop_drop]
    rw [← h3, List.drop_take, List.take_take, Nat.min_eq_left (by omega)] at h4
    exact h4
theorem op_lenN {c : Nat} {x : Operand} {t e : TypeId} {v : Value} {rows : List (List Value)} [td : TyD P t (.slice e)] (r : RN c h v rows) (hx : ρ x = v) (kk : K (.int .i64 rows.length) h) :
    AOp P ⟨dst, .call ⟨.builtin .len, #[x], #[t]⟩, ty, pos, aft, g⟩ ρ h K := by
  obtain ⟨a, k, e⟩ := r.slice
  exact op_lenS (hx.trans e) kk
theorem op_indexND {c : Nat} {t e : TypeId} {x y : Operand} {by_ : Nat} {z v : Value} {u : List Value} {k : IntKind} {a : Int} {rows : List (List Value)} [td : TyD P t (.slice e)] [ti : TyI P e c by_ z] (r : RN c h v rows) (hx : ρ x = v) (hy : ρ y = .int k a) (h0 : 0 ≤ a)
    (hu : rows[a.toNat]? = some u) (kk : K (ptrN c v a) h) : AOp P ⟨dst, .indexAddr t x y, ty, pos, aft, g⟩ ρ h K := by
  have hl := (List.getElem?_eq_some_iff.1 hu).1
  rcases r.at_ with ⟨rfl, rfl⟩ | ⟨i, o, s, cap, rfl, hs, hb⟩
  · simp at hl
  · exact op_indexS hx hy h0 (by omega) kk
def offP (p : Value) (off : Nat) : Value :=
  match p with
  | .pointer (some ⟨i, o, _⟩) => .pointer (some ⟨i, o + off, none⟩)
  | _ => undef
theorem PR.field {p : Value} {row : List Value} (r : PR h p row) {off : Nat} {u : Value} (hu : row[off]? = some u) : PT h (offP p off) u := by
  obtain ⟨i, o, s, b, rfl, h1, h2, h3⟩ := r
  have hl := (List.getElem?_eq_some_iff.1 hu).1
  refine ⟨i, o + off, none, b, rfl, h1, ?_⟩
  rw [← h3, List.getElem?_take_of_lt hl, List.getElem?_drop] at hu
  exact hu
theorem op_faN {t : TypeId} {x : Operand} {f off : Nat} {p : Value} {row : List Value} [fa : FAd P t f off] (r : PR h p row) (hx : ρ x = p) (kk : K (offP p off) h) : AOp P ⟨dst, .fieldAddr t x f, ty, pos, aft, g⟩ ρ h K := by
  obtain ⟨i, o, s, b, rfl, _⟩ := r
  exact op_fa hx kk
theorem op_loadF0 {t : TypeId} {x : Operand} {p u : Value} {row : List Value} {off : Nat} {d : TypeDesc} [td : TyD P t d] (r : PR h p row) (hx : ρ x = offP p off) (hu : row[off]? = some u) (ha : aggB d = false) (kk : K u h) : AOp P ⟨dst, .load t x, ty, pos, aft, g⟩ ρ h K :=
  op_loadR (r.field hu) hx ha kk
theorem op_loadN {t : TypeId} {c by_ : Nat} {z : Value} {x : Operand} {p : Value} {row : List Value} {d : TypeDesc} [td : TyD P t d] [ti : TyI P t c by_ z] (r : PR h p row) (hc : row.length = c) (hx : ρ x = p) (ha : aggB d = true) (kk : K (.agg row.toArray) h) : AOp P ⟨dst, .load t x, ty, pos, aft, g⟩ ρ h K := by
  obtain ⟨i, o, s, b, rfl, h1, h2, h3⟩ := r
  subst hc
  exact op_loadA hx ha h1 h2 (by rw [h3]; exact kk)
def subN (c : Nat) (v : Value) (l m : Int) : Value :=
  match v with
  | .slice (some ⟨i, o, s⟩) _ k => .slice (some ⟨i, o + l.toNat * c, s⟩) (m - l).toNat (k - l.toNat)
  | _ => .slice none 0 0
theorem RN.sub {c : Nat} {v : Value} {rows : List (List Value)} {l m : Int} (r : RN c h v rows) (h0 : 0 ≤ l) (h1 : l ≤ m) (h2 : m ≤ rows.length) : RN c h (subN c v l m) ((rows.take m.toNat).drop l.toNat) := by
  refine ⟨fun x hx => r.len x (List.mem_of_mem_take (List.mem_of_mem_drop hx)), ?_⟩
  rcases r.at_ with ⟨rfl, rfl⟩ | ⟨i, o, s, cap, rfl, hs, hb⟩
  · exact .inl ⟨rfl, by simp⟩
  · have hlen : ((rows.take m.toNat).drop l.toNat).length = (m - l).toNat := by simp; omega
    refine .inr ⟨i, o + l.toNat * c, s, cap - l.toNat, by rw [hlen]; rfl, hs, fun hne => ?_⟩
    have hv : rows ≠ [] := by intro e; subst e; simp at hne
    obtain ⟨b, q1, q2, q3⟩ := hb hv
    have hmc : m.toNat * c ≤ rows.length * c := Nat.mul_le_mul_right _ (by omega)
    have hlm : l.toNat * c + (m - l).toNat * c = m.toNat * c := by rw [← Nat.add_mul]; congr 1; omega
    refine ⟨b, q1, by rw [hlen]; omega, ?_⟩
    rw [hlen]
    have e1 : ∀ (L : List (List Value)) (k : Nat), (∀ x ∈ L, x.length = c) → k ≤ L.length → L.flatten.take (k * c) = (L.take k).flatten ∧ L.flatten.drop (k * c) = (L.drop k).flatten := by
      intro L k hL hk
      have hf : (L.take k).flatten.length = k * c := by rw [flat_len (fun x hx => hL x (List.mem_of_mem_take hx)), List.length_take, Nat.min_eq_left hk]
      have e : L.flatten = (L.take k).flatten ++ (L.drop k).flatten := by rw [← List.flatten_append, List.take_append_drop]
      rw [e, List.take_append_of_le_length (by omega), List.take_of_length_le (by omega), List.drop_append_of_le_length (by omega), List.drop_of_length_le (by omega)]
      exact ⟨rfl, rfl⟩
    have f1 := (e1 rows m.toNat r.len (by omega)).1
    have f2 := (e1 (rows.take m.toNat) l.toNat (fun x hx => r.len x (List.mem_of_mem_take hx)) (by rw [List.length_take]; omega)).2
    rw [← f2, ← f1, ← q3, List.take_take, Nat.min_eq_left hmc, List.drop_take, List.drop_drop]
    congr 1
    omega
theorem op_sliceN {c : Nat} {t e : TypeId} {x : Operand} {lo hi : Option Operand} {by_ : Nat} {z v : Value} {l m : Int} {rows : List (List Value)} [td : TyD P t (.slice e)] [ti : TyI P e c by_ z] (r : RN c h v rows) (hx : ρ x = v)
    (hl : bnd ρ lo 0 = some l) (hm : bnd ρ hi rows.length = some m) (h0 : 0 ≤ l) (h1 : l ≤ m) (h2 : m ≤ rows.length) (kk : K (subN c v l m) h) : AOp P ⟨dst, .slice t x lo hi none, ty, pos, aft, g⟩ ρ h K := by
  rcases r.at_ with ⟨rfl, rfl⟩ | ⟨i, o, s, cap, rfl, hs, hb⟩
  · simp only [List.length_nil] at h2 hm
    obtain rfl : l = 0 := by omega
    obtain rfl : m = 0 := by omega
    exact op_sliceNil hx hl hm kk
  · exact op_slice hx hl hm h0 h1 h2 hs kk
def Shp (c : Nat) (v : Value) (n : Nat) : Prop := (v = .slice none 0 0 ∧ n = 0) ∨ ∃ i o s cap, v = .slice (some ⟨i, o, s⟩) n cap ∧ (s = none ∨ s = some c)
structure ON (B c : Nat) (h : Heap) (e : TypeId) (v : Value) (rows : List (List Value)) : Prop where
  len : ∀ r ∈ rows, r.length = c
  at_ : (v = .slice none 0 0 ∧ rows = []) ∨ ∃ i cap, B ≤ i ∧ v = .slice (some ⟨i, 0, some c⟩) rows.length cap ∧ h.get i = some ⟨rows.flatten, e, true⟩
section
variable {B c : Nat} {e : TypeId} {v : Value} {rows : List (List Value)} {h' : Heap}
theorem ON.rn (r : ON B c h e v rows) : RN c h v rows := by
  rcases r.at_ with ⟨rfl, rfl⟩ | ⟨i, cap, _, rfl, hi⟩
  · exact RN.nil c h
  · exact RN.own r.len hi rfl
theorem ON.nil (B c : Nat) (h : Heap) (e : TypeId) : ON B c h e (.slice none 0 0) [] := ⟨by simp, .inl ⟨rfl, rfl⟩⟩
theorem ON.ext (r : ON B c h e v rows) (hx : Ext h h') : ON B c h' e v rows :=
  ⟨r.len, r.at_.imp id fun ⟨i, cap, h1, h2, h3⟩ => ⟨i, cap, h1, h2, hx.c _ _ h3⟩⟩
theorem ON.one (r : ON B c h e v rows) : oneB v = true := by
  rcases r.at_ with ⟨rfl, _⟩ | ⟨i', cap, hi', rfl, _⟩ <;> rfl
theorem RN.one {c : Nat} {v : Value} {rows : List (List Value)} (r : RN c h v rows) : oneB v = true := by
  rcases r.at_ with ⟨rfl, _⟩ | ⟨i', o, s, cap, rfl, _⟩ <;> rfl
theorem Keeps.extN {h0 : Heap} (k : Keeps v h h') (r : ON B c h e v rows) (wf0 : WF h0) (hB : h0.next ≤ B) (hx : Ext h0 h) : Ext h0 h' := by
  refine ⟨fun j b hj => ?_, fun j o hj => k.o j o (hx.o j o hj)⟩
  refine k.c j b (hx.c j b hj) fun s n c' hv => ?_
  have hlt := wf0.lt hj
  rcases r.at_ with ⟨rfl, _⟩ | ⟨i, cap, hi, rfl, _⟩
  · cases hv
  · cases hv; omega
end
theorem op_appendN {t t2 e : TypeId} {d2 : TypeDesc} {x y : Operand} {c by_ B m : Nat} {z u v : Value} {rows news : List (List Value)} [td : TyD P t (.slice e)] [t2d : TyD P t2 d2] [ti : TyI P e c by_ z] (hd2 : appB d2 = true) (wf : WF h) (hB : B ≤ h.next)
    (r : ON B c h e u rows) (hx : ρ x = u) (hy : ρ y = v) (hs : Src h c v m news.flatten) (hm : news.length = m) (hl : ∀ r ∈ news, r.length = c) (hone : news.flatten.all oneB = true) (h1 : rows.length + m ≤ maxLen) (h2 : (rows.length + m) * by_ ≤ 140737488355328)
    (kk : ∀ u' h', ON B c h' e u' (rows ++ news) → (∀ j s n k, u' = .slice (some ⟨j, 0, s⟩) n k → h.next ≤ j) → Keeps u h h' → WF h' → h.next ≤ h'.next → K u' h') : AOp P ⟨dst, .call ⟨.builtin .append, #[x, y], #[t, t2]⟩, ty, pos, aft, g⟩ ρ h K := by
  have hlen : ∀ r' ∈ rows ++ news, r'.length = c := fun r' hr => (List.mem_append.1 hr).elim (r.len r') (hl r')
  rcases r.at_ with ⟨rfl, rfl⟩ | ⟨i, cap, hBi, rfl, hi⟩
  · refine op_appendNil (z := z) hd2 hx hy hs (by simpa using h1) (by simpa using h2) (fun hm0 => ?_) (fun hm0 => ?_)
    · have : news = [] := List.eq_nil_of_length_eq_zero (by omega)
      subst this
      exact kk _ _ ⟨hlen, .inl ⟨rfl, rfl⟩⟩ (fun j s n k e => by cases e) ⟨fun j b hj _ => hj, fun j b hj => hj⟩ wf (Nat.le_refl _)
    · exact kk _ _ ⟨hlen, .inr ⟨h.next, m + 1, hB, by simp [hm], by simp [Heap.alloc_new]⟩⟩ (fun j s n k e => by cases e; exact Nat.le_refl _) ⟨fun j b hj _ => (wf.ext _).c j b hj, fun j b hj => hj⟩ (wf.alloc _) (by simp [Heap.alloc])
  · refine op_append (z := z) hd2 hx hy hi rfl rfl (flat_len r.len) hs hone h1 h2 ?_
    refine kk _ _ ⟨hlen, .inr ⟨h.next, rows.length + m + 1, hB, by simp [hm], by rw [Heap.kill_alloc_new, List.flatten_append]⟩⟩ (fun j s n k e => by cases e; exact Nat.le_refl _) ⟨fun j b hj hne => ?_, fun j b hj => hj⟩ ((wf.kill i).alloc _) (by simp [Heap.alloc, Heap.kill])
    have := wf.lt hj
    rw [Heap.kill_alloc_old (by omega) (fun e => hne (some c) rows.length cap (by rw [e]))]
    exact hj
theorem op_buildSliceN {t e sz by_ : Nat} {z : Value} {len : Nat} {parts : Array (Nat × Operand)} {out : List Value} [td : TyD P t (.slice e)] [ti : TyI P e sz by_ z] (hl : len * sz ≤ 16777216) (hl0 : 0 < len) (hs0 : 0 < sz) (hu : ∀ p ∈ parts.toList, ρ p.2 ≠ undef)
    (hf : fillA (fun i => some (i * sz, sz)) ((List.range (len * sz)).map fun k => z.cells.toList.getD (k % sz) undef) (parts.toList.map fun p => (p.1, ρ p.2)) = some out) (hlen : out.length = len * sz)
    (kk : K (.slice (some ⟨h.next, 0, some sz⟩) len len) (h.alloc ⟨out, e, true⟩)) : AOp P ⟨dst, .buildSlice t len parts, ty, pos, aft, g⟩ ρ h K :=
  .of_run fun φ ac w r => by
    have hzs : z.cells.size = sz := ti.sz
    have hzp := ti.plain
    have hget : ∀ k, z.cells.toList.getD (k % sz) undef = z.cells[k % z.cells.size]! := by
      intro k
      have hk : k % sz < z.cells.size := by rw [hzs]; exact Nat.mod_lt _ hs0
      rw [hzs, getElem!_pos z.cells (k % sz) hk]
      simp [List.getD_eq_getElem?_getD, hk]
    have hinit : (Array.map (fun x => z.cells[x % z.cells.size]!) (Array.range (len * sz))).toList = (List.range (len * sz)).map fun k => z.cells.toList.getD (k % sz) undef := by
      rw [Array.toList_map, Array.toList_range]
      exact List.map_congr_left fun k _ => (hget k).symm
    obtain ⟨arr', h1, h2⟩ := fill_run (φ := φ) (n := h.next) (fun i => some (i * sz, sz)) ac parts.toList _ out (Array.map (fun x => z.cells[x % z.cells.size]!) (Array.range (len * sz))) (by
      rw [hinit]
      refine VRels.scalars (List.all_eq_true.2 fun v hv => ?_)
      obtain ⟨k, _, rfl⟩ := List.mem_map.1 hv
      have hk : k % sz < z.cells.toList.length := by rw [Array.length_toList, hzs]; exact Nat.mod_lt _ hs0
      rw [List.getD_eq_getElem?_getD, List.getElem?_eq_getElem hk]
      exact List.all_eq_true.1 hzp _ (List.getElem_mem hk)) (fun p hp => r.ev p.2 (by simp [Op.operands]; exact ⟨p.1, by simpa using hp⟩)) hu hf
    have hal : arr'.size = len * sz := by have := h2.length; simp at this; omega
    obtain ⟨s1, s2⟩ := r.sim.alloc out arr' e (0, 0) (.inl rfl) (by omega) h2.toArr
    have he : (parts.map fun (p : Nat × Operand) => (p.1, ac.eval p.2)).toList = parts.toList.map fun p => (p.1, ac.eval p.2) := by simp
    have hn0 : ¬ (len * sz = 0) := by
      have := Nat.mul_pos hl0 hs0
      omega
    have hrun : (Instr.buildSlice t len (parts.map fun (p : Nat × Operand) => (p.1, ac.eval p.2))).run P w = .ok (.slice (some ⟨w.heap.size, 0, none⟩) len len) (w.alloc (.cells arr' e)) := by
      have hb : ¬ (len * sz > 2 ^ 24) := by omega
      simp only [Instr.buildSlice, Sem.run_bind, td.run, Result.andThen_ok, ti.size, if_neg hb, if_neg hn0, ti.zero, Sem.run_pure, he]
      rw [h1]
      simp [newRow]
    refine ⟨_, _, _, _, _, by simp [execOp, hrun]; rfl, kk, ?_, s1, s2⟩
    have h3 : len * 1 ≤ len * sz := Nat.mul_le_mul_left _ hs0
    have h24 : len ≤ maxLen := by simp only [maxLen]; omega
    refine .newSlice (Nat.le_refl _) (Nat.le_refl _) ⟨fun _ => rfl, fun hb => by simp only [maxLen] at h24; omega⟩ h24 ?_
    intro t ht
    cases ht
    omega
theorem op_rowN1 {t e sz by_ : Nat} {z : Value} {x : Operand} {row : List Value} [td : TyD P t (.slice e)] [ti : TyI P e sz by_ z] (hl : sz ≤ 16777216) (hs0 : 0 < sz) (hx : ρ x = .agg row.toArray) (hr : row.length = sz)
    (kk : K (.slice (some ⟨h.next, 0, some sz⟩) 1 1) (h.alloc ⟨row, e, true⟩)) : AOp P ⟨dst, .buildSlice t 1 #[(0, x)], ty, pos, aft, g⟩ ρ h K := by
  refine op_buildSliceN (out := row) (by omega) (by omega) hs0 (fun p hp => ?_) ?_ (by omega) kk
  · simp only [List.mem_singleton] at hp
    rw [hp, hx]; intro e; cases e
  · show fillA _ _ [(0, ρ x)] = _
    rw [hx]
    have hc : (Value.agg row.toArray).cells = row.toArray := rfl
    simp only [fillA, hc, List.size_toArray, hr, Nat.zero_mul, List.length_map, List.length_range, Nat.one_mul, Nat.zero_add]
    rw [if_neg (by simp)]
    congr 1
    exact splice_all _ _ (by simp [hr])
end
end Go.Eng
/-
  The engine: slices with three indexes; append behind a full slice.
-/
namespace Go.Eng
open Go
section
variable {P : Program} {ρ : Operand → Value} {h : Heap} {K : Value → Heap → Prop} {dst : Option Tmp} {ty : TypeId} {pos : String} {aft : Array Edge} {g : Option (Nat × Bool)}
theorem run_sliceBounds3 {isS : Bool} {len cap : Nat} {hi mx : Operand} {m : Int} {ac : Act} {w : World} {k k' : IntKind} (hh : ac.eval hi = .int k m) (hm : ac.eval mx = .int k' m) (h0 : 0 ≤ m) (h1 : m ≤ (cap : Nat)) :
    (Instr.sliceBounds isS len cap none (some (ac.eval hi)) (some (ac.eval mx))).run P w = .ok (0, m.toNat, m.toNat) w := by
  simp only [Instr.sliceBounds, hh, hm]
  have h5 : m ≤ (m.toNat : Int) := by omega
  simp [run_sliceBound w h0 h1, run_sliceBound w h0 h5]
theorem op_sliceM {t e : TypeId} {x y y' : Operand} {i o len cap sz by_ : Nat} {z : Value} {s : Option Nat} {m : Int} {k k' : IntKind} [td : TyD P t (.slice e)] [ti : TyI P e sz by_ z]
    (hx : ρ x = .slice (some ⟨i, o, s⟩) len cap) (hy : ρ y = .int k m) (hy' : ρ y' = .int k' m) (h0 : 0 ≤ m) (h2 : m ≤ len)
    (kk : K (.slice (some ⟨i, o, none⟩) m.toNat m.toNat) h) : AOp P ⟨dst, .slice t x none (some y) (some y'), ty, pos, aft, g⟩ ρ h K :=
  .of_pure kk fun φ ac w r => by
    obtain ⟨cap', a', e1, hlt, q1, q2, q3, q4, q5, q6⟩ := (hx ▸ r.ev x (by simp [Op.operands])).slice_inv
    have ey := (hy ▸ r.ev y (by simp [Op.operands])).int_inv
    have ey' := (hy' ▸ r.ev y' (by simp [Op.operands])).int_inv
    have hb := run_sliceBounds3 (P := P) (w := w) (isS := true) (len := len) (cap := cap') ey ey' h0 (by omega)
    refine ⟨.slice (some (if m.toNat = 0 then a' else a'.add (0 * sz))) (m.toNat - 0) (m.toNat - 0), ?_, ?_⟩
    · by_cases hc : m.toNat = 0
      · simp only [hc] at hb ⊢
        simp [execOp, e1, Instr.sliceAt, td.run, Instr.slice, hb, ti.size]
      · simp [execOp, e1, Instr.sliceAt, td.run, Instr.slice, hb, ti.size, hc]
    · refine .slice _ _ _ _ _ _ _ hlt (by omega) (by omega) ⟨fun _ => rfl, fun hbig => ?_⟩ ?_ (by omega) (fun t ht => by cases ht)
      · simp only [maxLen] at q5; omega
      · by_cases hc : m.toNat = 0
        · exact .inr (by omega)
        · rw [if_neg hc]
          rcases q4 with q4 | q4
          · subst q4; exact .inl (by rw [Addr.add_lit]; simp)
          · exact .inr (by omega)
theorem op_sliceMNil {t e : TypeId} {x y y' : Operand} {sz by_ : Nat} {z : Value} {k k' : IntKind} {n m : Nat} [td : TyD P t (.slice e)] [ti : TyI P e sz by_ z]
    (hx : ρ x = .slice none n m) (hy : ρ y = .int k 0) (hy' : ρ y' = .int k' 0) (kk : K (.slice none 0 0) h) : AOp P ⟨dst, .slice t x none (some y) (some y'), ty, pos, aft, g⟩ ρ h K :=
  .of_pure kk fun φ ac w r => by
    obtain ⟨_, _, e1⟩ := (hx ▸ r.ev x (by simp [Op.operands])).nilSlice_inv
    have ey := (hy ▸ r.ev y (by simp [Op.operands])).int_inv
    have ey' := (hy' ▸ r.ev y' (by simp [Op.operands])).int_inv
    have hb := run_sliceBounds3 (P := P) (w := w) (isS := true) (len := 0) (cap := 0) ey ey' (Int.le_refl _) (by simp)
    refine ⟨.slice none 0 0, ?_, .nilSlice⟩
    simp [execOp, e1, Instr.sliceAt, td.run, Instr.slice, hb, ti.size]
def fullN (v : Value) (m : Nat) : Value :=
  match v with
  | .slice (some ⟨i, o, _⟩) _ _ => .slice (some ⟨i, o, none⟩) m m
  | _ => .slice none 0 0
theorem RN.full {c : Nat} {v : Value} {rows : List (List Value)} (r : RN c h v rows) {m : Nat} (hm : m ≤ rows.length) : RN c h (fullN v m) (rows.take m) := by
  refine ⟨fun x hx => r.len x (List.mem_of_mem_take hx), ?_⟩
  rcases r.at_ with ⟨rfl, rfl⟩ | ⟨i, o, s, cap, rfl, hs, hb⟩
  · exact .inl ⟨rfl, by simp⟩
  · have hlen : (rows.take m).length = m := by rw [List.length_take]; omega
    refine .inr ⟨i, o, none, m, by rw [hlen]; rfl, .inl rfl, fun hne => ?_⟩
    have hv : rows ≠ [] := by intro e; subst e; simp at hne
    obtain ⟨b, q1, q2, q3⟩ := hb hv
    have hmc : m * c ≤ rows.length * c := Nat.mul_le_mul_right _ hm
    refine ⟨b, q1, by rw [hlen]; omega, ?_⟩
    rw [hlen]
    have hf : (rows.take m).flatten.length = m * c := by rw [flat_len (fun x hx => r.len x (List.mem_of_mem_take hx)), hlen]
    have e : rows.flatten = (rows.take m).flatten ++ (rows.drop m).flatten := by rw [← List.flatten_append, List.take_append_drop]
    have e2 : rows.flatten.take (m * c) = (rows.take m).flatten := by rw [e, List.take_append_of_le_length (by omega), List.take_of_length_le (by omega)]
    rw [← e2, ← q3, List.take_take, Nat.min_eq_left hmc]
theorem op_sliceMN {c m : Nat} {t e : TypeId} {x y y' : Operand} {by_ : Nat} {z v : Value} {k k' : IntKind} {a : Int} {rows : List (List Value)} [td : TyD P t (.slice e)] [ti : TyI P e c by_ z] (r : RN c h v rows) (hx : ρ x = v)
    (hy : ρ y = .int k a) (hy' : ρ y' = .int k' a) (ha : a = (m : Nat)) (h2 : m ≤ rows.length) (kk : K (fullN v m) h) : AOp P ⟨dst, .slice t x none (some y) (some y'), ty, pos, aft, g⟩ ρ h K := by
  subst ha
  rcases r.at_ with ⟨rfl, rfl⟩ | ⟨i, o, s, cap, rfl, hs, hb⟩
  · obtain rfl : m = 0 := by simpa using h2
    exact op_sliceMNil hx hy hy' kk
  · exact op_sliceM hx hy hy' (by omega) (by omega) (by rw [Int.toNat_natCast]; exact kk)
theorem op_appendFull {t t2 e : TypeId} {d2 : TypeDesc} {x y : Operand} {sz by_ m n : Nat} {z v u : Value} {olds news : List Value} [td : TyD P t (.slice e)] [t2d : TyD P t2 d2] [ti : TyI P e sz by_ z] (hd2 : appB d2 = true) (hx : ρ x = u) (hy : ρ y = v)
    (hu : u = .slice none 0 0 ∨ ∃ a, u = .slice (some a) n n) (ho : Src h sz u n olds) (hs : Src h sz v m news) (hm : 0 < m) (h1 : n + m ≤ maxLen) (h2 : (n + m) * by_ ≤ 140737488355328)
    (kk : K (.slice (some ⟨h.next, 0, some sz⟩) (n + m) (n + m + 1)) (h.alloc ⟨olds ++ news, e, true⟩)) :
    AOp P ⟨dst, .call ⟨.builtin .append, #[x, y], #[t, t2]⟩, ty, pos, aft, g⟩ ρ h K := by
  rcases hu with rfl | ⟨⟨i, o, s⟩, rfl⟩
  · have hn : n = 0 ∧ olds = [] := by cases ho; exact ⟨rfl, rfl⟩
    obtain ⟨rfl, rfl⟩ := hn
    exact op_appendNil (z := z) hd2 hx hy hs (by omega) (by simpa using h2) (fun h0 => by omega) (fun _ => by simpa using kk)
  · refine .of_run fun φ ac w r => ?_
    obtain ⟨cap', a', e1, hlt, p1, p2, p3, p4, p5, p6⟩ := (hx ▸ r.ev x (by simp [Op.operands, Call.operands])).slice_inv
    obtain rfl : cap' = n := p3.1 rfl
    obtain ⟨cs, q1, q2, q3, q4⟩ := hs.run r.sim (hy ▸ r.ev y (by simp [Op.operands, Call.operands]))
    obtain ⟨os, o1, o2, _, o4⟩ := ho.run r.sim (hx ▸ r.ev x (by simp [Op.operands, Call.operands]))
    rw [e1] at o4
    have hr := run_append (P := P) (ty := ty) (t := t) (t2 := t2) (z := z) hd2 w (some a') cap' cap' m (ac.eval y) os cs q3 q4 q2 o4 (by omega) h2
    rw [← e1] at hr
    rw [if_neg (by omega)] at hr
    obtain ⟨φ', v1, v2, v3⟩ := grown_row (P := P) r.sim (e := e) (cap := cap') (n := cap' + m) (o1.append q1) (by rw [List.length_append, o2, q2, ← Nat.add_mul]) h1 _ rfl
    exact ⟨_, _, φ', _, _, exec_append ac _ w hr, kk, v1, v2, v3⟩
end
end Go.Eng
