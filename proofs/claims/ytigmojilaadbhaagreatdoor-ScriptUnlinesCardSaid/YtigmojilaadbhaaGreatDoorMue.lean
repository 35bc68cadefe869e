/-
  Texts of one claim, merged: 8 parts.
-/
import Derived.Test.YtigmojilaadbhaaGreatDoorMud
import Derived.Deep.Slices
import Derived.ChangeArms
import Derived.ChangeOld
import Derived.OpenShut
import Derived.SizedLaws
import Derived.Carry
import Derived.Maps.RangeRun
import Derived.RangeFuncOwn
import Derived.Lib.OthersKept
import Derived.Laws.RangeAny
set_option maxHeartbeats 16000000
/- . -/
namespace Go.Eng
open Go
theorem qhN {α : Type} {c : Nat} (hc : 0 < c) : ∀ {L : List (List α)}, (∀ l ∈ L, l.length = c) → ∀ m : Nat, L.flatten[m]? = (L[m / c]?).bind (·[m % c]?)
 | [], _, m => by simp
 | l :: L, h, m => by
  have hl := h l (by simp)
  rw [List.flatten_cons]
  by_cases hm : m < c
  ·
   rw [List.getElem?_append_left (by omega), Nat.div_eq_of_lt hm, Nat.mod_eq_of_lt hm]
   rfl
  ·
   rw [List.getElem?_append_right (by omega), hl, qhN hc (fun x hx => h x (List.mem_cons_of_mem _ hx)) (m - c)]
   have h1 : m / c = (m - c) / c + 1 := by rw [Nat.div_eq m c, if_pos ⟨hc, by omega⟩]
   have h2 : m % c = (m - c) % c := by rw [Nat.mod_eq m c, if_pos ⟨hc, by omega⟩]
   rw [h1, h2, List.getElem?_cons_succ]
theorem qcs {α : Type} {c : Nat} : ∀ {L : List (List α)}, (∀ l ∈ L, l.length = c) → L.flatten.length = L.length * c
 | [], _ => by simp
 | l :: L, h => by
  rw [List.flatten_cons, List.length_append, h l (by simp), qcs (fun x hx => h x (List.mem_cons_of_mem _ hx)), List.length_cons, Nat.add_mul]
  omega
theorem qct {α : Type} {c : Nat} : ∀ {L : List (List α)}, (∀ l ∈ L, l.length = c) → ∀ {k : Nat} {l : List α}, L[k]? = some l → (L.flatten.drop (k * c)).take c = l
 | [], _, k, l, hk => by simp at hk
 | x :: L, h, 0, l, hk => by
  simp only [List.getElem?_cons_zero, Option.some.injEq] at hk
  subst hk
  have := h x (by simp)
  rw [Nat.zero_mul, List.drop_zero, List.flatten_cons, List.take_append_of_le_length (by omega), List.take_of_length_le (by omega)]
 | x :: L, h, k + 1, l, hk => by
  have hx := h x (by simp)
  rw [List.getElem?_cons_succ] at hk
  have := qct (fun y hy => h y (List.mem_cons_of_mem _ hy)) hk
  rw [List.flatten_cons, show (k + 1) * c = x.length + k * c by rw [Nat.add_mul]; omega, List.drop_length_add_append]
  exact this
theorem qeK {α : Type} : ∀ {L : List (List α)} {k : Nat} {l : List α}, L[k]? = some l → (L.flatten.drop ((L.take k).map List.length).sum).take l.length = l
 | [], k, l, hk => by simp at hk
 | x :: L, 0, l, hk => by
  simp only [List.getElem?_cons_zero, Option.some.injEq] at hk
  subst hk
  simp
 | x :: L, k + 1, l, hk => by
  rw [List.getElem?_cons_succ] at hk
  have := qeK hk
  rw [List.flatten_cons, List.take_succ_cons, List.map_cons, List.sum_cons, List.drop_length_add_append]
  exact this
theorem qek {α : Type} {c : Nat} : ∀ {m : Nat} {l : List α}, l.length = m * c → ((List.range m).map fun k => (l.drop (k * c)).take c).flatten = l
 | 0, l, h => by
  have : l = [] := List.eq_nil_of_length_eq_zero (by simpa using h)
  simp [this]
 | m + 1, l, h => by
  have hm : (m + 1) * c = m * c + c := by rw [Nat.add_mul]; omega
  rw [List.range_succ, List.map_append, List.flatten_append]
  have h1 : ((List.range m).map fun k => (l.drop (k * c)).take c) = (List.range m).map fun k => ((l.take (m * c)).drop (k * c)).take c := by
   refine List.map_congr_left fun k hk => ?_
   have hk := List.mem_range.1 hk
   have h2 : (k + 1) * c ≤ m * c := Nat.mul_le_mul_right _ (by omega)
   have h3 : (k + 1) * c = k * c + c := by rw [Nat.add_mul]; omega
   rw [List.drop_take, List.take_take, Nat.min_eq_left (by omega)]
  rw [h1, qek (l := l.take (m * c)) (by rw [List.length_take]; omega)]
  simp only [List.map_cons, List.map_nil, List.flatten_cons, List.flatten_nil, List.append_nil]
  rw [List.take_of_length_le (l := l.drop (m * c)) (by rw [List.length_drop]; omega), List.take_append_drop]
section
variable {P : Program}
def laysF (P : Program) : List Field → Nat → Option Nat
 | [], o => some o
 | f :: r, o => if f.offset = o then laysF P r (o + P.cellsOf f.type) else none
def plainT (P : Program) : Nat → TypeId → Bool
 | 0, _ => false
 | n + 1, t => match P.underlying t with
  | some .bool | some (.int _) | some .string => P.cellsOf t == 1
  | some (.slice e) => P.cellsOf t == 1 && Nat.blt 0 (P.cellsOf e) && plainT P n e
  | some (.struct fs) => laysF P fs.toList 0 == some (P.cellsOf t) && fs.toList.all fun f => plainT P n f.type
  | some (.array m e) => P.cellsOf t == m * P.cellsOf e && plainT P n e
  | _ => false
def Rd (P : Program) (h : Heap) : Nat → TypeId → List Value → Prop
 | 0, _, _ => False
 | n + 1, t, cs => match P.underlying t with
  | some .bool => ∃ b, cs = [.bool b]
  | some (.int k) => ∃ a, cs = [.int k a] ∧ (Lit.int k a).wf = true
  | some .string => ∃ s, cs = [.string (bstr s)] ∧ s.length ≤ reachBytes
  | some (.slice e) => cs = [.slice none 0 0] ∨ ∃ i len cap cells, cs = [.slice (some ⟨i, 0, none⟩) len cap] ∧ len * P.bytesOf e ≤ reachBytes ∧ cells.length = len * P.cellsOf e ∧ (cells ≠ [] → h.get i = some ⟨cells, 0, false⟩) ∧
    ∀ k, k < len → Rd P h n e ((cells.drop (k * P.cellsOf e)).take (P.cellsOf e))
  | some (.struct fs) => cs.length = P.cellsOf t ∧ ∀ f ∈ fs.toList, Rd P h n f.type ((cs.drop f.offset).take (P.cellsOf f.type))
  | some (.array m e) => cs.length = P.cellsOf t ∧ ∀ k, k < m → Rd P h n e ((cs.drop (k * P.cellsOf e)).take (P.cellsOf e))
  | _ => False
theorem Rd.ext {h h' : Heap} (hx : Ext h h') : ∀ {n : Nat} {t : TypeId} {cs : List Value}, Rd P h n t cs → Rd P h' n t cs
 | 0, _, _, r => r.elim
 | n + 1, t, cs, r => by
  unfold Rd at r ⊢
  split <;> simp_all only
  ·
   rcases r with r | ⟨i, len, cap, cells, h1, h2, h3, h4, h5⟩
   ·
    exact .inl r
   ·
    exact .inr ⟨i, len, cap, cells, h1, h2, h3, fun hne => hx.c _ _ (h4 hne), fun k hk => (h5 k hk).ext hx⟩
  ·
   exact ⟨trivial, fun f hf => (r.2 f hf).ext hx⟩
  ·
   exact ⟨trivial, fun k hk => (r.2 k hk).ext hx⟩
theorem qcK {G : Nat} {bs bs' : List RoB} : ∀ i, i < G + bs.length → roRen G (bs ++ bs') i = roRen G bs i := by
 intro i hi
 unfold roRen
 split
 ·
  rfl
 ·
  rw [List.getElem?_append_left (by omega)]
theorem qde {G : Nat} {bs bs' : List RoB} : Ext (roHeap G bs) (roHeap G (bs ++ bs')) := by
 refine ⟨fun i b hi => ?_, fun i o hi => hi⟩
 unfold roHeap at hi ⊢
 simp only at hi ⊢
 split at hi
 ·
  cases hi
 ·
  rename_i hg
  rw [if_neg hg]
  cases hq : bs[i - G]? with
  | none => rw [hq] at hi; cases hi
  | some rb =>
   rw [hq] at hi
   have := (List.getElem?_eq_some_iff.1 hq).1
   rw [List.getElem?_append_left this, hq]
   exact hi
theorem roVRels {G : Nat} {bs bs' : List RoB} {xs cs : List Value} (r : VRels (roRen G bs) (G + bs.length) xs cs) : VRels (roRen G (bs ++ bs')) (G + (bs ++ bs').length) xs cs :=
 r.mono qcK (by simp)
def RoAll (G : Nat) (bs bs' : List RoB) (W : World) : Prop := ∀ b ∈ bs', b.at_.spot = none ∧ ∀ (k : Nat) v, b.cells[k]? = some v → ∃ c, W.cell? (b.at_.add k) = some c ∧ VRel (roRen G bs) (G + bs.length) v c
theorem RoAll.app {G : Nat} {bs b1 b2 : List RoB} {W : World} (r : RoAll G bs b1 W) : RoAll G (bs ++ b2) b1 W := by
 intro b hb
 obtain ⟨h1, h2⟩ := r b hb
 refine ⟨h1, fun k v hk => ?_⟩
 obtain ⟨c, q1, q2⟩ := h2 k v hk
 exact ⟨c, q1, q2.mono qcK (by simp)⟩
theorem RoAll.two {G : Nat} {bs b1 b2 : List RoB} {W : World} (r1 : RoAll G bs b1 W) (r2 : RoAll G bs b2 W) : RoAll G bs (b1 ++ b2) W := by
 intro b hb
 rcases List.mem_append.1 hb with h | h
 ·
  exact r1 b h
 ·
  exact r2 b h
def Opens (P : Program) (G : Nat) (W : World) (n : Nat) (t : TypeId) (cs : List Value) : Prop :=
 ∀ bs : List RoB, ∃ (bs' : List RoB) (avs : List Value), RoAll G (bs ++ bs') bs' W ∧ VRels (roRen G (bs ++ bs')) (G + (bs ++ bs').length) avs cs ∧ Rd P (roHeap G (bs ++ bs')) n t avs
theorem qcu {G n : Nat} {W : World} : ∀ (items : List (TypeId × List Value)), (∀ x ∈ items, Opens P G W n x.1 x.2) → ∀ bs : List RoB, ∃ (bs' : List RoB) (avs : List (List Value)), RoAll G (bs ++ bs') bs' W ∧ avs.length = items.length ∧
  ∀ (k : Nat) x a, items[k]? = some x → avs[k]? = some a → VRels (roRen G (bs ++ bs')) (G + (bs ++ bs').length) a x.2 ∧ Rd P (roHeap G (bs ++ bs')) n x.1 a
 | [], _, bs => ⟨[], [], (fun b hb => by cases hb), rfl, fun k x a hx => by simp at hx⟩
 | y :: items, h, bs => by
  obtain ⟨b1, a1, r1, v1, d1⟩ := h y (by simp) bs
  obtain ⟨b2, a2, r2, l2, q2⟩ := qcu items (fun x hx => h x (List.mem_cons_of_mem _ hx)) (bs ++ b1)
  refine ⟨b1 ++ b2, a1 :: a2, ?_, by simp [l2], fun k x a hx ha => ?_⟩
  ·
   rw [← List.append_assoc]
   exact r1.app.two r2
  ·
   rw [← List.append_assoc]
   cases k with
   | zero =>
    simp only [List.getElem?_cons_zero, Option.some.injEq] at hx ha
    subst hx ha
    exact ⟨roVRels v1, d1.ext qde⟩
   | succ k =>
    simp only [List.getElem?_cons_succ] at hx ha
    exact q2 k x a hx ha
theorem VRels.flat {φ : Ren} {n : Nat} : ∀ {avs cs : List (List Value)}, avs.length = cs.length → (∀ (k : Nat) a c, avs[k]? = some a → cs[k]? = some c → VRels φ n a c) → VRels φ n avs.flatten cs.flatten
 | [], [], _, _ => .nil
 | a :: avs, c :: cs, hl, h => by
  rw [List.flatten_cons, List.flatten_cons]
  exact (h 0 a c rfl rfl).append (VRels.flat (by simpa using hl) fun k x y hx hy => h (k + 1) x y hx hy)
 | [], c :: cs, hl, _ => by simp at hl
 | a :: avs, [], hl, _ => by simp at hl
theorem qe1 {cs : List Value} : ∀ {fs : List Field} {o T : Nat}, laysF P fs o = some T → T ≤ cs.length → (fs.map fun f => (cs.drop f.offset).take (P.cellsOf f.type)).flatten = (cs.drop o).take (T - o) ∧ o ≤ T
 | [], o, T, h, _ => by
  simp only [laysF, Option.some.injEq] at h
  subst h
  simp
 | f :: fs, o, T, h, hT => by
  unfold laysF at h
  split at h
  ·
   rename_i ho
   obtain ⟨e, hle⟩ := qe1 (cs := cs) h hT
   refine ⟨?_, by omega⟩
   rw [List.map_cons, List.flatten_cons, e, ho, ← List.drop_drop, show T - o = P.cellsOf f.type + (T - (o + P.cellsOf f.type)) by omega, List.take_add]
  ·
   cases h
theorem qge : ∀ {fs : List Field} {o T : Nat}, laysF P fs o = some T → ∀ (k : Nat) f, fs[k]? = some f → f.offset = o + ((fs.take k).map fun f => P.cellsOf f.type).sum
 | [], o, T, h, k, f, hk => by simp at hk
 | g :: fs, o, T, h, k, f, hk => by
  unfold laysF at h
  split at h
  ·
   rename_i ho
   cases k with
   | zero =>
    simp only [List.getElem?_cons_zero, Option.some.injEq] at hk
    subst hk
    simpa using ho
   | succ k =>
    rw [List.getElem?_cons_succ] at hk
    have := qge h k f hk
    rw [this, List.take_succ_cons, List.map_cons, List.sum_cons]
    omega
  ·
   cases h
theorem qfI : ∀ {fs : List Field} {o T : Nat}, laysF P fs o = some T → T = o + (fs.map fun f => P.cellsOf f.type).sum
 | [], o, T, h => by simp only [laysF, Option.some.injEq] at h; simp [h]
 | g :: fs, o, T, h => by
  unfold laysF at h
  split at h
  ·
   have := qfI h
   rw [this, List.map_cons, List.sum_cons]
   omega
  ·
   cases h
theorem qce {H : Type} {e : TypeId} : ∀ {l : List (DataW H)} {d : DataW H}, d ∈ l → ∀ n ∈ d.weights P e, n ∈ DataW.weightsAll P e l
 | d' :: r, d, hd, n, hn => by
  simp only [DataW.weightsAll, List.mem_append]
  rcases List.mem_cons.1 hd with rfl | h
  ·
   exact .inl hn
  ·
   exact .inr (qce h n hn)
theorem qdd {n : Nat} {t : TypeId} (hp : plainT P n t = true) {h : Heap} {cs : List Value} (r : Rd P h n t cs) : cs.length = P.cellsOf t := by
 cases n with
 | zero => exact r.elim
 | succ n =>
  unfold Rd at r
  unfold plainT at hp
  split at r
  ·
   rename_i hu; rw [hu] at hp; obtain ⟨b, rfl⟩ := r; simpa using (beq_iff_eq.1 hp).symm
  ·
   rename_i hu; rw [hu] at hp; obtain ⟨a, rfl, _⟩ := r; simpa using (beq_iff_eq.1 hp).symm
  ·
   rename_i hu; rw [hu] at hp; obtain ⟨s, rfl, _⟩ := r; simpa using (beq_iff_eq.1 hp).symm
  ·
   rename_i hu
   rw [hu] at hp
   simp only [Bool.and_eq_true, beq_iff_eq] at hp
   rcases r with rfl | ⟨i, len, cap, cells, rfl, _⟩
   ·
    simpa using hp.1.1.symm
   ·
    simpa using hp.1.1.symm
  ·
   exact r.1
  ·
   exact r.1
  ·
   exact r.elim
section
variable {H : Type} {enc : TypeId × Value → H} {W : World} {base : Nat} {spare : Nat → Bool} {held : Bool}
theorem opens {G : Nat} (hall : ∀ b, spare b = true) : ∀ (n : Nat) (t : TypeId) (fuel : Nat) (cs : List Value) (x : DataW H × List MemPlace), plainT P n t = true → DataW.trod enc P W base spare held fuel t cs = some x →
  (x.1.weights P t).all (· ≤ reachBytes) = true → Opens P G W n t cs
 | 0, _, _, _, _, hp, _, _ => by simp [plainT] at hp
 | n + 1, t, fuel, cs, x, hp, ht, hs => by
  intro bs
  have hp0 := hp
  unfold plainT at hp
  split at hp
  ·
   rename_i hu
   obtain ⟨b, rfl, rfl⟩ := DataW.trod_bool hu ht
   refine ⟨[], [.bool b], (fun b hb => by cases hb), .cons (.bool b) .nil, ?_⟩
   unfold Rd
   rw [hu]
   exact ⟨b, rfl⟩
  ·
   rename_i k hu
   obtain ⟨a, rfl, rfl, hw⟩ := DataW.trod_int hu ht
   refine ⟨[], [.int k a], (fun b hb => by cases hb), .cons (.int k a) .nil, ?_⟩
   unfold Rd
   rw [hu]
   exact ⟨a, rfl, hw⟩
  ·
   rename_i hu
   obtain ⟨s, rfl, rfl, _⟩ := DataW.trod_string hu ht
   have hsz : s.data.toList.length ≤ reachBytes := by
    have := List.all_eq_true.1 hs s.data.toList.length (by simp [DataW.weights])
    simpa using this
   have hb : s = bstr s.data.toList := by
    unfold bstr
    cases s
    simp
   refine ⟨[], [.string s], (fun b hb => by cases hb), .cons (.string s) .nil, ?_⟩
   unfold Rd
   rw [hu]
   exact ⟨s.data.toList, by rw [← hb], hsz⟩
  ·
   rename_i e hu
   simp only [Bool.and_eq_true, beq_iff_eq, Nat.blt_eq] at hp
   obtain ⟨⟨hc1, hc0⟩, hpe⟩ := hp
   rcases DataW.trod_slice hu ht with ⟨rfl, rfl⟩ | ⟨a, len, cap, elems, rest, m, _, rfl, rfl, hb, hl, hm, hlen, hel, hsp, hns⟩
   ·
    refine ⟨[], [.slice none 0 0], (fun b hb => by cases hb), .cons .nilSlice .nil, ?_⟩
    unfold Rd
    rw [hu]
    exact .inl rfl
   ·
    have hws : ∀ y ∈ elems, (y.1.weights P e).all (· ≤ reachBytes) = true := by
     intro y hy
     refine List.all_eq_true.2 fun q hq => ?_
     refine List.all_eq_true.1 hs q ?_
     simp only [DataW.weights, hu]
     refine List.mem_cons_of_mem _ (List.mem_append_left _ ?_)
     exact qce (List.mem_map.2 ⟨y, hy, rfl⟩) q hq
    have hsz : len * P.bytesOf e ≤ reachBytes := by
     have := List.all_eq_true.1 hs ((elems.length + rest.length) * P.bytesOf e) (by simp [DataW.weights, hu])
     have h2 : elems.length * P.bytesOf e ≤ (elems.length + rest.length) * P.bytesOf e := Nat.mul_le_mul_right _ (by omega)
     rw [hlen] at h2
     have h3 : (elems.length + rest.length) * P.bytesOf e ≤ reachBytes := of_decide_eq_true this
     rw [hlen] at h3
     omega
    have hget : ∀ i, i < len → ∃ ci y, W.cells? base (a.add (i * P.cellsOf e)) (P.cellsOf e) = some ci ∧ elems[i]? = some y ∧ DataW.trod enc P W base spare held m e ci = some y := by
     intro i hi
     have h1 := hel i hi
     rw [List.getElem?_eq_getElem (by omega)] at h1
     obtain ⟨ci, q1, q2⟩ := Option.bind_eq_some_iff.1 h1
     exact ⟨ci, elems[i], q1, List.getElem?_eq_getElem (by omega), q2⟩
    let items : List (TypeId × List Value) := (List.range len).map fun i => (e, (W.cells? base (a.add (i * P.cellsOf e)) (P.cellsOf e)).getD [])
    have hitems : ∀ y ∈ items, Opens P G W n y.1 y.2 := by
     intro y hy
     obtain ⟨i, hi, rfl⟩ := List.mem_map.1 hy
     obtain ⟨ci, z, q1, q2, q3⟩ := hget i (List.mem_range.1 hi)
     show Opens P G W n e _
     rw [q1]
     exact opens hall n e m ci z hpe q3 (hws z (List.mem_of_getElem? q2))
    obtain ⟨b1, avs, r1, l1, q⟩ := qcu items hitems bs
    have hil : items.length = len := by simp [items]
    rw [hil] at l1
    have hit : ∀ (k : Nat), k < len → ∃ ci, items[k]? = some (e, ci) ∧ W.cells? base (a.add (k * P.cellsOf e)) (P.cellsOf e) = some ci := by
     intro k hk
     obtain ⟨ci, z, q1, _, _⟩ := hget k hk
     refine ⟨ci, ?_, q1⟩
     simp only [items, List.getElem?_map, List.getElem?_range hk, Option.map_some, q1, Option.getD_some]
    have hal : ∀ l ∈ avs, l.length = P.cellsOf e := by
     intro l hl'
     obtain ⟨k, hk⟩ := List.getElem?_of_mem hl'
     have hkl : k < len := by have := (List.getElem?_eq_some_iff.1 hk).1; omega
     obtain ⟨ci, q1, q2⟩ := hit k hkl
     exact qdd hpe (q k _ _ q1 hk).2
    have hfl := qcs hal
    let blk : RoB := ⟨avs.flatten, if cap = 0 then ⟨0, 0, none⟩ else a⟩
    have hcell : ∀ (j : Nat) v, avs.flatten[j]? = some v → ∃ c, W.cell? (a.add j) = some c ∧ VRel (roRen G (bs ++ b1)) (G + (bs ++ b1).length) v c := by
     intro j v hj
     rw [qhN hc0 hal] at hj
     obtain ⟨l, h1, h2⟩ := Option.bind_eq_some_iff.1 hj
     have hkl : j / P.cellsOf e < len := by have := (List.getElem?_eq_some_iff.1 h1).1; omega
     obtain ⟨ci, q1, q2⟩ := hit _ hkl
     obtain ⟨c, hc, hv⟩ := (q _ _ _ q1 h1).1.get h2
     refine ⟨c, ?_, hv⟩
     obtain ⟨_, _, g3⟩ := World.cells?_some q2
     have := g3 (j % P.cellsOf e) (Nat.mod_lt _ hc0)
     rw [hc] at this
     rw [← this, Go.Deep.add_add, Nat.mul_comm, Nat.div_add_mod]
    have hspot : cap ≠ 0 → a.spot = none := by
     intro hcap
     have hz : ∃ ci, W.cells? base (a.add (0 * P.cellsOf e)) (P.cellsOf e) = some ci := by
      by_cases hl0 : len = 0
      ·
       obtain ⟨hr1, hr2⟩ := hsp (hall _)
       have := hr2 0 (by omega)
       rw [List.getElem?_eq_getElem (by omega)] at this
       simp only [hl0, Nat.add_zero] at this
       obtain ⟨ci, q1, _⟩ := Option.bind_eq_some_iff.1 this
       exact ⟨ci, q1⟩
      ·
       obtain ⟨ci, z, q1, _⟩ := hget 0 (by omega)
       exact ⟨ci, q1⟩
     obtain ⟨ci, q1⟩ := hz
     obtain ⟨_, g2, g3⟩ := World.cells?_some q1
     have g4 := g3 0 hc0
     rw [List.getElem?_eq_getElem (by omega), Nat.zero_mul] at g4
     rw [Go.Deep.add_add] at g4
     exact spot_of g4
    have hq : (bs ++ (b1 ++ [blk]))[bs.length + b1.length]? = some blk := by
     rw [List.getElem?_append_right (by omega), List.getElem?_append_right (by omega)]
     simp
    have hren : roRen G (bs ++ (b1 ++ [blk])) (G + (bs.length + b1.length)) = ⟨blk.at_.block, blk.at_.off, 0⟩ := by
     unfold roRen
     rw [if_neg (by omega), show G + (bs.length + b1.length) - G = bs.length + b1.length by omega, hq]
    refine ⟨b1 ++ [blk], [.slice (some ⟨G + (bs.length + b1.length), 0, none⟩) len (if cap = len then len else len + 1)], ?_, ?_, ?_⟩
    ·
     rw [← List.append_assoc]
     refine r1.app.two fun b hb => ?_
     rw [List.mem_singleton.1 hb]
     by_cases hcap : cap = 0
     ·
      have hz : avs.flatten = [] := List.eq_nil_of_length_eq_zero (by rw [hfl, l1, show len = 0 by omega]; simp)
      refine ⟨by show (if cap = 0 then _ else a : Addr).spot = none; rw [if_pos hcap], fun k v hk => ?_⟩
      replace hk : avs.flatten[k]? = some v := hk
      rw [hz] at hk
      simp at hk
     ·
      refine ⟨by show (if cap = 0 then _ else a : Addr).spot = none; rw [if_neg hcap]; exact hspot hcap, fun k v hk => ?_⟩
      obtain ⟨c, hc, hv⟩ := hcell k v hk
      refine ⟨c, ?_, hv.mono qcK (by simp)⟩
      show W.cell? ((if cap = 0 then _ else a : Addr).add k) = some c
      rw [if_neg hcap]
      exact hc
    ·
     refine .cons (.slice _ _ _ _ _ _ _ (by simp) ?_ hl ?_ ?_ hm (by intro t ht; cases ht)) .nil
     ·
      split <;> omega
     ·
      simp only [maxLen] at hm
      split
      ·
       exact ⟨fun _ => by omega, fun e => by omega⟩
      ·
       exact ⟨fun e => by omega, fun e => by omega⟩
     ·
      by_cases hcap : cap = 0
      ·
       exact .inr hcap
      ·
       left
       rw [hren]
       have h1 := hspot hcap
       show a = ⟨(if cap = 0 then _ else a : Addr).block, (if cap = 0 then _ else a : Addr).off + 0, none⟩
       rw [if_neg hcap]
       cases a
       simp only at h1
       subst h1
       rfl
    ·
     unfold Rd
     rw [hu]
     right
     refine ⟨_, len, _, avs.flatten, rfl, hsz, by rw [hfl, l1], fun hne => ?_, fun k hk => ?_⟩
     ·
      show (if _ < G then none else ((bs ++ (b1 ++ [blk]))[_]?).bind _) = _
      rw [if_neg (by omega), show G + (bs.length + b1.length) - G = bs.length + b1.length by omega, hq]
      show (if avs.flatten.isEmpty then none else some (⟨avs.flatten, 0, false⟩ : Blk)) = _
      rw [if_neg (by simpa using hne)]
     ·
      obtain ⟨l, hk2⟩ : ∃ l, avs[k]? = some l := ⟨_, List.getElem?_eq_getElem (by omega)⟩
      rw [qct hal hk2]
      obtain ⟨ci, q1, _⟩ := hit k hk
      have := (q k _ _ q1 hk2).2
      rw [← List.append_assoc]
      exact this.ext qde
  ·
   rename_i fs hu
   simp only [Bool.and_eq_true, beq_iff_eq] at hp
   obtain ⟨hlay, hpf⟩ := hp
   obtain ⟨xs, m, _, rfl, hcl, hxl, hx⟩ := DataW.trod_struct hu ht
   let items : List (TypeId × List Value) := fs.toList.map fun f => (f.type, (cs.drop f.offset).take (P.cellsOf f.type))
   have hxt : ∀ (k : Nat) f, fs.toList[k]? = some f → ∃ y, xs[k]? = some y ∧ DataW.trod enc P W base spare held m f.type ((cs.drop f.offset).take (P.cellsOf f.type)) = some y := by
    intro k f hf
    have h1 := hx k f (by simpa using hf)
    have hk := (List.getElem?_eq_some_iff.1 hf).1
    rw [List.getElem?_eq_getElem (by simp at hk; omega)] at h1
    exact ⟨_, List.getElem?_eq_getElem (by simp at hk; omega), h1⟩
   have hwe : ∀ (k : Nat) f y, fs.toList[k]? = some f → xs[k]? = some y → (y.1.weights P f.type).all (· ≤ reachBytes) = true := by
    intro k f y hf hy
    refine List.all_eq_true.2 fun q hq => ?_
    refine List.all_eq_true.1 hs q ?_
    simp only [DataW.weights, hu]
    exact DataW.weights_mem_each (j := k) (t := f.type) (d := y.1) (by simp only [List.getElem?_map, hf, Option.map_some]) (by simp [List.getElem?_map, hy]) q hq
   have hitems : ∀ y ∈ items, Opens P G W n y.1 y.2 := by
    intro y hy
    obtain ⟨f, hf, rfl⟩ := List.mem_map.1 hy
    obtain ⟨k, hk⟩ := List.getElem?_of_mem hf
    obtain ⟨z, h1, h2⟩ := hxt k f hk
    exact opens hall n f.type m _ z (List.all_eq_true.1 hpf f hf) h2 (hwe k f z hk h1)
   obtain ⟨b1, avs, r1, l1, q⟩ := qcu items hitems bs
   have hal : ∀ (k : Nat) f a, fs.toList[k]? = some f → avs[k]? = some a → VRels (roRen G (bs ++ b1)) (G + (bs ++ b1).length) a ((cs.drop f.offset).take (P.cellsOf f.type)) ∧ Rd P (roHeap G (bs ++ b1)) n f.type a ∧ a.length = P.cellsOf f.type := by
    intro k f a hf ha
    obtain ⟨h1, h2⟩ := q k (f.type, (cs.drop f.offset).take (P.cellsOf f.type)) a (by simp only [items, List.getElem?_map, hf, Option.map_some]) ha
    exact ⟨h1, h2, qdd (List.all_eq_true.1 hpf f (List.mem_of_getElem? hf)) h2⟩
   obtain ⟨hf1, _⟩ := qe1 (cs := cs) hlay (by omega)
   rw [List.drop_zero, Nat.sub_zero, List.take_of_length_le (by omega)] at hf1
   have hlens : avs.map List.length = fs.toList.map fun f => P.cellsOf f.type := by
    apply List.ext_getElem?
    intro k
    rw [List.getElem?_map, List.getElem?_map]
    cases hk : fs.toList[k]? with
    | none =>
     have : avs[k]? = none := by
      rw [List.getElem?_eq_none_iff] at hk ⊢
      simp [items] at l1
      simp at hk
      omega
     rw [this]; rfl
    | some f =>
     have hkl := (List.getElem?_eq_some_iff.1 hk).1
     have : ∃ a, avs[k]? = some a := ⟨_, List.getElem?_eq_getElem (by simp [items] at l1; simp at hkl; omega)⟩
     obtain ⟨a, ha⟩ := this
     rw [ha]
     simp [(hal k f a hk ha).2.2]
   refine ⟨b1, avs.flatten, r1, ?_, ?_⟩
   ·
    rw [← hf1]
    refine VRels.flat (by simpa [items] using l1) fun k a c ha hc => ?_
    rw [List.getElem?_map] at hc
    cases hk : fs.toList[k]? with
    | none => rw [hk] at hc; cases hc
    | some f =>
     rw [hk] at hc
     simp only [Option.map_some, Option.some.injEq] at hc
     subst hc
     exact (hal k f a hk ha).1
   ·
    unfold Rd
    rw [hu]
    refine ⟨?_, fun f hf => ?_⟩
    ·
     rw [List.length_flatten, hlens]
     have := qfI hlay
     omega
    ·
     obtain ⟨k, hk⟩ := List.getElem?_of_mem hf
     have hkl := (List.getElem?_eq_some_iff.1 hk).1
     obtain ⟨a, ha⟩ : ∃ a, avs[k]? = some a := ⟨_, List.getElem?_eq_getElem (by simp [items] at l1; simp at hkl; omega)⟩
     have h1 := qge hlay k f hk
     have h2 := qeK ha
     rw [List.map_take, hlens, ← List.map_take, (hal k f a hk ha).2.2] at h2
     rw [h1, Nat.zero_add, h2]
     exact (hal k f a hk ha).2.1
  ·
   rename_i m e hu
   simp only [Bool.and_eq_true, beq_iff_eq] at hp
   obtain ⟨hce, hpe⟩ := hp
   obtain ⟨xs, fu, _, rfl, hcl, hxl, hx⟩ := DataW.trod_array hu ht
   let items : List (TypeId × List Value) := (List.range m).map fun k => (e, (cs.drop (k * P.cellsOf e)).take (P.cellsOf e))
   have hxt : ∀ k, k < m → ∃ y, xs[k]? = some y ∧ DataW.trod enc P W base spare held fu e ((cs.drop (k * P.cellsOf e)).take (P.cellsOf e)) = some y := by
    intro k hk
    have h1 := hx k hk
    rw [List.getElem?_eq_getElem (by omega)] at h1
    exact ⟨_, List.getElem?_eq_getElem (by omega), h1⟩
   have hws : ∀ y ∈ xs, (y.1.weights P e).all (· ≤ reachBytes) = true := by
    intro y hy
    refine List.all_eq_true.2 fun q hq => ?_
    refine List.all_eq_true.1 hs q ?_
    simp only [DataW.weights, hu]
    exact qce (List.mem_map.2 ⟨y, hy, rfl⟩) q hq
   have hitems : ∀ y ∈ items, Opens P G W n y.1 y.2 := by
    intro y hy
    obtain ⟨k, hk, rfl⟩ := List.mem_map.1 hy
    obtain ⟨z, h1, h2⟩ := hxt k (List.mem_range.1 hk)
    exact opens hall n e fu _ z hpe h2 (hws z (List.mem_of_getElem? h1))
   obtain ⟨b1, avs, r1, l1, q⟩ := qcu items hitems bs
   have hil : items.length = m := by simp [items]
   rw [hil] at l1
   have hal : ∀ (k : Nat) a, k < m → avs[k]? = some a → VRels (roRen G (bs ++ b1)) (G + (bs ++ b1).length) a ((cs.drop (k * P.cellsOf e)).take (P.cellsOf e)) ∧ Rd P (roHeap G (bs ++ b1)) n e a := by
    intro k a hk ha
    exact q k (e, (cs.drop (k * P.cellsOf e)).take (P.cellsOf e)) a (by simp only [items, List.getElem?_map, List.getElem?_range hk, Option.map_some]) ha
   have hall : ∀ l ∈ avs, l.length = P.cellsOf e := by
    intro l hl
    obtain ⟨k, hk⟩ := List.getElem?_of_mem hl
    exact qdd hpe (hal k l (by have := (List.getElem?_eq_some_iff.1 hk).1; omega) hk).2
   have hcs : ((List.range m).map fun k => (cs.drop (k * P.cellsOf e)).take (P.cellsOf e)).flatten = cs := qek (by omega)
   refine ⟨b1, avs.flatten, r1, ?_, ?_⟩
   ·
    conv => arg 4; rw [← hcs]
    refine VRels.flat (by simpa using l1) fun k a c ha hc => ?_
    have hk : k < m := by have := (List.getElem?_eq_some_iff.1 ha).1; omega
    rw [List.getElem?_map, List.getElem?_range hk] at hc
    simp only [Option.map_some, Option.some.injEq] at hc
    subst hc
    exact (hal k a hk ha).1
   ·
    unfold Rd
    rw [hu]
    refine ⟨by rw [qcs hall, l1, hce], fun k hk => ?_⟩
    obtain ⟨a, ha⟩ : ∃ a, avs[k]? = some a := ⟨_, List.getElem?_eq_getElem (by omega)⟩
    rw [qct hall ha]
    exact (hal k a hk ha).2
  ·
   cases hp
end
end
section
variable {P : Program}
def wholeB : Option TypeDesc → Bool
 | some (.struct _) => true
 | some (.array _ _) => true
 | _ => false
def RdV (P : Program) (h : Heap) (n : Nat) (t : TypeId) (v : Value) : Prop :=
 bif wholeB (P.underlying t) then ∃ cs : Array Value, v = .agg cs ∧ Rd P h n t cs.toList else Rd P h n t [v]
theorem RdV.ext {h h' : Heap} (hx : Ext h h') {n : Nat} {t : TypeId} {v : Value} (r : RdV P h n t v) : RdV P h' n t v := by
 unfold RdV at r ⊢
 cases hw : wholeB (P.underlying t) with
 | true =>
  rw [hw] at r
  obtain ⟨cs, h1, h2⟩ := r
  exact ⟨cs, h1, h2.ext hx⟩
 | false => rw [hw] at r; exact Rd.ext hx r
variable {H : Type} {enc : TypeId × Value → H} {W : World}
theorem one_of_ok {n : Nat} {t : TypeId} {v : Value} {r : Reach} {base : Nat} (hp : plainT P (n + 1) t = true) (hk : Value.okWide P W r base t v) (hw : wholeB (P.underlying t) = false) : v.cells = #[v] := by
 unfold plainT at hp
 unfold Value.okWide at hk
 cases hu : P.underlying t with
 | none => rw [hu] at hp; cases hp
 | some d =>
  rw [hu] at hp hk hw
  cases d <;> first | (cases hw; done) | skip
  all_goals first
   | (cases hp; done)
   | (simp only [Cell.okWide, hu, Cell.ok] at hk; cases v <;> first | rfl | (exact hk.elim) | (simp at hk))
theorem opens_arg {G n fuel : Nat} {t : TypeId} {v : Value} {r : Reach} {base b0 : Nat} {spare : Nat → Bool} {held : Bool} {x : DataW H × List MemPlace} (hall : ∀ b, spare b = true) (hp : plainT P (n + 1) t = true) (hk : Value.okWide P W r base t v) (ht : DataW.trod enc P W b0 spare held fuel t v.cells.toList = some x)
  (hs : (x.1.weights P t).all (· ≤ reachBytes) = true) : ∀ bs : List RoB, ∃ (bs' : List RoB) (a : Value), RoAll G (bs ++ bs') bs' W ∧ VRel (roRen G (bs ++ bs')) (G + (bs ++ bs').length) a v ∧ RdV P (roHeap G (bs ++ bs')) (n + 1) t a := by
 intro bs
 obtain ⟨b1, avs, r1, v1, d1⟩ := opens (G := G) hall (n + 1) t fuel _ x hp ht hs bs
 cases hw : wholeB (P.underlying t) with
 | true =>
  have hv : ∃ cs, v = .agg cs := by
   unfold Value.okWide at hk
   cases hu : P.underlying t with
   | none => rw [hu] at hw; cases hw
   | some d =>
    rw [hu] at hw hk
    cases d <;> first | (cases hw; done) | (obtain ⟨cs, h1, _⟩ := hk; exact ⟨cs, h1⟩)
  obtain ⟨cs, rfl⟩ := hv
  refine ⟨b1, .agg avs.toArray, r1, ?_, ?_⟩
  ·
   refine .agg _ _ ?_ ?_
   ·
    have := v1.length
    simpa [Value.cells] using this
   ·
    intro k x y hx hy
    have hx' : avs[k]? = some x := by simpa using hx
    obtain ⟨c, hc, hv⟩ := v1.get hx'
    have : cs[k]? = some c := by simpa [Value.cells] using hc
    rw [this] at hy
    cases hy
    exact hv
  ·
   unfold RdV
   rw [hw]
   exact ⟨avs.toArray, rfl, by simpa using d1⟩
 | false =>
  have h1 := one_of_ok hp hk hw
  rw [h1] at v1
  obtain ⟨a, rfl⟩ : ∃ a, avs = [a] := by
   have := v1.length
   match avs, this with
   | [a], _ => exact ⟨a, rfl⟩
  refine ⟨b1, a, r1, ?_, ?_⟩
  ·
   cases v1 with
   | cons h t => exact h
  ·
   unfold RdV
   rw [hw]
   exact d1
theorem qeZ {G n : Nat} {r : Reach} {base : Nat} {spare : Nat → Bool} {held : Bool} (hall : ∀ b, spare b = true) : ∀ (ts : List TypeId) (vs : List Value) (ds : List (DataW H)) (ps : List MemPlace), DataW.TrodAll enc P W 0 spare held ts vs ds ps →
  (∀ t ∈ ts, plainT P (n + 1) t = true) → (∀ (j : Nat) t v, ts[j]? = some t → vs[j]? = some v → Value.okWide P W r base t v) → (DataW.weightsEach P ts ds).all (· ≤ reachBytes) = true → ∀ bs : List RoB,
  ∃ (bs' : List RoB) (avs : List Value), RoAll G (bs ++ bs') bs' W ∧ VRels (roRen G (bs ++ bs')) (G + (bs ++ bs').length) avs vs ∧ ∀ (j : Nat) t a, ts[j]? = some t → avs[j]? = some a → RdV P (roHeap G (bs ++ bs')) (n + 1) t a
 | [], vs, ds, ps, h, _, _, _, bs => by
  obtain ⟨rfl, rfl, rfl⟩ := Go.ChangeShapes.trodAll_nil h
  exact ⟨[], [], (fun b hb => by cases hb), .nil, fun j t a ht => by simp at ht⟩
 | t :: ts, vs, ds, ps, h, hp, hk, hs, bs => by
  obtain ⟨v, vs', d, ds', p, q, rfl, rfl, rfl, ⟨fuel, h0⟩, hr⟩ := Go.ChangeShapes.trodAll_cons h
  have hs1 : (d.weights P t).all (· ≤ reachBytes) = true := List.all_eq_true.2 fun x hx => List.all_eq_true.1 hs x (by simp only [DataW.weightsEach, List.mem_append]; exact .inl hx)
  have hs2 : (DataW.weightsEach P ts ds').all (· ≤ reachBytes) = true := List.all_eq_true.2 fun x hx => List.all_eq_true.1 hs x (by simp only [DataW.weightsEach, List.mem_append]; exact .inr hx)
  obtain ⟨b1, a, r1, v1, d1⟩ := opens_arg (G := G) hall (hp t (by simp)) (hk 0 t v rfl rfl) h0 hs1 bs
  obtain ⟨b2, avs, r2, v2, d2⟩ := qeZ hall ts vs' ds' q hr (fun t' ht => hp t' (List.mem_cons_of_mem _ ht)) (fun j t' v' ht hv => hk (j + 1) t' v' ht hv) hs2 (bs ++ b1)
  refine ⟨b1 ++ b2, a :: avs, ?_, ?_, fun j t' a' ht ha => ?_⟩
  ·
   rw [← List.append_assoc]; exact r1.app.two r2
  ·
   rw [← List.append_assoc]
   exact .cons (v1.mono qcK (by simp)) v2
  ·
   rw [← List.append_assoc]
   cases j with
   | zero =>
    simp only [List.getElem?_cons_zero, Option.some.injEq] at ht ha
    subst ht ha
    exact d1.ext qde
   | succ j =>
    simp only [List.getElem?_cons_succ] at ht ha
    exact d2 j t' a' ht ha
theorem qbF (hl : laidOutB P = true) {W' : World} (hb : Go.RowKit.Below W.heap.size W W') : ∀ (ts : List TypeId) (vs : List Value) (ds : List (DataW H)) (ps : List MemPlace), (∀ t ∈ ts, P.readableRec t = true ∧ t < P.types.size) →
  DataW.TrodAll enc P W 0 (fun _ => true) true ts vs ds ps → DataW.TrodAll enc P W' 0 (fun b => decide (b < W.heap.size)) true ts vs ds ps
 | [], vs, ds, ps, _, h => by
  obtain ⟨rfl, rfl, rfl⟩ := Go.ChangeShapes.trodAll_nil h
  rfl
 | t :: ts, vs, ds, ps, hr, h => by
  obtain ⟨v, vs', d, ds', p, q, rfl, rfl, rfl, h0, hr'⟩ := Go.ChangeShapes.trodAll_cons h
  obtain ⟨h1, h2⟩ := hr t (by simp)
  have hlt : ∀ x ∈ p, x.block < W.heap.size := by obtain ⟨m, hm⟩ := h0; exact DataW.trod_lt m _ _ _ hm
  exact trodAll_cons_mk (Go.RowKit.Below.trod hl h1 h2 h0 hb hlt) (qbF hl hb ts vs' ds' q (fun t' ht => hr t' (List.mem_cons_of_mem _ ht)) hr')
theorem qdQ {base : Nat} {spare : Nat → Bool} {held : Bool} : ∀ {ts : List TypeId} {vs : List Value} {ds : List (DataW H)} {ps : List MemPlace}, DataW.TrodAll enc P W base spare held ts vs ds ps → vs.length = ts.length
 | [], vs, ds, ps, h => by
  obtain ⟨rfl, rfl, rfl⟩ := Go.ChangeShapes.trodAll_nil h
  rfl
 | t :: ts, vs, ds, ps, h => by
  obtain ⟨v, vs', d, ds', p, q, rfl, rfl, rfl, _, hr⟩ := Go.ChangeShapes.trodAll_cons h
  simp [qdQ hr]
end
variable {P : Program} {ρ : Operand → Value} {h : Heap} {K : Value → Heap → Prop} {dst : Option Tmp} {ty : TypeId} {pos : String} {aft : Array Edge} {g : Option (Nat × Bool)}
def OS (B : Nat) (h : Heap) (e : TypeId) (v : Value) (vs : List Value) : Prop :=
 (v = .slice none 0 0 ∧ vs = []) ∨ ∃ i c, B ≤ i ∧ v = .slice (some ⟨i, 0, some 1⟩) vs.length c ∧ h.get i = some ⟨vs, e, true⟩
theorem OS.rs {B : Nat} {e : TypeId} {v : Value} {vs : List Value} (r : OS B h e v vs) : RS h v vs := by
 rcases r with ⟨rfl, rfl⟩ | ⟨i, c, _, rfl, hi⟩
 ·
  exact RS.nil h
 ·
  exact RS.own hi rfl
theorem OS.nil (B : Nat) (h : Heap) (e : TypeId) : OS B h e (.slice none 0 0) [] := .inl ⟨rfl, rfl⟩
theorem OS.new {B : Nat} {e : TypeId} {vs : List Value} {n c : Nat} (hB : B ≤ h.next) (hn : vs.length = n) : OS B (h.alloc ⟨vs, e, true⟩) e (.slice (some ⟨h.next, 0, some 1⟩) n c) vs := by
 subst hn
 exact .inr ⟨h.next, c, hB, rfl, Heap.alloc_new _ _⟩
structure Keeps (v : Value) (h h' : Heap) : Prop where
 c : ∀ j b, h.get j = some b → (∀ s n c, v ≠ .slice (some ⟨j, 0, s⟩) n c) → h'.get j = some b
 o : ∀ j b, h.obj j = some b → h'.obj j = some b
instance (v : Value) (h h' : Heap) : CoeFun (Keeps v h h') (fun _ => ∀ j b, h.get j = some b → (∀ s n c, v ≠ .slice (some ⟨j, 0, s⟩) n c) → h'.get j = some b) := ⟨Keeps.c⟩
theorem Keeps.ext {B : Nat} {e : TypeId} {v : Value} {vs : List Value} {h0 h' : Heap} (k : Keeps v h h') (r : OS B h e v vs) (wf0 : WF h0) (hB : h0.next ≤ B) (hx : Ext h0 h) : Ext h0 h' := by
 refine ⟨fun j b hj => ?_, fun j o hj => k.o j o (hx.o j o hj)⟩
 refine k.c j b (hx.c j b hj) fun s n c hv => ?_
 have hlt := wf0.lt hj
 rcases r with ⟨rfl, _⟩ | ⟨i, c', hi, rfl, _⟩
 ·
  cases hv
 ·
  cases hv; omega
theorem OS.ext {B : Nat} {e : TypeId} {v : Value} {vs : List Value} {h' : Heap} (r : OS B h e v vs) (hx : Ext h h') : OS B h' e v vs := by
 rcases r with ⟨rfl, rfl⟩ | ⟨i, c, h1, rfl, h2⟩
 ·
  exact .inl ⟨rfl, rfl⟩
 ·
  exact .inr ⟨i, c, h1, rfl, hx i _ h2⟩
theorem qa6 {t t2 e : TypeId} {d2 : TypeDesc} {x y : Operand} {by_ B m : Nat} {z u v : Value} {vs news : List Value} [td : TyD P t (.slice e)] [t2d : TyD P t2 d2] [ti : TyI P e 1 by_ z] (hd2 : appB d2 = true) (wf : WF h) (hB : B ≤ h.next)
  (r : OS B h e u vs) (hx : ρ x = u) (hy : ρ y = v) (hs : Src h 1 v m news) (hm : news.length = m) (hone : news.all oneB = true) (h1 : vs.length + m ≤ maxLen) (h2 : (vs.length + m) * by_ ≤ 140737488355328)
  (kk : ∀ u' h', OS B h' e u' (vs ++ news) → Keeps u h h' → WF h' → h.next ≤ h'.next → K u' h') : AOp P ⟨dst, .call ⟨.builtin .append, #[x, y], #[t, t2]⟩, ty, pos, aft, g⟩ ρ h K := by
 rcases r with ⟨rfl, rfl⟩ | ⟨i, c, hBi, rfl, hi⟩
 ·
  refine qdo (z := z) hd2 hx hy hs (by simpa using h1) (by simpa using h2) (fun hm0 => ?_) (fun hm0 => ?_)
  ·
   have : news = [] := List.eq_nil_of_length_eq_zero (by omega)
   subst this
   exact kk _ _ (.inl ⟨rfl, rfl⟩) ⟨fun j b hj _ => hj, fun j b hj => hj⟩ wf (Nat.le_refl _)
  ·
   exact kk _ _ (.inr ⟨h.next, m + 1, hB, by simp [hm], by simp [Heap.alloc_new]⟩) ⟨fun j b hj _ => (wf.ext _).c j b hj, fun j b hj => hj⟩ (wf.alloc _) (by simp [Heap.alloc])
 ·
  refine qgj (z := z) hd2 hx hy hi rfl rfl (by simp) hs hone h1 h2 ?_
  refine kk _ _ (.inr ⟨h.next, vs.length + m + 1, hB, by simp [hm], Heap.kill_alloc_new _ _ _⟩) ⟨fun j b hj hne => ?_, fun j b hj => hj⟩ ((wf.kill i).alloc _) (by simp [Heap.alloc, Heap.kill])
  have := wf.lt hj
  rw [Heap.kill_alloc_old (by omega) (fun e => hne (some 1) vs.length c (by rw [e]))]
  exact hj
section
variable {P : Program} {ρ : Operand → Value} {h : Heap} {K : Value → Heap → Prop} {dst : Option Tmp} {ty : TypeId} {pos : String} {aft : Array Edge} {g : Option (Nat × Bool)}
def Off (v : Value) (j : Nat) : Prop := ∀ s n c, v ≠ .slice (some ⟨j, 0, s⟩) n c
structure Grows (B : Nat) (ea er eb : TypeId) (H : Heap) (av lv : Value) (avs : List Value) (ps : List (List UInt8)) : Prop where
 at_ : OS B H ea av avs
 rows : ∃ vs, OS B H er lv vs ∧ vs.length = ps.length ∧ ∀ (k : Nat) (x : Value) (p : List UInt8), vs[k]? = some x → ps[k]? = some p → ∃ i c, x = .slice (some ⟨i, 0, some 1⟩) p.length c ∧ H.get i = some ⟨bv p, eb, true⟩ ∧ Off av i ∧ Off lv i
 apart : ∀ i s n c, lv = .slice (some ⟨i, 0, s⟩) n c → Off av i
section
variable {B : Nat} {ea er eb : TypeId} {H H' : Heap} {av lv : Value} {avs : List Value} {ps : List (List UInt8)}
end
theorem OS.rb {B : Nat} {e : TypeId} {v : Value} {l : List UInt8} (r : OS B h e v (bv l)) : RB h v l := r.rs
theorem bstr_app (a b : List UInt8) : bstr a ++ bstr b = bstr (a ++ b) := by
 apply ByteArray.ext
 simp [bstr]
theorem qbx (l : List UInt8) : (bstr l).toList = l := ByteArray.toList_mk l
theorem qaO {t t' : TypeId} {x y : Operand} {a b : List UInt8} (hx : ρ x = .string (bstr a)) (hy : ρ y = .string (bstr b)) (he : a = b) (kk : K (.bool true) h) : AOp P ⟨dst, .binOp .eql t x y t', ty, pos, aft, g⟩ ρ h K :=
 qdZ hx hy (c := true) (by simp only [strB]; rw [he]; simp) kk
theorem qbY {t t' : TypeId} {x y : Operand} {a b : List UInt8} (hx : ρ x = .string (bstr a)) (hy : ρ y = .string (bstr b)) (he : a = b) (kk : K (.bool false) h) : AOp P ⟨dst, .binOp .neq t x y t', ty, pos, aft, g⟩ ρ h K :=
 qdZ hx hy (c := false) (by simp only [strB]; rw [he]; simp) kk
theorem qbv {t t' : TypeId} {x y : Operand} {a b : List UInt8} (hx : ρ x = .string (bstr a)) (hy : ρ y = .string (bstr b)) (he : ¬ a = b) (kk : K (.bool true) h) : AOp P ⟨dst, .binOp .neq t x y t', ty, pos, aft, g⟩ ρ h K :=
 qdZ hx hy (c := true) (by simp only [strB, qbx]; rw [show (a == b) = false from by simpa using he]; rfl) kk
theorem qbZ {t t' : TypeId} {x y : Operand} {a b : List UInt8} (hx : ρ x = .string (bstr a)) (hy : ρ y = .string (bstr b)) (hs : a.length + b.length ≤ maxLen) (kk : K (.string (bstr (a ++ b))) h) : AOp P ⟨dst, .binOp .add t x y t', ty, pos, aft, g⟩ ρ h K :=
 op_strAdd hx hy (by simpa [bstr, ByteArray.size] using hs) (by rw [bstr_app]; exact kk)
end
section
variable {P : Program} {ρ : Operand → Value} {h : Heap} {K : Value → Heap → Prop} {dst : Option Tmp} {ty : TypeId} {pos : String} {aft : Array Edge} {g : Option (Nat × Bool)}
theorem qcF {t : TypeId} {ps rs : Array TypeId} {vr : Bool} [ti : TyD P t (.func ps rs vr)] (fn : Fn) (f c : Array Value) (w : World) (d : Nat) : (Op.equalIn (d + 1) t (.func fn f c) .nilFunc).run P w = .ok false w := by
 simp [Op.equalIn, ti.run]
theorem qb6 {t t' : TypeId} {x y : Operand} {a b : Bool} [ti : TyD P t .bool] (hx : ρ x = .bool a) (hy : ρ y = .bool b) (he : a = b) (kk : K (.bool true) h) : AOp P ⟨dst, .binOp .eql t x y t', ty, pos, aft, g⟩ ρ h K :=
 qd7 hx hy (by rw [show (a == b) = true from by rw [he]; exact beq_self_eq_true b]; exact kk)
theorem ResV.cell {fn : Func} {env : Env} {a : Tmp} {t : TypeId} {i o : Nat} {s : Option Nat} {b : Blk} {d : TypeDesc} {v : Value} [td : TyD P t d] (hr : fn.results = #[.cell a t]) (hx : env.get a = .pointer (some ⟨i, o, s⟩)) (ha : aggB d = false)
  (hi : h.get i = some b) (hv : b.cells[o]? = some v) : ResV P fn env h v := by
 intro N φ tmps w r
 obtain ⟨_, _, e1⟩ := (hx ▸ r.env a).ptr_inv
 obtain ⟨c, hc, hr2⟩ := r.sim.cell hi hv
 refine ⟨c, ?_, hr2⟩
 simp only [results, hr]
 simp only [List.mapM_toArray, List.mapM_cons, List.mapM_nil, Sem.run_bind, Sem.run_map, Sem.run_pure, e1]
 simp [asAddr, loadVar, td.isAgg, ha, hc]
end
def Fresh (n : Nat) (v : Value) : Prop := v = .slice none 0 0 ∨ ∃ l c, v = .slice (some ⟨n, 0, some 1⟩) l c
section
variable {P : Program} {ρ : Operand → Value} {h : Heap} {K : Value → Heap → Prop} {dst : Option Tmp} {ty : TypeId} {pos : String} {aft : Array Edge} {g : Option (Nat × Bool)}
structure Two (B : Nat) (ea eb : TypeId) (H : Heap) (u v : Value) (us vs : List Value) : Prop where
 a : OS B H ea u us
 b : OS B H eb v vs
 ap : ∀ i s n c, v = .slice (some ⟨i, 0, s⟩) n c → Off u i
section
variable {B : Nat} {ea eb : TypeId} {H H' : Heap} {u v u' v' : Value} {us vs us' vs' : List Value}
end
end
end Go.Eng
/- . -/
namespace Go.Eng
open Go
open Go.ChangeMaps (setBlock)
theorem Heap.allocO_new (h : Heap) (o : AObj) : (h.allocO o).obj h.next = some o := by simp [Heap.allocO]
theorem Heap.allocO_old {h : Heap} {o : AObj} {i : Nat} (hi : i ≠ h.next) : (h.allocO o).obj i = h.obj i := by simp [Heap.allocO, hi]
theorem Heap.setO_at (h : Heap) (i : Nat) (o : AObj) : (h.setO i o).obj i = some o := by simp [Heap.setO]
theorem Heap.setO_other {h : Heap} {i j : Nat} {o : AObj} (hj : j ≠ i) : (h.setO i o).obj j = h.obj j := by simp [Heap.setO, hj]
theorem WF.allocO {h : Heap} (wf : WF h) (o : AObj) : WF (h.allocO o) := by
 refine ⟨fun i hi => ?_, fun i hi => ?_⟩
 ·
  have h1 : h.next + 1 ≤ i := hi
  exact wf.c i (by omega)
 ·
  have h1 : h.next + 1 ≤ i := hi
  rw [Heap.allocO_old (by omega)]
  exact wf.o i (by omega)
theorem WF.extO {h : Heap} (wf : WF h) (o : AObj) : Ext h (h.allocO o) := by
 refine ⟨fun _ _ hi => hi, fun i c hi => ?_⟩
 have := wf.ltO hi
 rw [Heap.allocO_old (by omega)]
 exact hi
theorem WF.setO {h : Heap} (wf : WF h) {i : Nat} (hi : i < h.next) (o : AObj) : WF (h.setO i o) := by
 refine ⟨fun j hj => wf.c j hj, fun j hj => ?_⟩
 have h1 : h.next ≤ j := hj
 rw [Heap.setO_other (by omega)]
 exact wf.o j h1
theorem WF.ext_setO {h h1 : Heap} (wf : WF h) (hx : Ext h h1) {j : Nat} (hj : h.next ≤ j) (o : AObj) : Ext h (h1.setO j o) := by
 refine ⟨fun i c hi => hx.c i c hi, fun i c hi => ?_⟩
 have h2 := wf.ltO hi
 rw [Heap.setO_other (by omega)]
 exact hx.o i c hi
section
variable {P : Program} {φ : Ren} {h : Heap} {w : World}
theorem Sim.allocO (s : Sim P φ h w) (o : AObj) (ob : Obj) (hr : ORel (Ren.put φ h.next ⟨w.heap.size, 0, 0⟩) (h.next + 1) h.next o (w.alloc ob)) :
  Sim P (Ren.put φ h.next ⟨w.heap.size, 0, 0⟩) (h.allocO o) (w.alloc ob) ∧ Step φ h w (Ren.put φ h.next ⟨w.heap.size, 0, 0⟩) (h.allocO o) (w.alloc ob) := by
 have hheap : ∀ k : Nat, (w.alloc ob).heap[k]? = if k = w.heap.size then some ob else w.heap[k]? := fun k => qdX w _ k
 have hold : ∀ i b, (h.allocO o).obj i = some b → i ≠ h.next → h.obj i = some b := by
  intro i b hb hne
  rwa [Heap.allocO_old hne] at hb
 constructor
 ·
  refine ⟨s.next.allocO o, ?_, ?_, ?_, ?_, ?_, ?_⟩
  ·
   intro i b hb
   refine (s.blk i b hb).world Ren.put_lt (s.lt hb) (by simp [Heap.allocO]) ?_
   rw [hheap, if_neg (by have := s.low i b hb; omega)]
  ·
   intro i b hb
   rw [Ren.put_lt i (s.lt hb)]
   have := s.low i b hb
   simp; omega
  ·
   intro i j b hb ho hj he
   cases hxj : (h.allocO o).get j with
   | none => exact absurd hxj hj
   | some bj =>
    rw [Ren.put_lt i (s.lt hb), Ren.put_lt j (s.lt hxj)] at he
    exact s.apart i j b hb ho hj he
  ·
   intro g hg
   obtain ⟨h1, h2⟩ := s.glob g hg
   exact ⟨by rw [Ren.put_lt g h2]; exact h1, by simp only [Heap.allocO]; omega⟩
  ·
   intro i x hi
   by_cases hin : i = h.next
   ·
    subst hin
    rw [Heap.allocO_new] at hi
    cases hi
    exact hr
   ·
    have hi' := hold i x hi hin
    refine (s.objs i x hi').world Ren.put_lt (s.ltO hi') (by simp [Heap.allocO]) ?_
    rw [hheap, if_neg (by have := s.lowO hi'; omega)]
  ·
   intro i j x hi hj he
   cases hxj : (h.allocO o).obj j with
   | none => exact absurd hxj hj
   | some y =>
    by_cases hin : i = h.next
    ·
     by_cases hjn : j = h.next
     ·
      omega
     ·
      exfalso
      have hj' := hold j y hxj hjn
      rw [hin, Ren.put_at, Ren.put_lt j (s.ltO hj')] at he
      have := s.lowO hj'
      simp at he; omega
    ·
     have hi' := hold i x hi hin
     rw [Ren.put_lt i (s.ltO hi')] at he
     by_cases hjn : j = h.next
     ·
      exfalso
      rw [hjn, Ren.put_at] at he
      have := s.lowO hi'
      simp at he; omega
     ·
      have hj' := hold j y hxj hjn
      rw [Ren.put_lt j (s.ltO hj')] at he
      exact s.apartO i j x hi' (by rw [hj']; simp) he
 ·
  refine ⟨by simp [Heap.allocO], Ren.put_lt, rfl, rfl, rfl, by simp, fun k hk _ => by rw [hheap, if_neg (by omega)], ?_⟩
  rintro k (⟨i, b, h1, h2, h3⟩ | ⟨i, x, h1, h3⟩)
  ·
   rw [Ren.put_lt i (s.lt h1)] at h3
   exact .inl (.inl ⟨i, b, h1, h2, h3⟩)
  ·
   by_cases hin : i = h.next
   ·
    subst hin
    rw [Ren.put_at] at h3
    exact .inr (by simp at h3; omega)
   ·
    have hi' := hold i x h1 hin
    rw [Ren.put_lt i (s.ltO hi')] at h3
    exact .inl (.inr ⟨i, x, hi', h3⟩)
theorem Sim.setO (s : Sim P φ h w) {i : Nat} {o o' : AObj} (hi : h.obj i = some o) (ob : Obj) {w' : World} (hw : ∀ k : Nat, w'.heap[k]? = if k = (φ i).b then some ob else w.heap[k]?) (hsz : w'.heap.size = w.heap.size)
  (hos : w'.os = w.os) (htape : w'.tape = w.tape) (hout : w'.output = w.output) (hr : ORel φ h.next i o' w') : Sim P φ (h.setO i o') w' ∧ Step φ h w φ (h.setO i o') w' := by
 obtain ⟨x, x1, _, x2⟩ := (s.objs i o hi).obj
 have hown : ∀ j b, h.get j = some b → b.own = true → (φ j).b ≠ (φ i).b := by
  intro j b hj hbo he
  obtain ⟨arr, fr, q1, _⟩ := s.owned hj hbo
  rw [he, x1] at q1
  exact x2 _ _ _ (Option.some.inj q1)
 constructor
 ·
  refine ⟨s.next.setO (s.ltO hi) o', ?_, ?_, ?_, s.glob, ?_, ?_⟩
  ·
   intro j b hj
   by_cases he : (φ j).b = (φ i).b
   ·
    have hno : ¬ b.own = true := fun hbo => hown j b hj hbo he
    have hb := s.blk j b hj
    unfold BRel at hb ⊢
    rw [if_neg hno] at hb ⊢
    refine ⟨?_, fun k v hk => ?_⟩
    ·
     rcases hb.1 with q | ⟨_, arr, t, fr, q, _⟩
     ·
      exact .inl q
     ·
      exfalso
      rw [he, x1] at q
      exact x2 _ _ _ (Option.some.inj q)
    obtain ⟨c, hc, _⟩ := hb.2 k v hk
    obtain ⟨y, y1, y2⟩ := cells_of_cell hc
    exfalso
    have y3 : w.heap[(φ j).b]? = some y := y1
    rw [he, x1] at y3
    cases y3
    cases x with
    | cells arr e f => exact x2 arr e f rfl
    | _ => cases y2
   ·
    refine (s.blk j b hj).world (fun _ _ => rfl) (s.lt hj) (Nat.le_refl _) ?_
    rw [hw, if_neg he]
  ·
   intro j b hj
   rw [hsz]
   exact s.low j b hj
  ·
   exact s.apart
  ·
   intro j y hj
   by_cases hji : j = i
   ·
    subst hji
    rw [Heap.setO_at] at hj
    cases hj
    exact hr
   ·
    rw [Heap.setO_other hji] at hj
    refine (s.objs j y hj).world (fun _ _ => rfl) (s.ltO hj) (Nat.le_refl _) ?_
    rw [hw, if_neg]
    intro he
    exact hji (s.apartO i j o hi (by rw [hj]; simp) he)
  ·
   intro j k y hj hk he
   have key : ∀ m, (h.setO i o').obj m ≠ none → ∃ z, h.obj m = some z := by
    intro m hm
    by_cases hmi : m = i
    ·
     subst hmi; exact ⟨o, hi⟩
    ·
     rw [Heap.setO_other hmi] at hm
     cases hx : h.obj m with
     | none => exact absurd hx hm
     | some z => exact ⟨z, rfl⟩
   obtain ⟨z, hz⟩ := key j (by rw [hj]; simp)
   obtain ⟨z2, hz2⟩ := key k hk
   exact s.apartO j k z hz (by rw [hz2]; simp) he
 ·
  refine ⟨Nat.le_refl _, fun _ _ => rfl, hos, htape, hout, by omega, ?_, ?_⟩
  ·
   intro k hk hno
   rw [hw, if_neg]
   intro he
   exact hno (.inr ⟨i, o, hi, he.symm⟩)
  ·
   rintro k (⟨j, b, h1, h2, h3⟩ | ⟨j, y, h1, h3⟩)
   ·
    exact .inl (.inl ⟨j, b, h1, h2, h3⟩)
   ·
    by_cases hji : j = i
    ·
     subst hji; exact .inl (.inr ⟨j, o, hi, h3⟩)
    ·
     rw [Heap.setO_other hji] at h1
     exact .inl (.inr ⟨j, y, h1, h3⟩)
theorem qbj {w : World} {b : Nat} {o : Obj} (hb : b < w.heap.size) (k : Nat) : (setBlock w b o).heap[k]? = if k = b then some o else w.heap[k]? := by
 show (w.heap.setIfInBounds b o)[k]? = _
 rw [Array.getElem?_setIfInBounds]
 by_cases he : b = k
 ·
  subst he; simp [hb]
 ·
  rw [if_neg he, if_neg (fun e => he e.symm)]
theorem qch {w : World} {r : Nat} {x : Obj} (hr : w.heap[r]? = some x) (hx : ∀ c e f, x ≠ .cells c e f) (o' : Obj) : (setObj r o').run P w = .ok () (setBlock w r o') := by
 cases x with
 | cells c e f => exact absurd rfl (hx c e f)
 | _ => simp [setObj, Sem.run, hr, setBlock]
end
abbrev KV := List (List UInt8 × Value × Nat)
def ents (l : KV) : List AEnt := l.map fun e => ⟨.string (bstr e.1), e.2.1, e.2.2⟩
inductive ELs (φ : Ren) (n : Nat) : KV → List MapEntry → Prop
 | nil : ELs φ n [] []
 | cons {k : List UInt8} {v : Value} {b : Nat} {l : KV} {c : MapEntry} {cs : List MapEntry} (hk : c.key = .string (bstr k)) (hv : VRel φ n v c.val) (hb : c.born = b) (t : ELs φ n l cs) : ELs φ n ((k, v, b) :: l) (c :: cs)
theorem ELs.of {φ : Ren} {n : Nat} : ∀ {l : KV} {cs : List MapEntry}, (ents l).length = cs.length → (∀ (k : Nat) e c, (ents l)[k]? = some e → cs[k]? = some c → ERel φ n e c) → ELs φ n l cs
 | [], [], _, _ => .nil
 | [], _ :: _, h, _ => by simp [ents] at h
 | _ :: _, [], h, _ => by simp [ents] at h
 | (k, v, b) :: l, c :: cs, h, hr => by
  obtain ⟨q1, q2, q3⟩ := hr 0 _ _ rfl rfl
  exact .cons q1.string_inv q2 q3 (ELs.of (by simpa [ents] using h) (fun j e d he hd => hr (j + 1) e d he hd))
theorem ELs.to {φ : Ren} {n : Nat} {l : KV} {cs : List MapEntry} (r : ELs φ n l cs) : (ents l).length = cs.length ∧ ∀ (k : Nat) e c, (ents l)[k]? = some e → cs[k]? = some c → ERel φ n e c := by
 induction r with
 | nil => exact ⟨rfl, fun k e c he => by simp [ents] at he⟩
 | cons hk hv hb t ih =>
  refine ⟨by have := ih.1; simp [ents] at this ⊢; exact this, fun k e c he hc => ?_⟩
  cases k with
  | zero =>
   simp [ents] at he hc
   subst he hc
   exact ⟨by rw [hk]; exact .string _, hv, hb⟩
  | succ k => exact ih.2 k e c (by simpa [ents] using he) (by simpa using hc)
def getS {α : Type} (l : List (List UInt8 × α × Nat)) (s : List UInt8) : Option α := (l.find? (fun e => e.1 == s)).map fun e => e.2.1
def putS {α : Type} : List (List UInt8 × α × Nat) → List UInt8 → α → Nat → List (List UInt8 × α × Nat)
 | [], s, v, c => [(s, v, c)]
 | (k, u, b) :: l, s, v, c => if k == s then (k, v, b) :: l else (k, u, b) :: putS l s v c
def delS {α : Type} : List (List UInt8 × α × Nat) → List UInt8 → List (List UInt8 × α × Nat)
 | [], _ => []
 | (k, u, b) :: l, s => if k == s then l else (k, u, b) :: delS l s
def hasS {α : Type} (l : List (List UInt8 × α × Nat)) (s : List UInt8) : Bool := l.any fun e => e.1 == s
theorem qdB (a b : List UInt8) : (bstr a == bstr b) = (a == b) := by
 rw [beq_toListBytes, qbx, qbx]
theorem qcq {φ : Ren} {n : Nat} {s : List UInt8} {l : KV} {cs : List MapEntry} (r : ELs φ n l cs) : ∀ i, (Instr.findNow .string (.string (bstr s)) cs i = some none ∧ getS l s = none ∧ hasS l s = false ∧ delS l s = l ∧ ∀ v c, putS l s v c = l ++ [(s, v, c)]) ∨
  ∃ j u cv, Instr.findNow .string (.string (bstr s)) cs i = some (some (i + j, cv)) ∧ getS l s = some u ∧ VRel φ n u cv ∧ hasS l s = true ∧ j < cs.length ∧ (∃ c, cs[j]? = some c ∧ c.key = .string (bstr s)) ∧ ELs φ n (delS l s) (cs.eraseIdx j) ∧
   ∀ v cv' c, VRel φ n v cv' → ELs φ n (putS l s v c) (cs.modify j fun e => { e with key := .string (bstr s), val := cv' }) := by
 induction r with
 | nil => exact fun i => .inl ⟨rfl, rfl, rfl, rfl, fun _ _ => rfl⟩
 | @cons k v b l c cs hk hv hb t ih =>
  intro i
  by_cases he : k = s
  ·
   subst he
   have hb1 : (k == k) = true := beq_self_eq_true k
   refine .inr ⟨0, v, c.val, ?_, ?_, hv, ?_, by simp, ⟨c, rfl, hk⟩, ?_, fun v' cv' c' hv' => ?_⟩
   ·
    simp [Instr.findNow, Instr.sameNow, hk, qdB]
   ·
    simp [getS]
   ·
    simp [hasS]
   ·
    simp only [delS, hb1, if_true, List.eraseIdx_zero, List.tail_cons]; exact t
   ·
    simp only [putS, hb1, if_true, List.modify_zero_cons]
    exact .cons rfl hv' hb t
  ·
   have hb1 : (k == s) = false := beq_eq_false_iff_ne.2 he
   have hb2 : (s == k) = false := beq_eq_false_iff_ne.2 (fun e => he e.symm)
   have hn : Instr.findNow .string (.string (bstr s)) (c :: cs) i = Instr.findNow .string (.string (bstr s)) cs (i + 1) := by
    simp only [Instr.findNow, Instr.sameNow, hk, qdB, hb2]
   rcases ih (i + 1) with ⟨h1, h2, h3, h4, h5⟩ | ⟨j, u, cv, h1, h2, h3, h4, h5, h6, h7, h8⟩
   ·
    refine .inl ⟨by rw [hn, h1], ?_, ?_, ?_, fun v' c' => ?_⟩
    ·
     simpa [getS, hb1] using h2
    ·
     simpa [hasS, hb1] using h3
    ·
     simp [delS, hb1, h4]
    ·
     simp [putS, hb1, h5]
   ·
    refine .inr ⟨j + 1, u, cv, by rw [hn, h1]; congr 3; omega, ?_, h3, ?_, by simpa using h5, ?_, ?_, fun v' cv' c' hv' => ?_⟩
    ·
     simpa [getS, hb1] using h2
    ·
     simpa [hasS, hb1] using h4
    ·
     obtain ⟨d, d1, d2⟩ := h6; exact ⟨d, by simpa using d1, d2⟩
    ·
     simp only [delS, hb1, Bool.false_eq_true, if_false, List.eraseIdx_cons_succ]
     exact .cons hk hv hb h7
    ·
     simp only [putS, hb1, Bool.false_eq_true, if_false, List.modify_succ_cons]
     exact .cons hk hv hb (h8 v' cv' c' hv')
theorem ELs.push {φ : Ren} {n : Nat} {l : KV} {cs : List MapEntry} (r : ELs φ n l cs) {s : List UInt8} {v cv : Value} {b : Nat} (hv : VRel φ n v cv) : ELs φ n (l ++ [(s, v, b)]) (cs ++ [{ key := .string (bstr s), val := cv, born := b }]) := by
 induction r with
 | nil => exact .cons rfl hv rfl .nil
 | cons hk hv' hb t ih => exact .cons hk hv' hb ih
section ops
variable {P : Program} {ρ : Operand → Value} {h : Heap} {K : Value → Heap → Prop} {dst : Option Tmp} {ty : TypeId} {pos : String} {aft : Array Edge} {g : Option (Nat × Bool)}
theorem mapOf {φ : Ren} {w : World} {i : Nat} {l : KV} {clock : Nat} (s : Sim P φ h w) (hi : h.obj i = some (.map (ents l) clock)) : ∃ cs : Array MapEntry, w.heap[(φ i).b]? = some (.map cs clock) ∧ ELs φ h.next l cs.toList := by
 obtain ⟨cs, h1, h2, h3⟩ := s.objs i _ hi
 exact ⟨cs, h1, ELs.of (by simpa using h2) (fun k e c he hc => h3 k e c he (by simpa using hc))⟩
theorem ORel.ofMap {φ : Ren} {n i : Nat} {l : KV} {clock : Nat} {w : World} {cs : Array MapEntry} (hw : w.heap[(φ i).b]? = some (.map cs clock)) (r : ELs φ n l cs.toList) : ORel φ n i (.map (ents l) clock) w :=
 ⟨cs, hw, by simpa using r.to.1, fun k e c he hc => r.to.2 k e c he (by simpa using hc)⟩
theorem qbt {kt : TypeId} [tk : TyD P kt .string] (b : Bool) (s : List UInt8) (w : World) : (Instr.checkKey b 10000 kt (.string (bstr s))).run P w = .ok () w := by
 have key : ∀ n, (Instr.checkKey b (n + 1) kt (.string (bstr s))).run P w = .ok () w := fun n => by simp [Instr.checkKey, tk.run]
 exact key 9999
theorem qby {kt : TypeId} [tk : TyD P kt .string] (s : List UInt8) (cs : List MapEntry) (w : World) {r : Option (Nat × Value)} (hr : Instr.findNow .string (.string (bstr s)) cs 0 = some r) : (Instr.findKey kt (.string (bstr s)) cs).run P w = .ok r w := by
 simp [Instr.findKey, tk.run, hr]
theorem qbH {w : World} {r : Nat} {cs : Array MapEntry} {k : Nat} (hr : w.heap[r]? = some (.map cs k)) : (getObj r).run P w = .ok (.map cs k) w := by
 simp [getObj, Sem.run, hr]
theorem qc8 {t : TypeId} (kk : K (.map (some h.next)) (h.allocO (.map (ents []) 0))) : AOp P ⟨dst, .makeMap t none, ty, pos, aft, g⟩ ρ h K :=
 .of_run fun φ ac w r => by
  obtain ⟨s1, s2⟩ := r.sim.allocO (.map (ents []) 0) (.map #[] 0) (ORel.ofMap (cs := #[]) (by rw [Ren.put_at]; exact (qdX w _ _).trans (if_pos rfl)) .nil)
  refine ⟨.map (some w.heap.size), w.alloc (.map #[] 0), _, _, _, ?_, kk, ?_, s1, s2⟩
  ·
   simp [execOp, Instr.makeMap]
  ·
   have := VRel.map (φ := Ren.put φ h.next ⟨w.heap.size, 0, 0⟩) (n := h.next + 1) h.next (by omega)
   rw [Ren.put_at] at this
   exact this
theorem op_lookup {t kt et : TypeId} {x y : Operand} {i esz eb clock : Nat} {z : Value} {s : List UInt8} {l : KV} [td : TyD P t (.map kt et)] [tk : TyD P kt .string] [te : TyI P et esz eb z] (hx : ρ x = .map (some i)) (hy : ρ y = .string (bstr s)) (hi : h.obj i = some (.map (ents l) clock)) (hz : plainV z = true)
  (kk : K ((getS l s).getD z) h) : AOp P ⟨dst, .lookup t x y false, ty, pos, aft, g⟩ ρ h K :=
 .of_pure kk fun φ ac w r => by
  obtain ⟨_, e1⟩ := (hx ▸ r.ev x (by simp [Op.operands])).map_inv
  have e2 := (hy ▸ r.ev y (by simp [Op.operands])).string_inv
  obtain ⟨cs, q1, q2⟩ := mapOf r.sim hi
  have hrun : ∀ r', Instr.findNow .string (.string (bstr s)) cs.toList 0 = some r' → (Instr.lookup t (.map (some (φ i).b)) (.string (bstr s)) false).run P w = .ok (match r' with | some (_, v) => v | none => z) w := by
   intro r' hr'
   cases r' with
   | none => simp [Instr.lookup, td.run, qbH q1, qbt, qby _ _ _ hr', te.zero]
   | some p => simp [Instr.lookup, td.run, qbH q1, qbt, qby _ _ _ hr']
  rcases qcq (s := s) q2 0 with ⟨h1, h2, _⟩ | ⟨j, u, cv, h1, h2, h3, _⟩
  ·
   exact ⟨z, by simp [execOp, e1, e2, hrun _ h1], by rw [h2]; exact .of_plain hz⟩
  ·
   exact ⟨cv, by simp [execOp, e1, e2, hrun _ h1], by rw [h2]; exact h3⟩
theorem qfN {t kt et : TypeId} {x y v : Operand} {i clock : Nat} {u : Value} {s : List UInt8} {l : KV} [td : TyD P t (.map kt et)] [tk : TyD P kt .string] (hx : ρ x = .map (some i)) (hy : ρ y = .string (bstr s)) (hv : ρ v = u) (hi : h.obj i = some (.map (ents l) clock))
  (kk : K undef (h.setO i (.map (ents (putS l s u clock)) (if hasS l s then clock else clock + 1)))) : AOp P ⟨dst, .mapUpdate t x y v, ty, pos, aft, g⟩ ρ h K :=
 .of_skip fun φ ac w r => by
  obtain ⟨_, e1⟩ := (hx ▸ r.ev x (by simp [Op.operands])).map_inv
  have e2 := (hy ▸ r.ev y (by simp [Op.operands])).string_inv
  have hvr := hv ▸ r.ev v (by simp [Op.operands])
  obtain ⟨cs, q1, q2⟩ := mapOf r.sim hi
  have hlow := r.sim.lowO hi
  rcases qcq (s := s) q2 0 with ⟨h1, h2, h3, h4, h5⟩ | ⟨j, u', cv, h1, h2, h3, h4, h6, ⟨d, d1, d2⟩, h7, h8⟩
  ·
   rw [h5, h3] at kk
   obtain ⟨s1, s2⟩ := r.sim.setO hi (o' := .map (ents (l ++ [(s, u, clock)])) (clock + 1)) (.map (cs.push { key := .string (bstr s), val := ac.eval v, born := clock }) (clock + 1)) (w' := setBlock w (φ i).b (.map (cs.push { key := .string (bstr s), val := ac.eval v, born := clock }) (clock + 1)))
    (qbj hlow) (by simp [setBlock]) rfl rfl rfl (ORel.ofMap (cs := cs.push { key := .string (bstr s), val := ac.eval v, born := clock }) (by rw [qbj hlow, if_pos rfl]) (by rw [Array.toList_push]; exact q2.push hvr))
   refine ⟨_, φ, _, ?_, kk, s1, s2⟩
   have hrun : (Instr.mapUpdate t (.map (some (φ i).b)) (.string (bstr s)) (ac.eval v)).run P w = .ok () (setBlock w (φ i).b (.map (cs.push { key := .string (bstr s), val := ac.eval v, born := clock }) (clock + 1))) := by
    simp [Instr.mapUpdate, td.run, qbH q1, qbt, qby _ _ _ h1, qch q1 (fun _ _ _ => by simp)]
   simp [execOp, e1, e2, hrun]
  ·
   rw [h4] at kk
   simp only [if_true] at kk
   have hcsj : cs[j]? = some d := by simpa using d1
   obtain ⟨s1, s2⟩ := r.sim.setO hi (o' := .map (ents (putS l s u clock)) clock) (.map (cs.modify j fun e => { e with key := .string (bstr s), val := ac.eval v }) clock) (w' := setBlock w (φ i).b (.map (cs.modify j fun e => { e with key := .string (bstr s), val := ac.eval v }) clock))
    (qbj hlow) (by simp [setBlock]) rfl rfl rfl (ORel.ofMap (cs := cs.modify j fun e => { e with key := .string (bstr s), val := ac.eval v }) (by rw [qbj hlow, if_pos rfl]) (by rw [Array.toList_modify]; exact h8 u _ clock hvr))
   refine ⟨_, φ, _, ?_, kk, s1, s2⟩
   have hkey : (Instr.keyThatStays (.string (bstr s)) (.string (bstr s))).run P w = .ok (.string (bstr s)) w := by simp [Instr.keyThatStays, Instr.sameBits, qdB]
   have hrun : (Instr.mapUpdate t (.map (some (φ i).b)) (.string (bstr s)) (ac.eval v)).run P w = .ok () (setBlock w (φ i).b (.map (cs.modify j fun e => { e with key := .string (bstr s), val := ac.eval v }) clock)) := by
    simp [Instr.mapUpdate, td.run, qbH q1, qbt, qby _ _ _ h1, qch q1 (fun _ _ _ => by simp), hcsj, d2, hkey]
   simp [execOp, e1, e2, hrun]
end ops
section ops
variable {P : Program} {ρ : Operand → Value} {h : Heap} {K : Value → Heap → Prop} {dst : Option Tmp} {ty : TypeId} {pos : String} {aft : Array Edge} {g : Option (Nat × Bool)}
end ops
end Go.Eng
