/-
  Texts of one claim, merged: 4 parts.
-/
import Derived.Test.YtnioldkmckmajaaMnl
import Derived.Maps.RangeRun
import Derived.RangeFuncOwn
import Derived.Lib.OthersKept
import Derived.Laws.RangeAny
set_option maxHeartbeats 16000000
/-
  The engine, part Map: objects that are no cells; maps whose keys are strings.
-/
namespace Go.Eng
open Go
open Go.ChangeMaps (setBlock)
theorem Heap.allocO_new (h : Heap) (o : AObj) : (h.allocO o).obj h.next = some o := by simp [Heap.allocO]
theorem Heap.allocO_old {h : Heap} {o : AObj} {i : Nat} (hi : i ≠ h.next) : (h.allocO o).obj i = h.obj i := by simp [Heap.allocO, hi]
theorem Heap.setO_at (h : Heap) (i : Nat) (o : AObj) : (h.setO i o).obj i = some o := by simp [Heap.setO]
theorem Heap.setO_other {h : Heap} {i j : Nat} {o : AObj} (hj : j ≠ i) : (h.setO i o).obj j = h.obj j := by simp [Heap.setO, hj]
theorem WF.allocO {h : Heap} (wf : WF h) (o : AObj) : WF (h.allocO o) := by
  refine ⟨fun i hi => ?_, fun i hi => ?_⟩
  · have h1 : h.next + 1 ≤ i := hi
    exact wf.c i (by omega)
  · have h1 : h.next + 1 ≤ i := hi
    rw [Heap.allocO_old (by omega)]
    exact wf.o i (by omega)
theorem WF.extO {h : Heap} (wf : WF h) (o : AObj) : Ext h (h.allocO o) := by
  refine ⟨fun _ _ hi => hi, fun i c hi => ?_⟩
  have := wf.ltO hi
  rw [Heap.allocO_old (by omega)]
  exact hi
theorem WF.setO {h : Heap} (wf : WF h) {i : Nat} (hi : i < h.next) (o : AObj) : WF (h.setO i o) := by
  refine ⟨fun j hj => wf.c j hj, fun j hj => ?_⟩
  have h1 : h.next ≤ j := hj
  rw [Heap.setO_other (by omega)]
  exact wf.o j h1
theorem WF.ext_setO {h h1 : Heap} (wf : WF h) (hx : Ext h h1) {j : Nat} (hj : h.next ≤ j) (o : AObj) : Ext h (h1.setO j o) := by
  refine ⟨fun i c hi => hx.c i c hi, fun i c hi => ?_⟩
  have h2 := wf.ltO hi
  rw [Heap.setO_other (by omega)]
  exact hx.o i c hi
section
variable {P : Program} {φ : Ren} {h : Heap} {w : World}
theorem Sim.allocO (s : Sim P φ h w) (o : AObj) (ob : Obj) (hr : ORel (Ren.put φ h.next ⟨w.heap.size, 0, 0⟩) (h.next + 1) h.next o (w.alloc ob)) :
    Sim P (Ren.put φ h.next ⟨w.heap.size, 0, 0⟩) (h.allocO o) (w.alloc ob) ∧ Step φ h w (Ren.put φ h.next ⟨w.heap.size, 0, 0⟩) (h.allocO o) (w.alloc ob) := by
  have hheap : ∀ k : Nat, (w.alloc ob).heap[k]? = if k = w.heap.size then some ob else w.heap[k]? := fun k => heap_push w _ k
  have hold : ∀ i b, (h.allocO o).obj i = some b → i ≠ h.next → h.obj i = some b := by
    intro i b hb hne
    rwa [Heap.allocO_old hne] at hb
  constructor
  · refine ⟨s.next.allocO o, ?_, ?_, ?_, ?_, ?_, ?_⟩
    · intro i b hb
      refine (s.blk i b hb).world Ren.put_lt (s.lt hb) (by simp [Heap.allocO]) ?_
      rw [hheap, if_neg (by have := s.low i b hb; omega)]
    · intro i b hb
      rw [Ren.put_lt i (s.lt hb)]
      have := s.low i b hb
      simp; omega
    · intro i j b hb ho hj he
      cases hxj : (h.allocO o).get j with
      | none => exact absurd hxj hj
      | some bj =>
        rw [Ren.put_lt i (s.lt hb), Ren.put_lt j (s.lt hxj)] at he
        exact s.apart i j b hb ho hj he
    · intro g hg
      obtain ⟨h1, h2⟩ := s.glob g hg
      exact ⟨by rw [Ren.put_lt g h2]; exact h1, by simp only [Heap.allocO]; omega⟩
    · intro i x hi
      by_cases hin : i = h.next
      · subst hin
        rw [Heap.allocO_new] at hi
        cases hi
        exact hr
      · have hi' := hold i x hi hin
        refine (s.objs i x hi').world Ren.put_lt (s.ltO hi') (by simp [Heap.allocO]) ?_
        rw [hheap, if_neg (by have := s.lowO hi'; omega)]
    · intro i j x hi hj he
      cases hxj : (h.allocO o).obj j with
      | none => exact absurd hxj hj
      | some y =>
        by_cases hin : i = h.next
        · by_cases hjn : j = h.next
          · omega
          · exfalso
            have hj' := hold j y hxj hjn
            rw [hin, Ren.put_at, Ren.put_lt j (s.ltO hj')] at he
            have := s.lowO hj'
            simp at he; omega
        · have hi' := hold i x hi hin
          rw [Ren.put_lt i (s.ltO hi')] at he
          by_cases hjn : j = h.next
          · exfalso
            rw [hjn, Ren.put_at] at he
            have := s.lowO hi'
            simp at he; omega
          · have hj' := hold j y hxj hjn
            rw [Ren.put_lt j (s.ltO hj')] at he
            exact s.apartO i j x hi' (by rw [hj']; simp) he
  · refine ⟨by simp [Heap.allocO], Ren.put_lt, rfl, rfl, rfl, by simp, fun k hk _ => by rw [hheap, if_neg (by omega)], ?_⟩
    rintro k (⟨i, b, h1, h2, h3⟩ | ⟨i, x, h1, h3⟩)
    · rw [Ren.put_lt i (s.lt h1)] at h3
      exact .inl (.inl ⟨i, b, h1, h2, h3⟩)
    · by_cases hin : i = h.next
      · subst hin
        rw [Ren.put_at] at h3
        exact .inr (by simp at h3; omega)
      · have hi' := hold i x h1 hin
        rw [Ren.put_lt i (s.ltO hi')] at h3
        exact .inl (.inr ⟨i, x, hi', h3⟩)
theorem Sim.setO (s : Sim P φ h w) {i : Nat} {o o' : AObj} (hi : h.obj i = some o) (ob : Obj) {w' : World} (hw : ∀ k : Nat, w'.heap[k]? = if k = (φ i).b then some ob else w.heap[k]?) (hsz : w'.heap.size = w.heap.size)
    (hos : w'.os = w.os) (htape : w'.tape = w.tape) (hout : w'.output = w.output) (hr : ORel φ h.next i o' w') : Sim P φ (h.setO i o') w' ∧ Step φ h w φ (h.setO i o') w' := by
  obtain ⟨x, x1, _, x2⟩ := (s.objs i o hi).obj
  have hown : ∀ j b, h.get j = some b → b.own = true → (φ j).b ≠ (φ i).b := by
    intro j b hj hbo he
    obtain ⟨arr, fr, q1, _⟩ := s.owned hj hbo
    rw [he, x1] at q1
    exact x2 _ _ _ (Option.some.inj q1)
  constructor
  · refine ⟨s.next.setO (s.ltO hi) o', ?_, ?_, ?_, s.glob, ?_, ?_⟩
    · intro j b hj
      by_cases he : (φ j).b = (φ i).b
      · have hno : ¬ b.own = true := fun hbo => hown j b hj hbo he
        have hb := s.blk j b hj
        unfold BRel at hb ⊢
        rw [if_neg hno] at hb ⊢
        refine ⟨?_, fun k v hk => ?_⟩
        · rcases hb.1 with q | ⟨_, arr, t, fr, q, _⟩
          · exact .inl q
          · exfalso
            rw [he, x1] at q
            exact x2 _ _ _ (Option.some.inj q)
        obtain ⟨c, hc, _⟩ := hb.2 k v hk
        obtain ⟨y, y1, y2⟩ := cells_of_cell hc
        exfalso
        have y3 : w.heap[(φ j).b]? = some y := y1
        rw [he, x1] at y3
        cases y3
        cases x with
        | cells arr e f => exact x2 arr e f rfl
        | _ => cases y2
      · refine (s.blk j b hj).world (fun _ _ => rfl) (s.lt hj) (Nat.le_refl _) ?_
        rw [hw, if_neg he]
    · intro j b hj
      rw [hsz]
      exact s.low j b hj
    · exact s.apart
    · intro j y hj
      by_cases hji : j = i
      · subst hji
        rw [Heap.setO_at] at hj
        cases hj
        exact hr
      · rw [Heap.setO_other hji] at hj
        refine (s.objs j y hj).world (fun _ _ => rfl) (s.ltO hj) (Nat.le_refl _) ?_
        rw [hw, if_neg]
        intro he
        exact hji (s.apartO i j o hi (by rw [hj]; simp) he)
    · intro j k y hj hk he
      have key : ∀ m, (h.setO i o').obj m ≠ none → ∃ z, h.obj m = some z := by
        intro m hm
        by_cases hmi : m = i
        · subst hmi; exact ⟨o, hi⟩
        · rw [Heap.setO_other hmi] at hm
          cases hx : h.obj m with
          | none => exact absurd hx hm
          | some z => exact ⟨z, rfl⟩
      obtain ⟨z, hz⟩ := key j (by rw [hj]; simp)
      obtain ⟨z2, hz2⟩ := key k hk
      exact s.apartO j k z hz (by rw [hz2]; simp) he
  · refine ⟨Nat.le_refl _, fun _ _ => rfl, hos, htape, hout, by omega, ?_, ?_⟩
    · intro k hk hno
      rw [hw, if_neg]
      intro he
      exact hno (.inr ⟨i, o, hi, he.symm⟩)
    · rintro k (⟨j, b, h1, h2, h3⟩ | ⟨j, y, h1, h3⟩)
      · exact .inl (.inl ⟨j, b, h1, h2, h3⟩)
      · by_cases hji : j = i
        · subst hji; exact .inl (.inr ⟨j, o, hi, h3⟩)
        · rw [Heap.setO_other hji] at h1
          exact .inl (.inr ⟨j, y, h1, h3⟩)
theorem setBlock_heap {w : World} {b : Nat} {o : Obj} (hb : b < w.heap.size) (k : Nat) : (setBlock w b o).heap[k]? = if k = b then some o else w.heap[k]? := by
  show (w.heap.setIfInBounds b o)[k]? = _
  rw [Array.getElem?_setIfInBounds]
  by_cases he : b = k
  · subst he; simp [hb]
  · rw [if_neg he, if_neg (fun e => he e.symm)]
theorem run_setObjB {w : World} {r : Nat} {x : Obj} (hr : w.heap[r]? = some x) (hx : ∀ c e f, x ≠ .cells c e f) (o' : Obj) : (setObj r o').run P w = .ok () (setBlock w r o') := by
  cases x with
  | cells c e f => exact absurd rfl (hx c e f)
  | _ => simp [setObj, Sem.run, hr, setBlock]
end
abbrev KV := List (List UInt8 × Value × Nat)
def ents (l : KV) : List AEnt := l.map fun e => ⟨.string (bstr e.1), e.2.1, e.2.2⟩
inductive ELs (φ : Ren) (n : Nat) : KV → List MapEntry → Prop
  | nil : ELs φ n [] []
  | cons {k : List UInt8} {v : Value} {b : Nat} {l : KV} {c : MapEntry} {cs : List MapEntry} (hk : c.key = .string (bstr k)) (hv : VRel φ n v c.val) (hb : c.born = b) (t : ELs φ n l cs) : ELs φ n ((k, v, b) :: l) (c :: cs)
theorem ELs.of {φ : Ren} {n : Nat} : ∀ {l : KV} {cs : List MapEntry}, (ents l).length = cs.length → (∀ (k : Nat) e c, (ents l)[k]? = some e → cs[k]? = some c → ERel φ n e c) → ELs φ n l cs
  | [], [], _, _ => .nil
  | [], _ :: _, h, _ => by simp [ents] at h
  | _ :: _, [], h, _ => by simp [ents] at h
  | (k, v, b) :: l, c :: cs, h, hr => by
    obtain ⟨q1, q2, q3⟩ := hr 0 _ _ rfl rfl
    exact .cons q1.string_inv q2 q3 (ELs.of (by simpa [ents] using h) (fun j e d he hd => hr (j + 1) e d he hd))
theorem ELs.to {φ : Ren} {n : Nat} {l : KV} {cs : List MapEntry} (r : ELs φ n l cs) : (ents l).length = cs.length ∧ ∀ (k : Nat) e c, (ents l)[k]? = some e → cs[k]? = some c → ERel φ n e c := by
  induction r with
  | nil => exact ⟨rfl, fun k e c he => by simp [ents] at he⟩
  | cons hk hv hb t ih =>
    refine ⟨by have := ih.1; simp [ents] at this ⊢; exact this, fun k e c he hc => ?_⟩
    cases k with
    | zero =>
      simp [ents] at he hc
      subst he hc
      exact ⟨by rw [hk]; exact .string _, hv, hb⟩
    | succ k => exact ih.2 k e c (by simpa [ents] using he) (by simpa using hc)
def getS {α : Type} (l : List (List UInt8 × α × Nat)) (s : List UInt8) : Option α := (l.find? (fun e => e.1 == s)).map fun e => e.2.1
def putS {α : Type} : List (List UInt8 × α × Nat) → List UInt8 → α → Nat → List (List UInt8 × α × Nat)
  | [], s, v, c => [(s, v, c)]
  | (k, u, b) :: l, s, v, c => if k == s then (k, v, b) :: l else (k, u, b) :: putS l s v c
def delS {α : Type} : List (List UInt8 × α × Nat) → List UInt8 → List (List UInt8 × α × Nat)
  | [], _ => []
  | (k, u, b) :: l, s => if k == s then l else (k, u, b) :: delS l s
def hasS {α : Type} (l : List (List UInt8 × α × Nat)) (s : List UInt8) : Bool := l.any fun e => e.1 == s
theorem bstr_beq (a b : List UInt8) : (bstr a == bstr b) = (a == b) := by
  rw [beq_toListBytes, bstr_toList, bstr_toList]
theorem findNow_spec {φ : Ren} {n : Nat} {s : List UInt8} {l : KV} {cs : List MapEntry} (r : ELs φ n l cs) : ∀ i, (Instr.findNow .string (.string (bstr s)) cs i = some none ∧ getS l s = none ∧ hasS l s = false ∧ delS l s = l ∧ ∀ v c, putS l s v c = l ++ [(s, v, c)]) ∨
    ∃ j u cv, Instr.findNow .string (.string (bstr s)) cs i = some (some (i + j, cv)) ∧ getS l s = some u ∧ VRel φ n u cv ∧ hasS l s = true ∧ j < cs.length ∧ (∃ c, cs[j]? = some c ∧ c.key = .string (bstr s)) ∧ ELs φ n (delS l s) (cs.eraseIdx j) ∧
      ∀ v cv' c, VRel φ n v cv' → ELs φ n (putS l s v c) (cs.modify j fun e => { e with key := .string (bstr s), val := cv' }) := by
  induction r with
  | nil => exact fun i => .inl ⟨rfl, rfl, rfl, rfl, fun _ _ => rfl⟩
  | @cons k v b l c cs hk hv hb t ih =>
    intro i
    by_cases he : k = s
    · subst he
      have hb1 : (k == k) = true := beq_self_eq_true k
      refine .inr ⟨0, v, c.val, ?_, ?_, hv, ?_, by simp, ⟨c, rfl, hk⟩, ?_, fun v' cv' c' hv' => ?_⟩
      · simp [Instr.findNow, Instr.sameNow, hk, bstr_beq]
      · simp [getS]
      · simp [hasS]
      · simp only [delS, hb1, if_true, List.eraseIdx_zero, List.tail_cons]; exact t
      · simp only [putS, hb1, if_true, List.modify_zero_cons]
        exact .cons rfl hv' hb t
    · have hb1 : (k == s) = false := beq_eq_false_iff_ne.2 he
      have hb2 : (s == k) = false := beq_eq_false_iff_ne.2 (fun e => he e.symm)
      have hn : Instr.findNow .string (.string (bstr s)) (c :: cs) i = Instr.findNow .string (.string (bstr s)) cs (i + 1) := by
        simp only [Instr.findNow, Instr.sameNow, hk, bstr_beq, hb2]
      rcases ih (i + 1) with ⟨h1, h2, h3, h4, h5⟩ | ⟨j, u, cv, h1, h2, h3, h4, h5, h6, h7, h8⟩
      · refine .inl ⟨by rw [hn, h1], ?_, ?_, ?_, fun v' c' => ?_⟩
        · simpa [getS, hb1] using h2
        · simpa [hasS, hb1] using h3
        · simp [delS, hb1, h4]
        · simp [putS, hb1, h5]
      · refine .inr ⟨j + 1, u, cv, by rw [hn, h1]; congr 3; omega, ?_, h3, ?_, by simpa using h5, ?_, ?_, fun v' cv' c' hv' => ?_⟩
        · simpa [getS, hb1] using h2
        · simpa [hasS, hb1] using h4
        · obtain ⟨d, d1, d2⟩ := h6; exact ⟨d, by simpa using d1, d2⟩
        · simp only [delS, hb1, Bool.false_eq_true, if_false, List.eraseIdx_cons_succ]
          exact .cons hk hv hb h7
        · simp only [putS, hb1, Bool.false_eq_true, if_false, List.modify_succ_cons]
          exact .cons hk hv hb (h8 v' cv' c' hv')
theorem ELs.push {φ : Ren} {n : Nat} {l : KV} {cs : List MapEntry} (r : ELs φ n l cs) {s : List UInt8} {v cv : Value} {b : Nat} (hv : VRel φ n v cv) : ELs φ n (l ++ [(s, v, b)]) (cs ++ [{ key := .string (bstr s), val := cv, born := b }]) := by
  induction r with
  | nil => exact .cons rfl hv rfl .nil
  | cons hk hv' hb t ih => exact .cons hk hv' hb ih
section ops
variable {P : Program} {ρ : Operand → Value} {h : Heap} {K : Value → Heap → Prop} {dst : Option Tmp} {ty : TypeId} {pos : String} {aft : Array Edge} {g : Option (Nat × Bool)}
theorem mapOf {φ : Ren} {w : World} {i : Nat} {l : KV} {clock : Nat} (s : Sim P φ h w) (hi : h.obj i = some (.map (ents l) clock)) : ∃ cs : Array MapEntry, w.heap[(φ i).b]? = some (.map cs clock) ∧ ELs φ h.next l cs.toList := by
  obtain ⟨cs, h1, h2, h3⟩ := s.objs i _ hi
  exact ⟨cs, h1, ELs.of (by simpa using h2) (fun k e c he hc => h3 k e c he (by simpa using hc))⟩
theorem ORel.ofMap {φ : Ren} {n i : Nat} {l : KV} {clock : Nat} {w : World} {cs : Array MapEntry} (hw : w.heap[(φ i).b]? = some (.map cs clock)) (r : ELs φ n l cs.toList) : ORel φ n i (.map (ents l) clock) w :=
  ⟨cs, hw, by simpa using r.to.1, fun k e c he hc => r.to.2 k e c he (by simpa using hc)⟩
theorem run_checkKeyS {kt : TypeId} [tk : TyD P kt .string] (b : Bool) (s : List UInt8) (w : World) : (Instr.checkKey b 10000 kt (.string (bstr s))).run P w = .ok () w := by
  have key : ∀ n, (Instr.checkKey b (n + 1) kt (.string (bstr s))).run P w = .ok () w := fun n => by simp [Instr.checkKey, tk.run]
  exact key 9999
theorem run_findKeyS {kt : TypeId} [tk : TyD P kt .string] (s : List UInt8) (cs : List MapEntry) (w : World) {r : Option (Nat × Value)} (hr : Instr.findNow .string (.string (bstr s)) cs 0 = some r) : (Instr.findKey kt (.string (bstr s)) cs).run P w = .ok r w := by
  simp [Instr.findKey, tk.run, hr]
theorem run_getObjM {w : World} {r : Nat} {cs : Array MapEntry} {k : Nat} (hr : w.heap[r]? = some (.map cs k)) : (getObj r).run P w = .ok (.map cs k) w := by
  simp [getObj, Sem.run, hr]
theorem op_makeMap {t : TypeId} (kk : K (.map (some h.next)) (h.allocO (.map (ents []) 0))) : AOp P ⟨dst, .makeMap t none, ty, pos, aft, g⟩ ρ h K :=
  .of_run fun φ ac w r => by
    obtain ⟨s1, s2⟩ := r.sim.allocO (.map (ents []) 0) (.map #[] 0) (ORel.ofMap (cs := #[]) (by rw [Ren.put_at]; exact (heap_push w _ _).trans (if_pos rfl)) .nil)
    refine ⟨.map (some w.heap.size), w.alloc (.map #[] 0), _, _, _, ?_, kk, ?_, s1, s2⟩
    · simp [execOp, Instr.makeMap]
    · have := VRel.map (φ := Ren.put φ h.next ⟨w.heap.size, 0, 0⟩) (n := h.next + 1) h.next (by omega)
      rw [Ren.put_at] at this
      exact this
theorem op_lookup {t kt et : TypeId} {x y : Operand} {i esz eb clock : Nat} {z : Value} {s : List UInt8} {l : KV} [td : TyD P t (.map kt et)] [tk : TyD P kt .string] [te : TyI P et esz eb z] (hx : ρ x = .map (some i)) (hy : ρ y = .string (bstr s)) (hi : h.obj i = some (.map (ents l) clock)) (hz : plainV z = true)
    (kk : K ((getS l s).getD z) h) : AOp P ⟨dst, .lookup t x y false, ty, pos, aft, g⟩ ρ h K :=
  .of_pure kk fun φ ac w r => by
    obtain ⟨_, e1⟩ := (hx ▸ r.ev x (by simp [Op.operands])).map_inv
    have e2 := (hy ▸ r.ev y (by simp [Op.operands])).string_inv
    obtain ⟨cs, q1, q2⟩ := mapOf r.sim hi
    have hrun : ∀ r', Instr.findNow .string (.string (bstr s)) cs.toList 0 = some r' → (Instr.lookup t (.map (some (φ i).b)) (.string (bstr s)) false).run P w = .ok (match r' with | some (_, v) => v | none => z) w := by
      intro r' hr'
      cases r' with
      | none => simp [Instr.lookup, td.run, run_getObjM q1, run_checkKeyS, run_findKeyS _ _ _ hr', te.zero]
      | some p => simp [Instr.lookup, td.run, run_getObjM q1, run_checkKeyS, run_findKeyS _ _ _ hr']
    rcases findNow_spec (s := s) q2 0 with ⟨h1, h2, _⟩ | ⟨j, u, cv, h1, h2, h3, _⟩
    · exact ⟨z, by simp [execOp, e1, e2, hrun _ h1], by rw [h2]; exact .of_plain hz⟩
    · exact ⟨cv, by simp [execOp, e1, e2, hrun _ h1], by rw [h2]; exact h3⟩
theorem op_lookupOk {t kt et : TypeId} {x y : Operand} {i esz eb clock : Nat} {z : Value} {s : List UInt8} {l : KV} [td : TyD P t (.map kt et)] [tk : TyD P kt .string] [te : TyI P et esz eb z] (hx : ρ x = .map (some i)) (hy : ρ y = .string (bstr s)) (hi : h.obj i = some (.map (ents l) clock)) (hz : plainV z = true)
    (kk : K (.tuple #[(getS l s).getD z, .bool (getS l s).isSome]) h) : AOp P ⟨dst, .lookup t x y true, ty, pos, aft, g⟩ ρ h K :=
  .of_pure kk fun φ ac w r => by
    obtain ⟨_, e1⟩ := (hx ▸ r.ev x (by simp [Op.operands])).map_inv
    have e2 := (hy ▸ r.ev y (by simp [Op.operands])).string_inv
    obtain ⟨cs, q1, q2⟩ := mapOf r.sim hi
    have hrun : ∀ r', Instr.findNow .string (.string (bstr s)) cs.toList 0 = some r' → (Instr.lookup t (.map (some (φ i).b)) (.string (bstr s)) true).run P w = .ok (.tuple #[match r' with | some (_, v) => v | none => z, .bool r'.isSome]) w := by
      intro r' hr'
      cases r' with
      | none => simp [Instr.lookup, td.run, run_getObjM q1, run_checkKeyS, run_findKeyS _ _ _ hr', te.zero]
      | some p => simp [Instr.lookup, td.run, run_getObjM q1, run_checkKeyS, run_findKeyS _ _ _ hr']
    rcases findNow_spec (s := s) q2 0 with ⟨h1, h2, _⟩ | ⟨j, u, cv, h1, h2, h3, _⟩
    · exact ⟨_, by simp [execOp, e1, e2, hrun _ h1]; rfl, by rw [h2]; exact .tuple2 (.of_plain hz) (.bool _)⟩
    · exact ⟨_, by simp [execOp, e1, e2, hrun _ h1]; rfl, by rw [h2]; exact .tuple2 h3 (.bool _)⟩
theorem op_lenMap {t kt et : TypeId} {x : Operand} {i clock : Nat} {l : KV} [td : TyD P t (.map kt et)] (hx : ρ x = .map (some i)) (hi : h.obj i = some (.map (ents l) clock)) (kk : K (.int .i64 (l.length : Nat)) h) :
    AOp P ⟨dst, .call ⟨.builtin .len, #[x], #[t]⟩, ty, pos, aft, g⟩ ρ h K :=
  .of_pure kk fun φ ac w r => by
    obtain ⟨_, e1⟩ := (hx ▸ r.ev x (by simp [Op.operands, Call.operands])).map_inv
    obtain ⟨cs, q1, q2⟩ := mapOf r.sim hi
    have hl : l.length = cs.size := by have := q2.to.1; simpa [ents] using this
    refine ⟨.int .i64 (l.length : Nat), ?_, .int _ _⟩
    have hrun : (Builtin.len_ #[t] ty #[.map (some (φ i).b)]).run P w = .ok (.int .i64 (l.length : Nat)) w := by
      simp [Builtin.len_, td.run, run_getObjM q1, hl, goInt]
    simp [execOp, resolve, invoke, builtin, e1, hrun]
theorem op_neMapNil {t t' kt et : TypeId} {x y : Operand} {m : Option Nat} [td : TyD P t (.map kt et)] (hx : ρ x = .map m) (hy : ρ y = .map none) (kk : K (.bool m.isSome) h) : AOp P ⟨dst, .binOp .neq t x y t', ty, pos, aft, g⟩ ρ h K :=
  .of_pure kk fun φ ac w r => by
    have h1 := hx ▸ r.ev x (by simp [Op.operands])
    have e2 := (hy ▸ r.ev y (by simp [Op.operands])).nilMap_inv
    have he : ∃ m' : Option Nat, ac.eval x = .map m' ∧ m'.isNone = !m.isSome := by
      cases m with
      | none => exact ⟨none, h1.nilMap_inv, rfl⟩
      | some i => exact ⟨_, h1.map_inv.2, rfl⟩
    obtain ⟨m', e1, e3⟩ := he
    refine ⟨.bool m.isSome, ?_, .bool _⟩
    simp [execOp, e1, e2, eqGuard, binOp, run_equal_map_nil (P := P) w t kt et m' td.eq, e3]
theorem op_mapUpdate {t kt et : TypeId} {x y v : Operand} {i clock : Nat} {u : Value} {s : List UInt8} {l : KV} [td : TyD P t (.map kt et)] [tk : TyD P kt .string] (hx : ρ x = .map (some i)) (hy : ρ y = .string (bstr s)) (hv : ρ v = u) (hi : h.obj i = some (.map (ents l) clock))
    (kk : K undef (h.setO i (.map (ents (putS l s u clock)) (if hasS l s then clock else clock + 1)))) : AOp P ⟨dst, .mapUpdate t x y v, ty, pos, aft, g⟩ ρ h K :=
  .of_skip fun φ ac w r => by
    obtain ⟨_, e1⟩ := (hx ▸ r.ev x (by simp [Op.operands])).map_inv
    have e2 := (hy ▸ r.ev y (by simp [Op.operands])).string_inv
    have hvr := hv ▸ r.ev v (by simp [Op.operands])
    obtain ⟨cs, q1, q2⟩ := mapOf r.sim hi
    have hlow := r.sim.lowO hi
    rcases findNow_spec (s := s) q2 0 with ⟨h1, h2, h3, h4, h5⟩ | ⟨j, u', cv, h1, h2, h3, h4, h6, ⟨d, d1, d2⟩, h7, h8⟩
    · rw [h5, h3] at kk
      obtain ⟨s1, s2⟩ := r.sim.setO hi (o' := .map (ents (l ++ [(s, u, clock)])) (clock + 1)) (.map (cs.push { key := .string (bstr s), val := ac.eval v, born := clock }) (clock + 1)) (w' := setBlock w (φ i).b (.map (cs.push { key := .string (bstr s), val := ac.eval v, born := clock }) (clock + 1)))
        (setBlock_heap hlow) (by simp [setBlock]) rfl rfl rfl (ORel.ofMap (cs := cs.push { key := .string (bstr s), val := ac.eval v, born := clock }) (by rw [setBlock_heap hlow, if_pos rfl]) (by rw [Array.toList_push]; exact q2.push hvr))
      refine ⟨_, φ, _, ?_, kk, s1, s2⟩
      have hrun : (Instr.mapUpdate t (.map (some (φ i).b)) (.string (bstr s)) (ac.eval v)).run P w = .ok () (setBlock w (φ i).b (.map (cs.push { key := .string (bstr s), val := ac.eval v, born := clock }) (clock + 1))) := by
        simp [Instr.mapUpdate, td.run, run_getObjM q1, run_checkKeyS, run_findKeyS _ _ _ h1, run_setObjB q1 (fun _ _ _ => by simp)]
      simp [execOp, e1, e2, hrun]
    · rw [h4] at kk
      simp only [if_true] at kk
      have hcsj : cs[j]? = some d := by simpa using d1
      obtain ⟨s1, s2⟩ := r.sim.setO hi (o' := .map (ents (putS l s u clock)) clock) (.map (cs.modify j fun e => { e with key := .string (bstr s), val := ac.eval v }) clock) (w' := setBlock w (φ i).b (.map (cs.modify j fun e => { e with key := .string (bstr s), val := ac.eval v }) clock))
        (setBlock_heap hlow) (by simp [setBlock]) rfl rfl rfl (ORel.ofMap (cs := cs.modify j fun e => { e with key := .string (bstr s), val := ac.eval v }) (by rw [setBlock_heap hlow, if_pos rfl]) (by rw [Array.toList_modify]; exact h8 u _ clock hvr))
      refine ⟨_, φ, _, ?_, kk, s1, s2⟩
      have hkey : (Instr.keyThatStays (.string (bstr s)) (.string (bstr s))).run P w = .ok (.string (bstr s)) w := by simp [Instr.keyThatStays, Instr.sameBits, bstr_beq]
      have hrun : (Instr.mapUpdate t (.map (some (φ i).b)) (.string (bstr s)) (ac.eval v)).run P w = .ok () (setBlock w (φ i).b (.map (cs.modify j fun e => { e with key := .string (bstr s), val := ac.eval v }) clock)) := by
        simp [Instr.mapUpdate, td.run, run_getObjM q1, run_checkKeyS, run_findKeyS _ _ _ h1, run_setObjB q1 (fun _ _ _ => by simp), hcsj, d2, hkey]
      simp [execOp, e1, e2, hrun]
end ops
end Go.Eng
/-
  The engine, part MapB: an entry struck; walks over maps and strings.
-/
namespace Go.Eng
open Go
open Go.ChangeMaps (setBlock)
section ops
variable {P : Program} {ρ : Operand → Value} {h : Heap} {K : Value → Heap → Prop} {dst : Option Tmp} {ty : TypeId} {pos : String} {aft : Array Edge} {g : Option (Nat × Bool)}
theorem op_delete {t kt et kt' : TypeId} {x y : Operand} {i clock : Nat} {s : List UInt8} {l : KV} [td : TyD P t (.map kt et)] [tk : TyD P kt .string] (hx : ρ x = .map (some i)) (hy : ρ y = .string (bstr s)) (hi : h.obj i = some (.map (ents l) clock))
    (kk : K (.tuple #[]) (h.setO i (.map (ents (delS l s)) clock))) : AOp P ⟨dst, .call ⟨.builtin .delete, #[x, y], #[t, kt']⟩, ty, pos, aft, g⟩ ρ h K :=
  .of_run fun φ ac w r => by
    obtain ⟨_, e1⟩ := (hx ▸ r.ev x (by simp [Op.operands, Call.operands])).map_inv
    have e2 := (hy ▸ r.ev y (by simp [Op.operands, Call.operands])).string_inv
    obtain ⟨cs, q1, q2⟩ := mapOf r.sim hi
    have hlow := r.sim.lowO hi
    have fin : ∀ cs' : Array MapEntry, ELs φ h.next (delS l s) cs'.toList → (Builtin.delete_ #[t, kt'] ty #[.map (some (φ i).b), .string (bstr s)]).run P w = .ok (.tuple #[]) (setBlock w (φ i).b (.map cs' clock)) →
        ∃ c w' φ' h' v, (execOp ac.eval ⟨dst, .call ⟨.builtin .delete, #[x, y], #[t, kt']⟩, ty, pos, aft, g⟩).run P w = .ok (.value c) w' ∧ K v h' ∧ VRel φ' h'.next v c ∧ Sim P φ' h' w' ∧ Step φ h w φ' h' w' := by
      intro cs' hE hrun
      obtain ⟨s1, s2⟩ := r.sim.setO hi (o' := .map (ents (delS l s)) clock) (.map cs' clock) (w' := setBlock w (φ i).b (.map cs' clock)) (setBlock_heap hlow) (by simp [setBlock]) rfl rfl rfl (ORel.ofMap (cs := cs') (by rw [setBlock_heap hlow, if_pos rfl]) hE)
      exact ⟨.tuple #[], _, φ, _, .tuple #[], by simp [execOp, resolve, invoke, builtin, e1, e2, hrun], kk, .und _, s1, s2⟩
    rcases findNow_spec (s := s) q2 0 with ⟨h1, h2, h3, h4, h5⟩ | ⟨j, u', cv, h1, h2, h3, h4, h6, ⟨d, d1, d2⟩, h7, h8⟩
    · refine fin cs (by rw [h4]; exact q2) ?_
      simp [Builtin.delete_, td.run, run_getObjM q1, run_checkKeyS, run_findKeyS _ _ _ h1, run_setObjB q1 (fun _ _ _ => by simp)]
    · refine fin (cs.eraseIdxIfInBounds j) ?_ ?_
      · have he : (cs.eraseIdxIfInBounds j).toList = cs.toList.eraseIdx j := by
          rw [Array.eraseIdxIfInBounds]
          split
          · simp
          · rename_i hn
            exact absurd (by simpa using h6) hn
        rw [he]
        exact h7
      · simp [Builtin.delete_, td.run, run_getObjM q1, run_checkKeyS, run_findKeyS _ _ _ h1, run_setObjB q1 (fun _ _ _ => by simp)]
theorem op_rangeStr {t : TypeId} {x : Operand} {s : List UInt8} [td : TyD P t .string] (hx : ρ x = .string (bstr s)) (kk : K (.pointer (some ⟨h.next, 0, none⟩)) (h.allocO (.strIter (bstr s) 0))) : AOp P ⟨dst, .range t x, ty, pos, aft, g⟩ ρ h K :=
  .of_run fun φ ac w r => by
    have e1 := (hx ▸ r.ev x (by simp [Op.operands])).string_inv
    obtain ⟨s1, s2⟩ := r.sim.allocO (.strIter (bstr s) 0) (.stringIter (bstr s) 0) ⟨by rw [Ren.put_at]; exact (heap_push w _ _).trans (if_pos rfl), by rw [Ren.put_at]⟩
    refine ⟨.pointer (some ⟨w.heap.size, 0, none⟩), w.alloc (.stringIter (bstr s) 0), _, _, _, ?_, kk, ?_, s1, s2⟩
    · simp [execOp, e1, Instr.range, td.run]
    · have := VRel.ptr (φ := Ren.put φ h.next ⟨w.heap.size, 0, 0⟩) (n := h.next + 1) h.next 0 (by omega)
      rw [Ren.put_at] at this
      exact this
theorem op_nextStr {x : Operand} {it p : Nat} {sp : Option Nat} {s : List UInt8} (hx : ρ x = .pointer (some ⟨it, 0, sp⟩)) (hit : h.obj it = some (.strIter (bstr s) p))
    (kend : s.length ≤ p → K (.tuple #[.bool false]) h)
    (kk : ∀ (b : UInt8) (c d : Nat), s[p]? = some b → (b.toNat < 128 → c = b.toNat ∧ d = 1) → (128 ≤ b.toNat → 128 ≤ c ∧ 1 ≤ d) → c ≤ 2147483647 → K (.tuple #[.bool true, .int .i64 (p : Nat), .int .i32 (c : Nat)]) (h.setO it (.strIter (bstr s) (p + d)))) : AOp P ⟨dst, .next x true, ty, pos, aft, g⟩ ρ h K :=
  .of_run fun φ ac w r => by
    obtain ⟨_, hil, e1⟩ := (hx ▸ r.ev x (by simp [Op.operands])).ptr_inv
    obtain ⟨q1, q0⟩ : w.heap[(φ it).b]? = some (.stringIter (bstr s) p) ∧ (φ it).o = 0 := r.sim.objs it _ hit
    rw [q0] at e1
    have hsz : (bstr s).size = s.length := by simp [bstr, ByteArray.size]
    by_cases hp : p < (bstr s).size
    · have hrun := Lib.run_next_any_at (P := P) w (φ it).b (bstr s) p ty q1 hp
      have hlow := r.sim.lowO hit
      obtain ⟨s1, s2⟩ := r.sim.setO hit (o' := .strIter (bstr s) (p + (Utf8.decode (bstr s) p).2)) (.stringIter (bstr s) (p + (Utf8.decode (bstr s) p).2)) (w' := w.iterAt (φ it).b (bstr s) (p + (Utf8.decode (bstr s) p).2))
        (fun k => setBlock_heap (o := .stringIter (bstr s) (p + (Utf8.decode (bstr s) p).2)) hlow k) (by simp [World.iterAt]) rfl rfl rfl ⟨by rw [show (w.iterAt (φ it).b (bstr s) (p + (Utf8.decode (bstr s) p).2)).heap[(φ it).b]? = _ from setBlock_heap (o := .stringIter (bstr s) (p + (Utf8.decode (bstr s) p).2)) hlow (φ it).b, if_pos rfl], q0⟩
      have hb : s[p]? = some ((bstr s)[p]'hp) := by
        rw [List.getElem?_eq_getElem (by omega)]
        rfl
      refine ⟨_, _, φ, _, _, by simp [execOp, e1, hrun]; rfl, kk _ (Utf8.decode (bstr s) p).1 (Utf8.decode (bstr s) p).2 hb (fun ha => by rw [decode_ascii _ _ hp ha]; exact ⟨rfl, rfl⟩) (fun ha => decode_high _ _ hp ha) (decode_le _ _), ?_, s1, s2⟩
      refine .tuple _ _ rfl fun k a b ha hb' => ?_
      rw [ha] at hb'
      cases hb'
      match k with
      | 0 => simp at ha; subst ha; exact .bool _
      | 1 => simp at ha; subst ha; exact .int _ _
      | 2 => simp at ha; subst ha; exact .int _ _
      | k + 3 => simp at ha
    · have hrun := Lib.run_next_end_at (P := P) w (φ it).b (bstr s) p ty q1 hp
      exact ⟨.tuple #[.bool false], w, φ, h, .tuple #[.bool false], by simp [execOp, e1, hrun], kend (by omega), .tuple _ _ rfl (fun k a b ha hb => by rw [ha] at hb; cases hb; exact .of_scalar (by cases k <;> simp at ha; subst ha; rfl)), r.sim, Step.refl _ _ _⟩
end ops
end Go.Eng
/-
  The engine, part Z: pointers against nil; strings of bytes, by their lists.
-/
namespace Go.Eng
open Go
section
variable {P : Program} {ρ : Operand → Value} {h : Heap} {K : Value → Heap → Prop} {dst : Option Tmp} {ty : TypeId} {pos : String} {aft : Array Edge} {g : Option (Nat × Bool)}
theorem run_equalIn_ptrNil {t e : TypeId} [ti : TyD P t (.pointer e)] (p : Option Addr) (w : World) (d : Nat) : (Op.equalIn (d + 1) t (.pointer p) (.pointer none)).run P w = .ok p.isNone w := by
  cases p <;> simp [Op.equalIn, ti.run]
theorem op_nePtrNil {t t' e : TypeId} {x y : Operand} {m : Option Addr} [td : TyD P t (.pointer e)] (hx : ρ x = .pointer m) (hy : ρ y = .pointer none) (kk : K (.bool m.isSome) h) : AOp P ⟨dst, .binOp .neq t x y t', ty, pos, aft, g⟩ ρ h K :=
  .of_pure kk fun φ ac w r => by
    have h1 := hx ▸ r.ev x (by simp [Op.operands])
    have e2 := (hy ▸ r.ev y (by simp [Op.operands])).nilPtr_inv
    have he : ∃ m' : Option Addr, ac.eval x = .pointer m' ∧ m'.isNone = !m.isSome := by
      cases m with
      | none => exact ⟨none, h1.nilPtr_inv, rfl⟩
      | some a => obtain ⟨i, o, s⟩ := a; exact ⟨_, h1.ptr_inv.2.2, rfl⟩
    obtain ⟨m', e1, e3⟩ := he
    have e4 : (Op.equal t (.pointer m') (.pointer none)).run P w = .ok m'.isNone w := run_equalIn_ptrNil m' w 9999
    exact ⟨.bool m.isSome, by simp [execOp, e1, e2, eqGuard, binOp, e4, e3], .bool _⟩
theorem bstr_size (l : List UInt8) : (bstr l).size = l.length := by simp [bstr, ByteArray.size]
theorem op_lenSB {x : Operand} {t : TypeId} {l : List UInt8} [td : TyD P t .string] (hx : ρ x = .string (bstr l)) (kk : K (.int .i64 (l.length : Nat)) h) : AOp P ⟨dst, .call ⟨.builtin .len, #[x], #[t]⟩, ty, pos, aft, g⟩ ρ h K :=
  op_lenStr hx (by rw [bstr_size]; exact kk)
theorem op_sEqC {t t' : TypeId} {x y : Operand} {a : List UInt8} (b : List UInt8) {c : ByteArray} (hb : bstr b = c) (hx : ρ x = .string (bstr a)) (hy : ρ y = .string c) (kk : K (.bool (a == b)) h) : AOp P ⟨dst, .binOp .eql t x y t', ty, pos, aft, g⟩ ρ h K :=
  op_sEq hx (hb ▸ hy) kk
end
class FAd (P : Program) (t : TypeId) (f : Nat) (off : outParam Nat) : Prop where
  ex : ∃ fs fld sz by_ z, P.underlying t = some (.struct fs) ∧ fs[f]? = some fld ∧ TyI P fld.type sz by_ z ∧ (sz == 0) = false ∧ fld.offset = off
theorem FAd.mk' {P : Program} {t ft : TypeId} {f off sz by_ : Nat} {z : Value} {fs : Array Field} {fld : Field} (hd : P.underlying t = some (.struct fs)) (hf : fs[f]? = some fld) [ti : TyI P ft sz by_ z] (ht : fld.type = ft) (hz : (sz == 0) = false) (ho : fld.offset = off) : FAd P t f off :=
  ⟨fs, fld, sz, by_, z, hd, hf, ht ▸ ti, hz, ho⟩
section
variable {P : Program} {ρ : Operand → Value} {h : Heap} {K : Value → Heap → Prop} {dst : Option Tmp} {ty : TypeId} {pos : String} {aft : Array Edge} {g : Option (Nat × Bool)}
theorem op_fa {t : TypeId} {x : Operand} {f i o off : Nat} {s : Option Nat} [fa : FAd P t f off] (hx : ρ x = .pointer (some ⟨i, o, s⟩)) (kk : K (.pointer (some ⟨i, o + off, none⟩)) h) : AOp P ⟨dst, .fieldAddr t x f, ty, pos, aft, g⟩ ρ h K := by
  obtain ⟨fs, fld, sz, by_, z, h1, h2, h3, h4, rfl⟩ := fa.ex
  haveI : TyD P t (.struct fs) := ⟨h1⟩
  haveI := h3
  exact op_fieldAddr h2 h4 hx kk
end
class StD (P : Program) (t : TypeId) (places : outParam (List (Nat × Nat))) : Prop where
  ex : ∃ fs : List Field, P.underlying t = some (.struct fs.toArray) ∧ fs.map (fun f => (P.info? f.type).map fun i => (f.offset, i.size)) = places.map some
theorem mapM_fields {P : Program} : ∀ {fs : List Field} {places : List (Nat × Nat)}, fs.map (fun f => (P.info? f.type).map fun i => (f.offset, i.size)) = places.map some → ∀ w : World, (fs.mapM fun f => (do pure (f.offset, ← sizeOf f.type) : Sem (Nat × Nat))).run P w = .ok places w
  | [], [], _, w => by simp
  | [], _ :: _, h, _ => by simp at h
  | _ :: _, [], h, _ => by simp at h
  | f :: fs, p :: places, h, w => by
    simp only [List.map_cons, List.cons.injEq] at h
    obtain ⟨h1, h2⟩ := h
    have ih := mapM_fields h2 w
    cases hi : P.info? f.type with
    | none => rw [hi] at h1; cases h1
    | some i =>
      rw [hi] at h1
      simp only [Option.map_some, Option.some.injEq] at h1
      have hs : (sizeOf f.type).run P w = .ok i.size w := by simp [sizeOf, typeInfo, hi]
      rw [List.mapM_cons]
      simp only [Sem.run_bind, hs, Result.andThen_ok, Sem.run_pure, h1, ih]
def nuB : Value → Bool
  | .tuple _ => false
  | _ => true
theorem nuB_ne {v : Value} (h : nuB v = true) : v ≠ undef := by
  rintro rfl; cases h
section
variable {P : Program} {ρ : Operand → Value} {h : Heap} {K : Value → Heap → Prop} {dst : Option Tmp} {ty : TypeId} {pos : String} {aft : Array Edge} {g : Option (Nat × Bool)}
theorem op_buildS {t sz by_ : Nat} {z : Value} {parts : Array (Nat × Operand)} {places : List (Nat × Nat)} {out : List Value} [st : StD P t places] [ti : TyI P t sz by_ z]
    (hu : (parts.toList.all fun p => nuB (ρ p.2)) = true) (hf : fillA (places[·]?) z.cells.toList (parts.toList.map fun p => (p.1, ρ p.2)) = some out) (kk : K (.agg out.toArray) h) : AOp P ⟨dst, .build t parts, ty, pos, aft, g⟩ ρ h K := by
  obtain ⟨fs, h1, h2⟩ := st.ex
  haveI : TyD P t (.struct fs.toArray) := ⟨h1⟩
  refine op_build (fs := fs.toArray) (places := places) (fun w => ?_) (fun p hp => nuB_ne (List.all_eq_true.1 hu p hp)) hf kk
  rw [List.mapM_toArray]
  simp only [Sem.run_map, mapM_fields h2 w]
  rfl
end
def OBdd (n : Nat) : AObj → Prop
  | .map es _ => ∀ e ∈ es, Bdd n e.key ∧ Bdd n e.val
  | .mapIter m _ _ _ => ∀ j, m = some j → j < n
  | .strIter _ _ => True
section
variable {P : Program} {φ φ' : Ren} {h h' ht : Heap} {w w' : World}
theorem Sim.bdd (s : Sim P φ h w) {i : Nat} {b : Blk} (hi : h.get i = some b) : ∀ v ∈ b.cells, Bdd h.next v := by
  intro v hv
  obtain ⟨k, hk⟩ := List.getElem?_of_mem hv
  obtain ⟨c, _, hr⟩ := s.cell hi hk
  exact ⟨φ, c, hr⟩
theorem Sim.obdd (s : Sim P φ h w) {i : Nat} {o : AObj} (hi : h.obj i = some o) : OBdd h.next o := by
  have r := s.objs i o hi
  cases o with
  | map es clock =>
    obtain ⟨cs, _, h2, h3⟩ := r
    intro e he
    obtain ⟨k, hk⟩ := List.getElem?_of_mem he
    have hkl : k < cs.size := by rw [← h2]; exact (List.getElem?_eq_some_iff.1 hk).1
    obtain ⟨q1, q2, _⟩ := h3 k e _ hk (Array.getElem?_eq_getElem hkl)
    exact ⟨⟨φ, _, q1⟩, ⟨φ, _, q2⟩⟩
  | mapIter m since seen stepped => exact r.2.2
  | strIter st pos => trivial
theorem Sim.resetTo (s0 : Sim P φ h w) (s : Sim P φ' h' w') (hn : ht.next = h.next) (wft : WF ht) (hx : Ext ht h') (hb : ∀ i b, ht.get i = some b → h.get i = some b ∨ ∀ v ∈ b.cells, Bdd h.next v) (hbo : ∀ i o, ht.obj i = some o → h.obj i = some o ∨ OBdd h.next o) : Sim P φ' ht w' where
  next := wft
  blk i b hi := by
    have hbd : ∀ v ∈ b.cells, Bdd h.next v := (hb i b hi).elim (fun e => s0.bdd e) id
    have r := s.blk i b (hx.c i b hi)
    unfold BRel at r ⊢
    rw [hn]
    by_cases ho : b.own = true
    · simp only [ho, if_true] at r ⊢
      obtain ⟨arr, fr, h1, h2, h3, h4, h5⟩ := r
      refine ⟨arr, fr, h1, h2, h3, h4, fun k v hk => ?_⟩
      obtain ⟨c, hc, hv⟩ := h5 k v hk
      obtain ⟨φ0, c0, hv0⟩ := hbd v (List.mem_of_getElem? hk)
      exact ⟨c, hc, hv.lower hv0⟩
    · simp only [ho, if_false, Bool.false_eq_true] at r ⊢
      refine ⟨r.1, fun k v hk => ?_⟩
      obtain ⟨c, hc, hv⟩ := r.2 k v hk
      obtain ⟨φ0, c0, hv0⟩ := hbd v (List.mem_of_getElem? hk)
      exact ⟨c, hc, hv.lower hv0⟩
  low i b hi := s.low i b (hx.c i b hi)
  apart i j b hi ho hj he := by
    cases hxj : ht.get j with
    | none => exact absurd hxj hj
    | some bj => exact s.apart i j b (hx.c i b hi) ho (by rw [hx.c j bj hxj]; simp) he
  glob g hg := ⟨(s.glob g hg).1, by rw [hn]; exact (s0.glob g hg).2⟩
  objs i o hi := by
    have hbd : OBdd h.next o := (hbo i o hi).elim (fun e => s0.obdd e) id
    have r := s.objs i o (hx.o i o hi)
    rw [hn]
    cases o with
    | map es clock =>
      obtain ⟨cs, h1, h2, h3⟩ := r
      refine ⟨cs, h1, h2, fun k e c he hc => ?_⟩
      obtain ⟨q1, q2, q3⟩ := h3 k e c he hc
      obtain ⟨⟨_, _, b1⟩, ⟨_, _, b2⟩⟩ := hbd e (List.mem_of_getElem? he)
      exact ⟨q1.lower b1, q2.lower b2, q3⟩
    | mapIter m since seen stepped => exact ⟨r.1, r.2.1, hbd⟩
    | strIter st pos => exact r
  apartO i j o hi hj he := by
    cases hxj : ht.obj j with
    | none => exact absurd hxj hj
    | some oj => exact s.apartO i j o (hx.o i o hi) (by rw [hx.o j oj hxj]; simp) he
theorem Step.resetTo (t : Step φ h w φ' h' w') (hn : ht.next = h.next) (hx : Ext ht h') : Step φ h w φ' ht w' where
  next := by omega
  agree := t.agree
  os := t.os
  tape := t.tape
  output := t.output
  size := t.size
  frame := t.frame
  own k hk := t.own k (by
    rcases hk with ⟨i, b, h1, h2, h3⟩ | ⟨i, o, h1, h3⟩
    · exact .inl ⟨i, b, hx.c i b h1, h2, h3⟩
    · exact .inr ⟨i, o, hx.o i o h1, h3⟩)
theorem ACalls.resetTo {f : FuncId} {args : List Value} {Q : Value → Heap → Prop} (p : ACalls P f args h fun v h' => Bdd h.next v ∧ ∃ ht, ht.next = h.next ∧ WF ht ∧ Ext ht h' ∧ (∀ i b, ht.get i = some b → h.get i = some b ∨ ∀ v ∈ b.cells, Bdd h.next v) ∧ (∀ i o, ht.obj i = some o → h.obj i = some o ∨ OBdd h.next o) ∧ Q v ht) :
    ACalls P f args h Q :=
  fun φ w cargs s va => (p φ w cargs s va).mono fun e w' hr => by
    cases e with
    | returned c =>
      obtain ⟨v, h', φ', ⟨⟨φ0, c0, hb⟩, ht, hn, wft, hx, q1, q2, q⟩, r1, r2, r3⟩ := hr
      exact ⟨v, ht, φ', q, by rw [hn]; exact r1.lower hb, s.resetTo r2 hn wft hx q1 q2, r3.resetTo hn hx⟩
    | _ => exact hr
end
def sv (ll : List (List UInt8)) : List Value := ll.map fun s => .string (bstr s)
theorem sv_length (ll : List (List UInt8)) : (sv ll).length = ll.length := by simp [sv]
theorem sv_get {ll : List (List UInt8)} {k : Nat} {s : List UInt8} (h : ll[k]? = some s) : (sv ll)[k]? = some (.string (bstr s)) := by simp [sv, h]
end Go.Eng
/-
  Disks, in plain words: files by their names.
-/
namespace Go.Dsk
open Go Go.Eng
abbrev File := List UInt8 × List UInt8
abbrev FL := List (List UInt8 × File × Nat)
def allF (f : File) : List UInt8 := f.1 ++ f.2
def fileV (f : File) : Value := .agg #[.string (bstr f.1), .string (bstr f.2)]
def kvF (l : FL) : KV := l.map fun e => (e.1, fileV e.2.1, e.2.2)
theorem getS_kv (l : FL) (s : List UInt8) : getS (kvF l) s = (getS l s).map fileV := by
  induction l with
  | nil => rfl
  | cons e l ih =>
    unfold getS kvF at ih ⊢
    simp only [List.map_cons, List.find?_cons]
    cases he : e.1 == s with
    | true => rfl
    | false => simpa using ih
theorem hasS_kv (l : FL) (s : List UInt8) : hasS (kvF l) s = hasS l s := by simp [hasS, kvF, List.any_map]; rfl
theorem putS_kv (l : FL) (s : List UInt8) (f : File) (c : Nat) : putS (kvF l) s (fileV f) c = kvF (putS l s f c) := by
  induction l with
  | nil => rfl
  | cons e l ih =>
    obtain ⟨k, u, b⟩ := e
    show (if k == s then _ else _) = kvF (if k == s then _ else _)
    split
    · rfl
    · show _ :: putS (kvF l) s (fileV f) c = _ :: kvF (putS l s f c)
      rw [ih]
theorem delS_kv (l : FL) (s : List UInt8) : delS (kvF l) s = kvF (delS l s) := by
  induction l with
  | nil => rfl
  | cons e l ih =>
    obtain ⟨k, u, b⟩ := e
    show (if k == s then _ else _) = kvF (if k == s then _ else _)
    split
    · rfl
    · show _ :: delS (kvF l) s = _ :: kvF (delS l s)
      rw [ih]
theorem kvF_length (l : FL) : (kvF l).length = l.length := by simp [kvF]
section gen
variable {α : Type}
theorem getS_none {l : List (List UInt8 × α × Nat)} {s : List UInt8} : getS l s = none ↔ hasS l s = false := by
  induction l with
  | nil => simp [getS, hasS]
  | cons e l ih =>
    unfold getS hasS at ih ⊢
    simp only [List.find?_cons, List.any_cons]
    cases he : e.1 == s with
    | true => simp
    | false => simp
theorem has_mem {l : List (List UInt8 × α × Nat)} {s : List UInt8} : hasS l s = true ↔ s ∈ l.map (·.1) := by
  simp [hasS]
theorem del_none {l : List (List UInt8 × α × Nat)} {s : List UInt8} (h : hasS l s = false) : delS l s = l := by
  induction l with
  | nil => rfl
  | cons e l ih =>
    obtain ⟨k, u, b⟩ := e
    simp only [hasS, List.any_cons, Bool.or_eq_false_iff] at h
    simp [delS, h.1, ih h.2]
theorem put_none {l : List (List UInt8 × α × Nat)} {s : List UInt8} {v : α} {c : Nat} (h : hasS l s = false) : putS l s v c = l ++ [(s, v, c)] := by
  induction l with
  | nil => rfl
  | cons e l ih =>
    obtain ⟨k, u, b⟩ := e
    simp only [hasS, List.any_cons, Bool.or_eq_false_iff] at h
    simp [putS, h.1, ih h.2]
theorem del_sub (l : List (List UInt8 × α × Nat)) (s : List UInt8) : (delS l s).Sublist l := by
  induction l with
  | nil => exact List.Sublist.slnil
  | cons e l ih =>
    obtain ⟨k, u, b⟩ := e
    show (if k == s then l else (k, u, b) :: delS l s).Sublist _
    split
    · exact List.sublist_cons_self _ _
    · exact ih.cons_cons _
theorem del_names {l : List (List UInt8 × α × Nat)} {s : List UInt8} (hn : (l.map (·.1)).Nodup) : ∀ e, e ∈ delS l s ↔ e ∈ l ∧ e.1 ≠ s := by
  induction l with
  | nil => intro e; simp [delS]
  | cons d l ih =>
    obtain ⟨k, u, b⟩ := d
    intro e
    simp only [List.map_cons, List.nodup_cons] at hn
    have ih := ih hn.2 e
    show e ∈ (if k == s then l else (k, u, b) :: delS l s) ↔ _
    by_cases hk : k = s
    · subst hk
      simp only [beq_self_eq_true, if_true, List.mem_cons]
      constructor
      · intro h
        exact ⟨.inr h, fun he => hn.1 (List.mem_map.2 ⟨e, h, he⟩)⟩
      · rintro ⟨h | h, hne⟩
        · subst h; exact absurd rfl hne
        · exact h
    · rw [if_neg (by simpa using hk), List.mem_cons, ih, List.mem_cons]
      constructor
      · rintro (h | ⟨h1, h2⟩)
        · subst h; exact ⟨.inl rfl, hk⟩
        · exact ⟨.inr h1, h2⟩
      · rintro ⟨h | h, hne⟩
        · exact .inl h
        · exact .inr ⟨h, hne⟩
theorem del_has {l : List (List UInt8 × α × Nat)} {s : List UInt8} (hn : (l.map (·.1)).Nodup) (t : List UInt8) : hasS (delS l s) t = (hasS l t && !(t == s)) := by
  rw [Bool.eq_iff_iff, has_mem, Bool.and_eq_true, has_mem]
  simp only [List.mem_map, del_names hn, Bool.not_eq_true', beq_eq_false_iff_ne]
  constructor
  · rintro ⟨e, ⟨h1, h2⟩, rfl⟩; exact ⟨⟨e, h1, rfl⟩, h2⟩
  · rintro ⟨⟨e, h1, rfl⟩, h2⟩; exact ⟨e, ⟨h1, h2⟩, rfl⟩
end gen
def used (l : FL) : Nat := (l.map fun e => (allF e.2.1).length).sum
theorem used_push (l : FL) (s : List UInt8) (f : File) (c : Nat) : used (l ++ [(s, f, c)]) = used l + (allF f).length := by simp [used]
theorem used_del (l : FL) (s : List UInt8) : used (delS l s) + (allF ((getS l s).getD ([], []))).length = used l := by
  induction l with
  | nil => rfl
  | cons e l ih =>
    obtain ⟨k, u, b⟩ := e
    show used (if k == s then l else (k, u, b) :: delS l s) + _ = _
    by_cases hk : (k == s) = true
    · rw [if_pos hk]
      have : getS ((k, u, b) :: l) s = some u := by simp [getS, hk]
      rw [this]
      simp [used]
      omega
    · have hk' : (k == s) = false := by simpa using hk
      rw [if_neg hk]
      have : getS ((k, u, b) :: l) s = getS l s := by simp [getS, hk']
      rw [this]
      have e1 : used ((k, u, b) :: delS l s) = (allF u).length + used (delS l s) := by simp [used]
      have e2 : used ((k, u, b) :: l) = (allF u).length + used l := by simp [used]
      omega
def okByte (b : UInt8) : Bool := decide (33 ≤ b.toNat ∧ b.toNat ≤ 126)
def goodN (s : List UInt8) : Bool := decide (1 ≤ s.length ∧ s.length ≤ 32) && s.all okByte
structure DOk (room : Nat) (l : FL) (c : Nat) : Prop where
  names : (l.map (·.1)).Nodup
  borns : (l.map (·.2.2)).Nodup
  lt : ∀ e ∈ l, e.2.2 < c
  used : used l ≤ room
  cnt : l.length ≤ 128
  good : ∀ e ∈ l, goodN e.1 = true
def putD (l : FL) (s : List UInt8) (f : File) (c : Nat) : FL := delS l s ++ [(s, f, c)]
theorem DOk.del {room : Nat} {l : FL} {c : Nat} (d : DOk room l c) (s : List UInt8) : DOk room (delS l s) c := by
  have hs := del_sub l s
  have hu := used_del l s
  exact ⟨d.names.sublist (hs.map _), d.borns.sublist (hs.map _), fun e he => d.lt e (hs.subset he), by have := d.used; omega, Nat.le_trans hs.length_le d.cnt, fun e he => d.good e (hs.subset he)⟩
theorem DOk.put {room : Nat} {l : FL} {c : Nat} (d : DOk room l c) {s : List UInt8} {f : File} (hg : goodN s = true) (hu : Dsk.used (delS l s) + (allF f).length ≤ room) (hc : (delS l s).length ≤ 127) : DOk room (putD l s f c) (c + 1) := by
  have dd := d.del s
  refine ⟨?_, ?_, ?_, by unfold putD; rw [used_push]; exact hu, by unfold putD; rw [List.length_append, List.length_singleton]; omega, ?_⟩
  · unfold putD
    rw [List.map_append, List.nodup_append]
    refine ⟨dd.names, by simp, fun a ha b hb => ?_⟩
    simp only [List.map_cons, List.map_nil, List.mem_singleton] at hb
    subst hb
    intro he
    subst he
    obtain ⟨e, h1, h2⟩ := List.mem_map.1 ha
    exact ((del_names d.names e).1 h1).2 h2
  · unfold putD
    rw [List.map_append, List.nodup_append]
    refine ⟨dd.borns, by simp, fun a ha b hb => ?_⟩
    simp only [List.map_cons, List.map_nil, List.mem_singleton] at hb
    subst hb
    obtain ⟨e, h1, h2⟩ := List.mem_map.1 ha
    have := dd.lt e h1
    omega
  · intro e he
    unfold putD at he
    rcases List.mem_append.1 he with h | h
    · have := dd.lt e h; omega
    · rw [List.mem_singleton.1 h]; exact Nat.lt_succ_self c
  · intro e he
    unfold putD at he
    rcases List.mem_append.1 he with h | h
    · exact dd.good e h
    · rw [List.mem_singleton.1 h]; exact hg
theorem del_length {α : Type} {l : List (List UInt8 × α × Nat)} {s : List UInt8} (h : hasS l s = true) : (delS l s).length + 1 = l.length := by
  induction l with
  | nil => cases h
  | cons e l ih =>
    obtain ⟨k, u, b⟩ := e
    show (if k == s then l else (k, u, b) :: delS l s).length + 1 = _
    by_cases hk : (k == s) = true
    · rw [if_pos hk]; rfl
    · rw [if_neg hk]
      have : hasS l s = true := by
        have hk' : (k == s) = false := by simpa using hk
        simpa [hasS, hk'] using h
      have := ih this
      simp only [List.length_cons]
      omega
def openE (l : FL) (s : List UInt8) (more : List (List UInt8)) : Int := if !(goodN s && more.all goodN) then 2 else if hasS l s then 0 else 6
def fileOf (l : FL) (s : List UInt8) : File := (getS l s).getD ([], [])
def fullB (room : Nat) (l : FL) (s : List UInt8) (b : List UInt8) : Bool := (!hasS l s && decide (128 ≤ l.length)) || decide (room < used l + b.length)
def appE (room : Nat) (l : FL) (s : List UInt8) (b : List UInt8) : Int := if !goodN s then 2 else if fullB room l s b then 5 else 0
def appL (room : Nat) (l : FL) (c : Nat) (s : List UInt8) (b : List UInt8) : FL := if appE room l s b = 0 then putD l s ((fileOf l s).1, (fileOf l s).2 ++ b) c else l
def appC (room : Nat) (l : FL) (c : Nat) (s : List UInt8) (b : List UInt8) : Nat := if appE room l s b = 0 then c + 1 else c
theorem DOk.app {room : Nat} {l : FL} {c : Nat} (d : DOk room l c) (s b : List UInt8) : DOk room (appL room l c s b) (appC room l c s b) := by
  unfold appL appC
  by_cases he : appE room l s b = 0
  · rw [if_pos he, if_pos he]
    have hg : goodN s = true := by
      cases hg : goodN s with
      | true => rfl
      | false => unfold appE at he; rw [hg] at he; simp at he
    have hf : fullB room l s b = false := by
      cases hf : fullB room l s b with
      | false => rfl
      | true => unfold appE at he; rw [hg, hf] at he; simp at he
    unfold fullB at hf
    simp only [Bool.or_eq_false_iff, decide_eq_false_iff_not, Bool.and_eq_false_iff, Bool.not_eq_false'] at hf
    have hu := used_del l s
    refine d.put hg ?_ ?_
    · have : (allF ((fileOf l s).1, (fileOf l s).2 ++ b)).length = (allF (fileOf l s)).length + b.length := by simp [allF]; omega
      rw [this]
      unfold fileOf
      omega
    · cases hh : hasS l s with
      | true => have := del_length hh; have := d.cnt; omega
      | false =>
        rw [del_none hh]
        rcases hf.1 with h1 | h1
        · rw [hh] at h1; cases h1
        · omega
  · rw [if_neg he, if_neg he]; exact d
end Go.Dsk
