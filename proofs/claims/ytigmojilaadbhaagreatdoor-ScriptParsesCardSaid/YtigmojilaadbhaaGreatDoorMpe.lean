/-
  Texts of one claim, merged: 13 parts.
-/
import Derived.Test.YtigmojilaadbhaaGreatDoorMpd
import Derived.Maps.RangeRun
import Derived.RangeFuncOwn
import Derived.Lib.OthersKept
import Derived.Laws.RangeAny
import Derived.Below
import Derived.Lib.LaidTab
set_option maxHeartbeats 16000000
/- . -/
namespace Go.Eng
open Go
section
variable {P : Program} {ρ : Operand → Value} {h : Heap} {K : Value → Heap → Prop} {dst : Option Tmp} {ty : TypeId} {pos : String} {aft : Array Edge} {g : Option (Nat × Bool)}
def Off (v : Value) (j : Nat) : Prop := ∀ s n c, v ≠ .slice (some ⟨j, 0, s⟩) n c
structure Grows (B : Nat) (ea er eb : TypeId) (H : Heap) (av lv : Value) (avs : List Value) (ps : List (List UInt8)) : Prop where
 at_ : OS B H ea av avs
 rows : ∃ vs, OS B H er lv vs ∧ vs.length = ps.length ∧ ∀ (k : Nat) (x : Value) (p : List UInt8), vs[k]? = some x → ps[k]? = some p → ∃ i c, x = .slice (some ⟨i, 0, some 1⟩) p.length c ∧ H.get i = some ⟨bv p, eb, true⟩ ∧ Off av i ∧ Off lv i
 apart : ∀ i s n c, lv = .slice (some ⟨i, 0, s⟩) n c → Off av i
section
variable {B : Nat} {ea er eb : TypeId} {H H' : Heap} {av lv : Value} {avs : List Value} {ps : List (List UInt8)}
end
theorem OS.rb {B : Nat} {e : TypeId} {v : Value} {l : List UInt8} (r : OS B h e v (bv l)) : RB h v l := r.rs
theorem bstr_app (a b : List UInt8) : bstr a ++ bstr b = bstr (a ++ b) := by
 apply ByteArray.ext
 simp [bstr]
theorem qbv (l : List UInt8) : (bstr l).toList = l := ByteArray.toList_mk l
theorem qaP {t t' : TypeId} {x y : Operand} {a b : List UInt8} (hx : ρ x = .string (bstr a)) (hy : ρ y = .string (bstr b)) (he : a = b) (kk : K (.bool true) h) : AOp P ⟨dst, .binOp .eql t x y t', ty, pos, aft, g⟩ ρ h K :=
 qeB hx hy (c := true) (by simp only [strB]; rw [he]; simp) kk
theorem qbi {t t' : TypeId} {x y : Operand} {a b : List UInt8} (hx : ρ x = .string (bstr a)) (hy : ρ y = .string (bstr b)) (he : a = b) (kk : K (.bool false) h) : AOp P ⟨dst, .binOp .neq t x y t', ty, pos, aft, g⟩ ρ h K :=
 qeB hx hy (c := false) (by simp only [strB]; rw [he]; simp) kk
theorem qbg {t t' : TypeId} {x y : Operand} {a b : List UInt8} (hx : ρ x = .string (bstr a)) (hy : ρ y = .string (bstr b)) (he : ¬ a = b) (kk : K (.bool true) h) : AOp P ⟨dst, .binOp .neq t x y t', ty, pos, aft, g⟩ ρ h K :=
 qeB hx hy (c := true) (by simp only [strB, qbv]; rw [show (a == b) = false from by simpa using he]; rfl) kk
theorem qbZ {t t' : TypeId} {x y : Operand} {a b : List UInt8} (hx : ρ x = .string (bstr a)) (hy : ρ y = .string (bstr b)) (hs : a.length + b.length ≤ maxLen) (kk : K (.string (bstr (a ++ b))) h) : AOp P ⟨dst, .binOp .add t x y t', ty, pos, aft, g⟩ ρ h K :=
 op_strAdd hx hy (by simpa [bstr, ByteArray.size] using hs) (by rw [bstr_app]; exact kk)
end
section
variable {P : Program} {ρ : Operand → Value} {h : Heap} {K : Value → Heap → Prop} {dst : Option Tmp} {ty : TypeId} {pos : String} {aft : Array Edge} {g : Option (Nat × Bool)}
theorem qcO {t : TypeId} {ps rs : Array TypeId} {vr : Bool} [ti : TyD P t (.func ps rs vr)] (fn : Fn) (f c : Array Value) (w : World) (d : Nat) : (Op.equalIn (d + 1) t (.func fn f c) .nilFunc).run P w = .ok false w := by
 simp [Op.equalIn, ti.run]
theorem qb5 {t t' : TypeId} {x y : Operand} {a b : Bool} [ti : TyD P t .bool] (hx : ρ x = .bool a) (hy : ρ y = .bool b) (he : a = b) (kk : K (.bool true) h) : AOp P ⟨dst, .binOp .eql t x y t', ty, pos, aft, g⟩ ρ h K :=
 qeL hx hy (by rw [show (a == b) = true from by rw [he]; exact beq_self_eq_true b]; exact kk)
theorem ResV.cell {fn : Func} {env : Env} {a : Tmp} {t : TypeId} {i o : Nat} {s : Option Nat} {b : Blk} {d : TypeDesc} {v : Value} [td : TyD P t d] (hr : fn.results = #[.cell a t]) (hx : env.get a = .pointer (some ⟨i, o, s⟩)) (ha : aggB d = false)
  (hi : h.get i = some b) (hv : b.cells[o]? = some v) : ResV P fn env h v := by
 intro N φ tmps w r
 obtain ⟨_, _, e1⟩ := (hx ▸ r.env a).ptr_inv
 obtain ⟨c, hc, hr2⟩ := r.sim.cell hi hv
 refine ⟨c, ?_, hr2⟩
 simp only [results, hr]
 simp only [De, Dr, El, Sem.run_bind, Sem.run_map, Sem.run_pure, e1]
 simp [asAddr, loadVar, td.isAgg, ha, hc]
end
def Fresh (n : Nat) (v : Value) : Prop := v = .slice none 0 0 ∨ ∃ l c, v = .slice (some ⟨n, 0, some 1⟩) l c
section
variable {P : Program} {ρ : Operand → Value} {h : Heap} {K : Value → Heap → Prop} {dst : Option Tmp} {ty : TypeId} {pos : String} {aft : Array Edge} {g : Option (Nat × Bool)}
structure Two (B : Nat) (ea eb : TypeId) (H : Heap) (u v : Value) (us vs : List Value) : Prop where
 a : OS B H ea u us
 b : OS B H eb v vs
 ap : ∀ i s n c, v = .slice (some ⟨i, 0, s⟩) n c → Off u i
section
variable {B : Nat} {ea eb : TypeId} {H H' : Heap} {u v u' v' : Value} {us vs us' vs' : List Value}
end
end
end Go.Eng
/- . -/
namespace Go.Eng
open Go
open Go.ChangeMaps (setBlock)
theorem Heap.allocO_new (h : Heap) (o : AObj) : (h.allocO o).obj h.next = some o := by simp [Heap.allocO]
theorem Heap.allocO_old {h : Heap} {o : AObj} {i : Nat} (hi : i ≠ h.next) : (h.allocO o).obj i = h.obj i := by simp [Heap.allocO, hi]
theorem Heap.setO_at (h : Heap) (i : Nat) (o : AObj) : (h.setO i o).obj i = some o := by simp [Heap.setO]
abbrev bZ := @Heap.setO_at
theorem Heap.setO_other {h : Heap} {i j : Nat} {o : AObj} (hj : j ≠ i) : (h.setO i o).obj j = h.obj j := by simp [Heap.setO, hj]
abbrev cQ := @Heap.setO_other
theorem WF.allocO {h : Heap} (wf : WF h) (o : AObj) : WF (h.allocO o) := by
 refine ⟨fun i hi => ?_, fun i hi => ?_⟩
 ·
  have h1 : h.next + 1 ≤ i := hi
  exact wf.c i (by omega)
 ·
  have h1 : h.next + 1 ≤ i := hi
  rw [Heap.allocO_old (by omega)]
  exact wf.o i (by omega)
theorem WF.extO {h : Heap} (wf : WF h) (o : AObj) : Ext h (h.allocO o) := by
 refine ⟨fun _ _ hi => hi, fun i c hi => ?_⟩
 have := wf.ltO hi
 rw [Heap.allocO_old (by omega)]
 exact hi
theorem WF.setO {h : Heap} (wf : WF h) {i : Nat} (hi : i < h.next) (o : AObj) : WF (h.setO i o) := by
 refine ⟨fun j hj => wf.c j hj, fun j hj => ?_⟩
 have h1 : h.next ≤ j := hj
 rw [cQ (by omega)]
 exact wf.o j h1
theorem WF.ext_setO {h h1 : Heap} (wf : WF h) (hx : Ext h h1) {j : Nat} (hj : h.next ≤ j) (o : AObj) : Ext h (h1.setO j o) := by
 refine ⟨fun i c hi => hx.c i c hi, fun i c hi => ?_⟩
 have h2 := wf.ltO hi
 rw [cQ (by omega)]
 exact hx.o i c hi
section
variable {P : Program} {φ : Ren} {h : Heap} {w : World}
theorem Sim.allocO (s : Sim P φ h w) (o : AObj) (ob : Obj) (hr : ORel (Ren.put φ h.next ⟨w.heap.size, 0, 0⟩) (h.next + 1) h.next o (w.alloc ob)) :
  Sim P (Ren.put φ h.next ⟨w.heap.size, 0, 0⟩) (h.allocO o) (w.alloc ob) ∧ Step φ h w (Ren.put φ h.next ⟨w.heap.size, 0, 0⟩) (h.allocO o) (w.alloc ob) := by
 have hheap : ∀ k : Nat, (w.alloc ob).heap[k]? = if k = w.heap.size then some ob else w.heap[k]? := fun k => qew w _ k
 have hold : ∀ i b, (h.allocO o).obj i = some b → i ≠ h.next → h.obj i = some b := by
  intro i b hb hne
  rwa [Heap.allocO_old hne] at hb
 constructor
 ·
  refine ⟨s.next.allocO o, ?_, ?_, ?_, ?_, ?_, ?_⟩
  ·
   intro i b hb
   refine (s.blk i b hb).world aZ (s.lt hb) (by simp [Heap.allocO]) ?_
   rw [hheap, Ac (by have := s.low i b hb; omega)]
  ·
   intro i b hb
   rw [aZ i (s.lt hb)]
   have := s.low i b hb
   simp; omega
  ·
   intro i j b hb ho hj he
   cases hxj : (h.allocO o).get j with
   | none => exact absurd hxj hj
   | some bj =>
    rw [aZ i (s.lt hb), aZ j (s.lt hxj)] at he
    exact s.apart i j b hb ho hj he
  ·
   intro g hg
   obtain ⟨h1, h2⟩ := s.glob g hg
   exact ⟨by rw [aZ g h2]; exact h1, by simp only [Heap.allocO]; omega⟩
  ·
   intro i x hi
   by_cases hin : i = h.next
   ·
    subst hin
    rw [Heap.allocO_new] at hi
    cases hi
    exact hr
   ·
    have hi' := hold i x hi hin
    refine (s.objs i x hi').world aZ (s.ltO hi') (by simp [Heap.allocO]) ?_
    rw [hheap, Ac (by have := s.lowO hi'; omega)]
  ·
   intro i j x hi hj he
   cases hxj : (h.allocO o).obj j with
   | none => exact absurd hxj hj
   | some y =>
    by_cases hin : i = h.next
    ·
     by_cases hjn : j = h.next
     ·
      omega
     ·
      exfalso
      have hj' := hold j y hxj hjn
      rw [hin, bM, aZ j (s.ltO hj')] at he
      have := s.lowO hj'
      simp at he; omega
    ·
     have hi' := hold i x hi hin
     rw [aZ i (s.ltO hi')] at he
     by_cases hjn : j = h.next
     ·
      exfalso
      rw [hjn, bM] at he
      have := s.lowO hi'
      simp at he; omega
     ·
      have hj' := hold j y hxj hjn
      rw [aZ j (s.ltO hj')] at he
      exact s.apartO i j x hi' (by rw [hj']; simp) he
 ·
  refine ⟨by simp [Heap.allocO], aZ, rfl, rfl, rfl, by simp, fun k hk _ => by rw [hheap, Ac (by omega)], ?_⟩
  rintro k (⟨i, b, h1, h2, h3⟩ | ⟨i, x, h1, h3⟩)
  ·
   rw [aZ i (s.lt h1)] at h3
   exact .inl (.inl ⟨i, b, h1, h2, h3⟩)
  ·
   by_cases hin : i = h.next
   ·
    subst hin
    rw [bM] at h3
    exact .inr (by simp at h3; omega)
   ·
    have hi' := hold i x h1 hin
    rw [aZ i (s.ltO hi')] at h3
    exact .inl (.inr ⟨i, x, hi', h3⟩)
theorem Sim.setO (s : Sim P φ h w) {i : Nat} {o o' : AObj} (hi : h.obj i = some o) (ob : Obj) {w' : World} (hw : ∀ k : Nat, w'.heap[k]? = if k = (φ i).b then some ob else w.heap[k]?) (hsz : w'.heap.size = w.heap.size)
  (hos : w'.os = w.os) (htape : w'.tape = w.tape) (hout : w'.output = w.output) (hr : ORel φ h.next i o' w') : Sim P φ (h.setO i o') w' ∧ Step φ h w φ (h.setO i o') w' := by
 obtain ⟨x, x1, _, x2⟩ := (s.objs i o hi).obj
 have hown : ∀ j b, h.get j = some b → b.own = true → (φ j).b ≠ (φ i).b := by
  intro j b hj hbo he
  obtain ⟨arr, fr, q1, _⟩ := s.owned hj hbo
  rw [he, x1] at q1
  exact x2 _ _ _ (Option.some.inj q1)
 constructor
 ·
  refine ⟨s.next.setO (s.ltO hi) o', ?_, ?_, ?_, s.glob, ?_, ?_⟩
  ·
   intro j b hj
   by_cases he : (φ j).b = (φ i).b
   ·
    have hno : ¬ b.own = true := fun hbo => hown j b hj hbo he
    have hb := s.blk j b hj
    unfold BRel at hb ⊢
    rw [Ac hno] at hb ⊢
    refine ⟨?_, fun k v hk => ?_⟩
    ·
     rcases hb.1 with q | ⟨_, arr, t, fr, q, _⟩
     ·
      exact .inl q
     ·
      exfalso
      rw [he, x1] at q
      exact x2 _ _ _ (Option.some.inj q)
    obtain ⟨c, hc, _⟩ := hb.2 k v hk
    obtain ⟨y, y1, y2⟩ := cells_of_cell hc
    exfalso
    have y3 : w.heap[(φ j).b]? = some y := y1
    rw [he, x1] at y3
    cases y3
    cases x with
    | cells arr e f => exact x2 arr e f rfl
    | _ => cases y2
   ·
    refine (s.blk j b hj).world (fun _ _ => rfl) (s.lt hj) (Aa _) ?_
    rw [hw, Ac he]
  ·
   intro j b hj
   rw [hsz]
   exact s.low j b hj
  ·
   exact s.apart
  ·
   intro j y hj
   by_cases hji : j = i
   ·
    subst hji
    rw [bZ] at hj
    cases hj
    exact hr
   ·
    rw [cQ hji] at hj
    refine (s.objs j y hj).world (fun _ _ => rfl) (s.ltO hj) (Aa _) ?_
    rw [hw, Ac]
    intro he
    exact hji (s.apartO i j o hi (by rw [hj]; simp) he)
  ·
   intro j k y hj hk he
   have key : ∀ m, (h.setO i o').obj m ≠ none → ∃ z, h.obj m = some z := by
    intro m hm
    by_cases hmi : m = i
    ·
     subst hmi; exact ⟨o, hi⟩
    ·
     rw [cQ hmi] at hm
     cases hx : h.obj m with
     | none => exact absurd hx hm
     | some z => exact ⟨z, rfl⟩
   obtain ⟨z, hz⟩ := key j (by rw [hj]; simp)
   obtain ⟨z2, hz2⟩ := key k hk
   exact s.apartO j k z hz (by rw [hz2]; simp) he
 ·
  refine ⟨Aa _, fun _ _ => rfl, hos, htape, hout, by omega, ?_, ?_⟩
  ·
   intro k hk hno
   rw [hw, Ac]
   intro he
   exact hno (.inr ⟨i, o, hi, he.symm⟩)
  ·
   rintro k (⟨j, b, h1, h2, h3⟩ | ⟨j, y, h1, h3⟩)
   ·
    exact .inl (.inl ⟨j, b, h1, h2, h3⟩)
   ·
    by_cases hji : j = i
    ·
     subst hji; exact .inl (.inr ⟨j, o, hi, h3⟩)
    ·
     rw [cQ hji] at h1
     exact .inl (.inr ⟨j, y, h1, h3⟩)
theorem qbe {w : World} {b : Nat} {o : Obj} (hb : b < w.heap.size) (k : Nat) : (setBlock w b o).heap[k]? = if k = b then some o else w.heap[k]? := by
 show (w.heap.setIfInBounds b o)[k]? = _
 rw [Array.getElem?_setIfInBounds]
 by_cases he : b = k
 ·
  subst he; simp [hb]
 ·
  rw [Ac he, Ac (fun e => he e.symm)]
theorem qcj {w : World} {r : Nat} {x : Obj} (hr : w.heap[r]? = some x) (hx : ∀ c e f, x ≠ .cells c e f) (o' : Obj) : (setObj r o').run P w = .ok () (setBlock w r o') := by
 cases x with
 | cells c e f => exact absurd rfl (hx c e f)
 | _ => simp [setObj, Sem.run, hr, setBlock]
end
abbrev KV := List (List UInt8 × Value × Nat)
def ents (l : KV) : List AEnt := l.map fun e => ⟨.string (bstr e.1), e.2.1, e.2.2⟩
inductive ELs (φ : Ren) (n : Nat) : KV → List MapEntry → Prop
 | nil : ELs φ n [] []
 | cons {k : List UInt8} {v : Value} {b : Nat} {l : KV} {c : MapEntry} {cs : List MapEntry} (hk : c.key = .string (bstr k)) (hv : VRel φ n v c.val) (hb : c.born = b) (t : ELs φ n l cs) : ELs φ n ((k, v, b) :: l) (c :: cs)
theorem ELs.of {φ : Ren} {n : Nat} : ∀ {l : KV} {cs : List MapEntry}, (ents l).length = cs.length → (∀ (k : Nat) e c, (ents l)[k]? = some e → cs[k]? = some c → ERel φ n e c) → ELs φ n l cs
 | [], [], _, _ => .nil
 | [], _ :: _, h, _ => by simp [ents] at h
 | _ :: _, [], h, _ => by simp [ents] at h
 | (k, v, b) :: l, c :: cs, h, hr => by
  obtain ⟨q1, q2, q3⟩ := hr 0 _ _ rfl rfl
  exact .cons q1.string_inv q2 q3 (ELs.of (by simpa [ents] using h) (fun j e d he hd => hr (j + 1) e d he hd))
theorem ELs.to {φ : Ren} {n : Nat} {l : KV} {cs : List MapEntry} (r : ELs φ n l cs) : (ents l).length = cs.length ∧ ∀ (k : Nat) e c, (ents l)[k]? = some e → cs[k]? = some c → ERel φ n e c := by
 induction r with
 | nil => exact ⟨rfl, fun k e c he => by simp [ents] at he⟩
 | cons hk hv hb t ih =>
  refine ⟨by have := ih.1; simp [ents] at this ⊢; exact this, fun k e c he hc => ?_⟩
  cases k with
  | zero =>
   simp [ents] at he hc
   subst he hc
   exact ⟨by rw [hk]; exact .string _, hv, hb⟩
  | succ k => exact ih.2 k e c (by simpa [ents] using he) (by simpa using hc)
def getS {α : Type} (l : List (List UInt8 × α × Nat)) (s : List UInt8) : Option α := (l.find? (fun e => e.1 == s)).map fun e => e.2.1
def putS {α : Type} : List (List UInt8 × α × Nat) → List UInt8 → α → Nat → List (List UInt8 × α × Nat)
 | [], s, v, c => [(s, v, c)]
 | (k, u, b) :: l, s, v, c => if k == s then (k, v, b) :: l else (k, u, b) :: putS l s v c
def delS {α : Type} : List (List UInt8 × α × Nat) → List UInt8 → List (List UInt8 × α × Nat)
 | [], _ => []
 | (k, u, b) :: l, s => if k == s then l else (k, u, b) :: delS l s
def hasS {α : Type} (l : List (List UInt8 × α × Nat)) (s : List UInt8) : Bool := l.any fun e => e.1 == s
theorem qdT (a b : List UInt8) : (bstr a == bstr b) = (a == b) := by
 rw [beq_toListBytes, qbv, qbv]
theorem qcs {φ : Ren} {n : Nat} {s : List UInt8} {l : KV} {cs : List MapEntry} (r : ELs φ n l cs) : ∀ i, (Instr.findNow .string (.string (bstr s)) cs i = some none ∧ getS l s = none ∧ hasS l s = false ∧ delS l s = l ∧ ∀ v c, putS l s v c = l ++ [(s, v, c)]) ∨
  ∃ j u cv, Instr.findNow .string (.string (bstr s)) cs i = some (some (i + j, cv)) ∧ getS l s = some u ∧ VRel φ n u cv ∧ hasS l s = true ∧ j < cs.length ∧ (∃ c, cs[j]? = some c ∧ c.key = .string (bstr s)) ∧ ELs φ n (delS l s) (cs.eraseIdx j) ∧
   ∀ v cv' c, VRel φ n v cv' → ELs φ n (putS l s v c) (cs.modify j fun e => { e with key := .string (bstr s), val := cv' }) := by
 induction r with
 | nil => exact fun i => .inl ⟨rfl, rfl, rfl, rfl, fun _ _ => rfl⟩
 | @cons k v b l c cs hk hv hb t ih =>
  intro i
  by_cases he : k = s
  ·
   subst he
   have hb1 : (k == k) = true := beq_self_eq_true k
   refine .inr ⟨0, v, c.val, ?_, ?_, hv, ?_, by simp, ⟨c, rfl, hk⟩, ?_, fun v' cv' c' hv' => ?_⟩
   ·
    simp [Instr.findNow, Instr.sameNow, hk, qdT]
   ·
    simp [getS]
   ·
    simp [hasS]
   ·
    simp only [delS, hb1, if_true, List.eraseIdx_zero, List.tail_cons]; exact t
   ·
    simp only [putS, hb1, if_true, List.modify_zero_cons]
    exact .cons rfl hv' hb t
  ·
   have hb1 : (k == s) = false := beq_eq_false_iff_ne.2 he
   have hb2 : (s == k) = false := beq_eq_false_iff_ne.2 (fun e => he e.symm)
   have hn : Instr.findNow .string (.string (bstr s)) (c :: cs) i = Instr.findNow .string (.string (bstr s)) cs (i + 1) := by
    simp only [Instr.findNow, Instr.sameNow, hk, qdT, hb2]
   rcases ih (i + 1) with ⟨h1, h2, h3, h4, h5⟩ | ⟨j, u, cv, h1, h2, h3, h4, h5, h6, h7, h8⟩
   ·
    refine .inl ⟨by rw [hn, h1], ?_, ?_, ?_, fun v' c' => ?_⟩
    ·
     simpa [getS, hb1] using h2
    ·
     simpa [hasS, hb1] using h3
    ·
     simp [delS, hb1, h4]
    ·
     simp [putS, hb1, h5]
   ·
    refine .inr ⟨j + 1, u, cv, by rw [hn, h1]; congr 3; omega, ?_, h3, ?_, by simpa using h5, ?_, ?_, fun v' cv' c' hv' => ?_⟩
    ·
     simpa [getS, hb1] using h2
    ·
     simpa [hasS, hb1] using h4
    ·
     obtain ⟨d, d1, d2⟩ := h6; exact ⟨d, by simpa using d1, d2⟩
    ·
     simp only [delS, hb1, Bk, if_false, List.eraseIdx_cons_succ]
     exact .cons hk hv hb h7
    ·
     simp only [putS, hb1, Bk, if_false, List.modify_succ_cons]
     exact .cons hk hv hb (h8 v' cv' c' hv')
theorem ELs.push {φ : Ren} {n : Nat} {l : KV} {cs : List MapEntry} (r : ELs φ n l cs) {s : List UInt8} {v cv : Value} {b : Nat} (hv : VRel φ n v cv) : ELs φ n (l ++ [(s, v, b)]) (cs ++ [{ key := .string (bstr s), val := cv, born := b }]) := by
 induction r with
 | nil => exact .cons rfl hv rfl .nil
 | cons hk hv' hb t ih => exact .cons hk hv' hb ih
section ops
variable {P : Program} {ρ : Operand → Value} {h : Heap} {K : Value → Heap → Prop} {dst : Option Tmp} {ty : TypeId} {pos : String} {aft : Array Edge} {g : Option (Nat × Bool)}
theorem mapOf {φ : Ren} {w : World} {i : Nat} {l : KV} {clock : Nat} (s : Sim P φ h w) (hi : h.obj i = some (.map (ents l) clock)) : ∃ cs : Array MapEntry, w.heap[(φ i).b]? = some (.map cs clock) ∧ ELs φ h.next l cs.toList := by
 obtain ⟨cs, h1, h2, h3⟩ := s.objs i _ hi
 exact ⟨cs, h1, ELs.of (by simpa using h2) (fun k e c he hc => h3 k e c he (by simpa using hc))⟩
theorem ORel.ofMap {φ : Ren} {n i : Nat} {l : KV} {clock : Nat} {w : World} {cs : Array MapEntry} (hw : w.heap[(φ i).b]? = some (.map cs clock)) (r : ELs φ n l cs.toList) : ORel φ n i (.map (ents l) clock) w :=
 ⟨cs, hw, by simpa using r.to.1, fun k e c he hc => r.to.2 k e c he (by simpa using hc)⟩
theorem qbr {kt : TypeId} [tk : TyD P kt .string] (b : Bool) (s : List UInt8) (w : World) : (Instr.checkKey b 10000 kt (.string (bstr s))).run P w = .ok () w := by
 have key : ∀ n, (Instr.checkKey b (n + 1) kt (.string (bstr s))).run P w = .ok () w := fun n => by simp [Instr.checkKey, tk.run]
 exact key 9999
theorem qbw {kt : TypeId} [tk : TyD P kt .string] (s : List UInt8) (cs : List MapEntry) (w : World) {r : Option (Nat × Value)} (hr : Instr.findNow .string (.string (bstr s)) cs 0 = some r) : (Instr.findKey kt (.string (bstr s)) cs).run P w = .ok r w := by
 simp [Instr.findKey, tk.run, hr]
theorem qbK {w : World} {r : Nat} {cs : Array MapEntry} {k : Nat} (hr : w.heap[r]? = some (.map cs k)) : (getObj r).run P w = .ok (.map cs k) w := by
 simp [getObj, Sem.run, hr]
theorem qdq {t : TypeId} (kk : K (.map (some h.next)) (h.allocO (.map (ents []) 0))) : AOp P ⟨dst, .makeMap t none, ty, pos, aft, g⟩ ρ h K :=
 .of_run fun φ ac w r => by
  obtain ⟨s1, s2⟩ := r.sim.allocO (.map (ents []) 0) (.map #[] 0) (ORel.ofMap (cs := #[]) (by rw [bM]; exact (qew w _ _).trans (Ah rfl)) .nil)
  refine ⟨.map (some w.heap.size), w.alloc (.map #[] 0), _, _, _, ?_, kk, ?_, s1, s2⟩
  ·
   simp [execOp, Instr.makeMap]
  ·
   have := VRel.map (φ := Ren.put φ h.next ⟨w.heap.size, 0, 0⟩) (n := h.next + 1) h.next (by omega)
   rw [bM] at this
   exact this
theorem op_lookup {t kt et : TypeId} {x y : Operand} {i esz eb clock : Nat} {z : Value} {s : List UInt8} {l : KV} [td : TyD P t (.map kt et)] [tk : TyD P kt .string] [te : TyI P et esz eb z] (hx : ρ x = .map (some i)) (hy : ρ y = .string (bstr s)) (hi : h.obj i = some (.map (ents l) clock)) (hz : plainV z = true)
  (kk : K ((getS l s).getD z) h) : AOp P ⟨dst, .lookup t x y false, ty, pos, aft, g⟩ ρ h K :=
 .of_pure kk fun φ ac w r => by
  obtain ⟨_, e1⟩ := (hx ▸ r.ev x (by simp [Op.operands])).map_inv
  have e2 := (hy ▸ r.ev y (by simp [Op.operands])).string_inv
  obtain ⟨cs, q1, q2⟩ := mapOf r.sim hi
  have hrun : ∀ r', Instr.findNow .string (.string (bstr s)) cs.toList 0 = some r' → (Instr.lookup t (.map (some (φ i).b)) (.string (bstr s)) false).run P w = .ok (match r' with | some (_, v) => v | none => z) w := by
   intro r' hr'
   cases r' with
   | none => simp [Instr.lookup, td.run, qbK q1, qbr, qbw _ _ _ hr', te.zero]
   | some p => simp [Instr.lookup, td.run, qbK q1, qbr, qbw _ _ _ hr']
  rcases qcs (s := s) q2 0 with ⟨h1, h2, _⟩ | ⟨j, u, cv, h1, h2, h3, _⟩
  ·
   exact ⟨z, by simp [execOp, e1, e2, hrun _ h1], by rw [h2]; exact .of_plain hz⟩
  ·
   exact ⟨cv, by simp [execOp, e1, e2, hrun _ h1], by rw [h2]; exact h3⟩
theorem qgV {t kt et : TypeId} {x y v : Operand} {i clock : Nat} {u : Value} {s : List UInt8} {l : KV} [td : TyD P t (.map kt et)] [tk : TyD P kt .string] (hx : ρ x = .map (some i)) (hy : ρ y = .string (bstr s)) (hv : ρ v = u) (hi : h.obj i = some (.map (ents l) clock))
  (kk : K undef (h.setO i (.map (ents (putS l s u clock)) (if hasS l s then clock else clock + 1)))) : AOp P ⟨dst, .mapUpdate t x y v, ty, pos, aft, g⟩ ρ h K :=
 .of_skip fun φ ac w r => by
  obtain ⟨_, e1⟩ := (hx ▸ r.ev x (by simp [Op.operands])).map_inv
  have e2 := (hy ▸ r.ev y (by simp [Op.operands])).string_inv
  have hvr := hv ▸ r.ev v (by simp [Op.operands])
  obtain ⟨cs, q1, q2⟩ := mapOf r.sim hi
  have hlow := r.sim.lowO hi
  rcases qcs (s := s) q2 0 with ⟨h1, h2, h3, h4, h5⟩ | ⟨j, u', cv, h1, h2, h3, h4, h6, ⟨d, d1, d2⟩, h7, h8⟩
  ·
   rw [h5, h3] at kk
   obtain ⟨s1, s2⟩ := r.sim.setO hi (o' := .map (ents (l ++ [(s, u, clock)])) (clock + 1)) (.map (cs.push { key := .string (bstr s), val := ac.eval v, born := clock }) (clock + 1)) (w' := setBlock w (φ i).b (.map (cs.push { key := .string (bstr s), val := ac.eval v, born := clock }) (clock + 1)))
    (qbe hlow) (by simp [setBlock]) rfl rfl rfl (ORel.ofMap (cs := cs.push { key := .string (bstr s), val := ac.eval v, born := clock }) (by rw [qbe hlow, Ah rfl]) (by rw [Array.toList_push]; exact q2.push hvr))
   refine ⟨_, φ, _, ?_, kk, s1, s2⟩
   have hrun : (Instr.mapUpdate t (.map (some (φ i).b)) (.string (bstr s)) (ac.eval v)).run P w = .ok () (setBlock w (φ i).b (.map (cs.push { key := .string (bstr s), val := ac.eval v, born := clock }) (clock + 1))) := by
    simp [Instr.mapUpdate, td.run, qbK q1, qbr, qbw _ _ _ h1, qcj q1 (fun _ _ _ => by simp)]
   simp [execOp, e1, e2, hrun]
  ·
   rw [h4] at kk
   simp only [if_true] at kk
   have hcsj : cs[j]? = some d := by simpa using d1
   obtain ⟨s1, s2⟩ := r.sim.setO hi (o' := .map (ents (putS l s u clock)) clock) (.map (cs.modify j fun e => { e with key := .string (bstr s), val := ac.eval v }) clock) (w' := setBlock w (φ i).b (.map (cs.modify j fun e => { e with key := .string (bstr s), val := ac.eval v }) clock))
    (qbe hlow) (by simp [setBlock]) rfl rfl rfl (ORel.ofMap (cs := cs.modify j fun e => { e with key := .string (bstr s), val := ac.eval v }) (by rw [qbe hlow, Ah rfl]) (by rw [Array.toList_modify]; exact h8 u _ clock hvr))
   refine ⟨_, φ, _, ?_, kk, s1, s2⟩
   have hkey : (Instr.keyThatStays (.string (bstr s)) (.string (bstr s))).run P w = .ok (.string (bstr s)) w := by simp [Instr.keyThatStays, Instr.sameBits, qdT]
   have hrun : (Instr.mapUpdate t (.map (some (φ i).b)) (.string (bstr s)) (ac.eval v)).run P w = .ok () (setBlock w (φ i).b (.map (cs.modify j fun e => { e with key := .string (bstr s), val := ac.eval v }) clock)) := by
    simp [Instr.mapUpdate, td.run, qbK q1, qbr, qbw _ _ _ h1, qcj q1 (fun _ _ _ => by simp), hcsj, d2, hkey]
   simp [execOp, e1, e2, hrun]
end ops
section ops
variable {P : Program} {ρ : Operand → Value} {h : Heap} {K : Value → Heap → Prop} {dst : Option Tmp} {ty : TypeId} {pos : String} {aft : Array Edge} {g : Option (Nat × Bool)}
end ops
end Go.Eng
/- . -/
namespace Go.Eng
open Go
section
variable {P : Program} {ρ : Operand → Value} {h : Heap} {K : Value → Heap → Prop} {dst : Option Tmp} {ty : TypeId} {pos : String} {aft : Array Edge} {g : Option (Nat × Bool)}
theorem qc7 {t e : TypeId} [ti : TyD P t (.pointer e)] (p : Option Addr) (w : World) (d : Nat) : (Op.equalIn (d + 1) t (.pointer p) (.pointer none)).run P w = .ok p.isNone w := by
 cases p <;> simp [Op.equalIn, ti.run]
theorem qeb {t t' e : TypeId} {x y : Operand} {m : Option Addr} [td : TyD P t (.pointer e)] (hx : ρ x = .pointer m) (hy : ρ y = .pointer none) (kk : K (.bool m.isNone) h) : AOp P ⟨dst, .binOp .eql t x y t', ty, pos, aft, g⟩ ρ h K :=
 .of_pure kk fun φ ac w r => by
  have h1 := hx ▸ r.ev x (by simp [Op.operands])
  have e2 := (hy ▸ r.ev y (by simp [Op.operands])).nilPtr_inv
  have he : ∃ m' : Option Addr, ac.eval x = .pointer m' ∧ m'.isNone = m.isNone := by
   cases m with
   | none => exact ⟨none, h1.nilPtr_inv, rfl⟩
   | some a => obtain ⟨i, o, s⟩ := a; exact ⟨_, h1.ptr_inv.2.2, rfl⟩
  obtain ⟨m', e1, e3⟩ := he
  have e4 : (Op.equal t (.pointer m') (.pointer none)).run P w = .ok m'.isNone w := qc7 m' w 9999
  exact ⟨.bool m.isNone, by simp [execOp, e1, e2, eqGuard, binOp, e4, e3], .bool _⟩
theorem bstr_size (l : List UInt8) : (bstr l).size = l.length := by simp [bstr, ByteArray.size]
theorem qaG {x : Operand} {t : TypeId} {l : List UInt8} [td : TyD P t .string] (hx : ρ x = .string (bstr l)) (kk : K (.int .i64 (l.length : Nat)) h) : AOp P ⟨dst, .call ⟨.builtin .len, #[x], #[t]⟩, ty, pos, aft, g⟩ ρ h K :=
 qgq hx (by rw [bstr_size]; exact kk)
theorem op_sLss {t t' : TypeId} {x y : Operand} {a b : List UInt8} (hx : ρ x = .string (bstr a)) (hy : ρ y = .string (bstr b)) (kk : K (.bool (Op.bytesLess a b)) h) : AOp P ⟨dst, .binOp .lss t x y t', ty, pos, aft, g⟩ ρ h K :=
 qeB hx hy (c := Op.bytesLess a b) (by simp only [strB, qbv]) kk
end
class FAd (P : Program) (t : TypeId) (f : Nat) (off : outParam Nat) : Prop where
 ex : ∃ fs fld sz by_ z, P.underlying t = some (.struct fs) ∧ fs[f]? = some fld ∧ TyI P fld.type sz by_ z ∧ (sz == 0) = false ∧ fld.offset = off
theorem FAd.mk' {P : Program} {t ft : TypeId} {f off sz by_ : Nat} {z : Value} {fs : Array Field} {fld : Field} (hd : P.underlying t = some (.struct fs)) (hf : fs[f]? = some fld) [ti : TyI P ft sz by_ z] (ht : fld.type = ft) (hz : (sz == 0) = false) (ho : fld.offset = off) : FAd P t f off :=
 ⟨fs, fld, sz, by_, z, hd, hf, ht ▸ ti, hz, ho⟩
abbrev bA := @FAd.mk'
section
variable {P : Program} {ρ : Operand → Value} {h : Heap} {K : Value → Heap → Prop} {dst : Option Tmp} {ty : TypeId} {pos : String} {aft : Array Edge} {g : Option (Nat × Bool)}
theorem qan {t : TypeId} {x : Operand} {f i o off : Nat} {s : Option Nat} [fa : FAd P t f off] (hx : ρ x = .pointer (some ⟨i, o, s⟩)) (kk : K (.pointer (some ⟨i, o + off, none⟩)) h) : AOp P ⟨dst, .fieldAddr t x f, ty, pos, aft, g⟩ ρ h K := by
 obtain ⟨fs, fld, sz, by_, z, h1, h2, h3, h4, rfl⟩ := fa.ex
 haveI : TyD P t (.struct fs) := ⟨h1⟩
 haveI := h3
 exact qgk h2 h4 hx kk
end
class StD (P : Program) (t : TypeId) (places : outParam (List (Nat × Nat))) : Prop where
 ex : ∃ fs : List Field, P.underlying t = some (.struct fs.toArray) ∧ fs.map (fun f => (P.info? f.type).map fun i => (f.offset, i.size)) = places.map some
theorem qd9 {P : Program} : ∀ {fs : List Field} {places : List (Nat × Nat)}, fs.map (fun f => (P.info? f.type).map fun i => (f.offset, i.size)) = places.map some → ∀ w : World, (fs.mapM fun f => (do pure (f.offset, ← sizeOf f.type) : Sem (Nat × Nat))).run P w = .ok places w
 | [], [], _, w => by simp
 | [], _ :: _, h, _ => by simp at h
 | _ :: _, [], h, _ => by simp at h
 | f :: fs, p :: places, h, w => by
  simp only [Bq, List.cons.injEq] at h
  obtain ⟨h1, h2⟩ := h
  have ih := qd9 h2 w
  cases hi : P.info? f.type with
  | none => rw [hi] at h1; cases h1
  | some i =>
   rw [hi] at h1
   simp only [Dm, Option.some.injEq] at h1
   have hs : (sizeOf f.type).run P w = .ok i.size w := by simp [sizeOf, typeInfo, hi]
   rw [Dr]
   simp only [Sem.run_bind, hs, Result.andThen_ok, Sem.run_pure, h1, ih]
def nuB : Value → Bool
 | .tuple _ => false
 | _ => true
theorem nuB_ne {v : Value} (h : nuB v = true) : v ≠ undef := by
 rintro rfl; cases h
section
variable {P : Program} {ρ : Operand → Value} {h : Heap} {K : Value → Heap → Prop} {dst : Option Tmp} {ty : TypeId} {pos : String} {aft : Array Edge} {g : Option (Nat × Bool)}
theorem qay {t sz by_ : Nat} {z : Value} {parts : Array (Nat × Operand)} {places : List (Nat × Nat)} {out : List Value} [st : StD P t places] [ti : TyI P t sz by_ z]
  (hu : (parts.toList.all fun p => nuB (ρ p.2)) = true) (hf : fillA (places[·]?) z.cells.toList (parts.toList.map fun p => (p.1, ρ p.2)) = some out) (kk : K (.agg out.toArray) h) : AOp P ⟨dst, .build t parts, ty, pos, aft, g⟩ ρ h K := by
 obtain ⟨fs, h1, h2⟩ := st.ex
 haveI : TyD P t (.struct fs.toArray) := ⟨h1⟩
 refine op_build (fs := fs.toArray) (places := places) (fun w => ?_) (fun p hp => nuB_ne (Ai.1 hu p hp)) hf kk
 rw [De]
 simp only [Sem.run_map, qd9 h2 w]
 rfl
end
def OBdd (n : Nat) : AObj → Prop
 | .map es _ => ∀ e ∈ es, Bdd n e.key ∧ Bdd n e.val
 | .mapIter m _ _ _ => ∀ j, m = some j → j < n
 | .strIter _ _ => True
section
variable {P : Program} {φ φ' : Ren} {h h' ht : Heap} {w w' : World}
end
def sv (ll : List (List UInt8)) : List Value := ll.map fun s => .string (bstr s)
section
variable {P : Program} {ρ : Operand → Value} {h : Heap} {K : Value → Heap → Prop} {dst : Option Tmp} {ty : TypeId} {pos : String} {aft : Array Edge} {g : Option (Nat × Bool)}
theorem qaM {t t' : TypeId} {x y : Operand} {a b : List UInt8} (hx : ρ x = .string (bstr a)) (hy : ρ y = .string (bstr b)) (he : ¬ a = b) (kk : K (.bool false) h) : AOp P ⟨dst, .binOp .eql t x y t', ty, pos, aft, g⟩ ρ h K :=
 qeB hx hy (c := false) (by simp only [strB, qbv]; rw [show (a == b) = false from by simpa using he]) kk
theorem qh2 {t t' : TypeId} {x y : Operand} {a b : List UInt8} {c : Bool} (hx : ρ x = .string (bstr a)) (hy : ρ y = .string (bstr b)) (he : Op.bytesLess a b = c) (kk : K (.bool c) h) : AOp P ⟨dst, .binOp .lss t x y t', ty, pos, aft, g⟩ ρ h K :=
 op_sLss hx hy (by rw [he]; exact kk)
theorem qg0 (s : List UInt8) (l m : Nat) : (bstr s).extract l m = bstr ((s.take m).drop l) := by
 apply ByteArray.ext
 simp only [ByteArray.data_extract]
 apply Array.ext'
 simp [bstr, List.drop_take]
theorem qa8 {t : TypeId} {x : Operand} {lo hi : Option Operand} {s : List UInt8} {l m : Int} [td : TyD P t .string] (hx : ρ x = .string (bstr s)) (hl : bnd ρ lo 0 = some l) (hm : bnd ρ hi s.length = some m) (h0 : 0 ≤ l) (h1 : l ≤ m) (h2 : m ≤ s.length)
  (kk : K (.string (bstr ((s.take m.toNat).drop l.toNat))) h) : AOp P ⟨dst, .slice t x lo hi none, ty, pos, aft, g⟩ ρ h K :=
 qhU hx hl (by rw [bstr_size]; exact hm) h0 h1 (by rw [bstr_size]; exact h2) (by rw [qg0]; exact kk)
structure RN (c : Nat) (h : Heap) (v : Value) (rows : List (List Value)) : Prop where
 len : ∀ r ∈ rows, r.length = c
 at_ : (v = .slice none 0 0 ∧ rows = []) ∨ ∃ i o s cap, v = .slice (some ⟨i, o, s⟩) rows.length cap ∧ (s = none ∨ s = some c) ∧ (rows ≠ [] → ∃ b, h.get i = some b ∧ o + rows.length * c ≤ b.cells.length ∧ (b.cells.drop o).take (rows.length * c) = rows.flatten)
def PR (h : Heap) (p : Value) (row : List Value) : Prop := ∃ i o s b, p = .pointer (some ⟨i, o, s⟩) ∧ h.get i = some b ∧ o + row.length ≤ b.cells.length ∧ (b.cells.drop o).take row.length = row
theorem RN.ext {c : Nat} {h h' : Heap} {v : Value} {rows : List (List Value)} (r : RN c h v rows) (hx : Ext h h') : RN c h' v rows :=
 ⟨r.len, r.at_.imp id fun ⟨i, o, s, cap, h1, h2, h3⟩ => ⟨i, o, s, cap, h1, h2, fun hv => by obtain ⟨b, h4, h5⟩ := h3 hv; exact ⟨b, hx.c i b h4, h5⟩⟩⟩
theorem PR.ext {h h' : Heap} {p : Value} {row : List Value} (r : PR h p row) (hx : Ext h h') : PR h' p row := by
 obtain ⟨i, o, s, b, h1, h2, h3⟩ := r
 exact ⟨i, o, s, b, h1, hx.c i b h2, h3⟩
theorem RN.nil (c : Nat) (h : Heap) : RN c h (.slice none 0 0) [] := ⟨by simp, .inl ⟨rfl, rfl⟩⟩
theorem RN.slice {c : Nat} {v : Value} {rows : List (List Value)} (r : RN c h v rows) : ∃ a k, v = .slice a rows.length k := by
 rcases r.at_ with ⟨rfl, rfl⟩ | ⟨i, o, s, cap, h1, _⟩
 ·
  exact ⟨none, 0, rfl⟩
 ·
  exact ⟨_, cap, h1⟩
theorem RN.own {c i n cap : Nat} {e : TypeId} {w : Bool} {rows : List (List Value)} (hl : ∀ r ∈ rows, r.length = c) (hi : h.get i = some ⟨rows.flatten, e, w⟩) (hn : rows.length = n) : RN c h (.slice (some ⟨i, 0, some c⟩) n cap) rows := by
 subst hn
 have := qdU hl
 exact ⟨hl, .inr ⟨i, 0, some c, cap, rfl, .inr rfl, fun _ => ⟨_, hi, by simp only [Dx]; omega, by simp only [Du]; rw [Cr (by omega)]⟩⟩⟩
theorem RN.row1 {c i k : Nat} {e : TypeId} {w : Bool} {row : List Value} (hl : row.length = c) (hi : h.get i = some ⟨row, e, w⟩) : RN c h (.slice (some ⟨i, 0, some c⟩) 1 k) [row] :=
 RN.own (rows := [row]) (by intro r hr; rw [Ax.1 hr]; exact hl) (by simpa using hi) rfl
theorem RN.src {c : Nat} {v : Value} {rows : List (List Value)} (r : RN c h v rows) : Src h c v rows.length rows.flatten := by
 rcases r.at_ with ⟨rfl, rfl⟩ | ⟨i, o, s, cap, rfl, hs, hb⟩
 ·
  exact .nil
 ·
  by_cases hv : rows = []
  ·
   subst hv; exact .empty _ _
  ·
   obtain ⟨b, h1, h2, h3⟩ := hb hv
   have := Src.slice (h := h) (sz := c) i o s rows.length cap b h1 h2
   rw [h3] at this
   exact this
def vblk : Value → Option Nat
 | .slice (some a) _ _ => some a.block
 | _ => none
def ptrN (c : Nat) (v : Value) (a : Int) : Value :=
 match v with
 | .slice (some ⟨i, o, _⟩) _ _ => .pointer (some ⟨i, o + a.toNat * c, none⟩)
 | _ => undef
theorem RN.elt {c : Nat} {v : Value} {rows : List (List Value)} (r : RN c h v rows) {a : Int} {u : List Value} (hu : rows[a.toNat]? = some u) : PR h (ptrN c v a) u := by
 have hl := (Av.1 hu).1
 have hul := r.len u (Aw hu)
 rcases r.at_ with ⟨rfl, rfl⟩ | ⟨i, o, s, cap, rfl, hs, hb⟩
 ·
  simp at hl
 ·
  obtain ⟨b, h1, h2, h3⟩ := hb (by intro e; subst e; simp at hl)
  have h4 := qft r.len hu
  have h5 : a.toNat * c + c ≤ rows.length * c := by have := Bo c (show a.toNat + 1 ≤ rows.length from hl); rw [Dk] at this; omega
  refine ⟨i, o + a.toNat * c, none, b, rfl, h1, by omega, ?_⟩
  rw [hul, ← List.drop_drop]
  rw [← h3, List.drop_take, List.take_take, Nat.min_eq_left (by omega)] at h4
  exact h4
theorem qaA {c : Nat} {x : Operand} {t e : TypeId} {v : Value} {rows : List (List Value)} [td : TyD P t (.slice e)] (r : RN c h v rows) (hx : ρ x = v) (kk : K (.int .i64 rows.length) h) :
  AOp P ⟨dst, .call ⟨.builtin .len, #[x], #[t]⟩, ty, pos, aft, g⟩ ρ h K := by
 obtain ⟨a, k, e⟩ := r.slice
 exact qch (hx.trans e) kk
theorem qaD {c : Nat} {t e : TypeId} {x y : Operand} {by_ : Nat} {z v : Value} {u : List Value} {k : IntKind} {a : Int} {rows : List (List Value)} [td : TyD P t (.slice e)] [ti : TyI P e c by_ z] (r : RN c h v rows) (hx : ρ x = v) (hy : ρ y = .int k a) (h0 : 0 ≤ a)
  (hu : rows[a.toNat]? = some u) (kk : K (ptrN c v a) h) : AOp P ⟨dst, .indexAddr t x y, ty, pos, aft, g⟩ ρ h K := by
 have hl := (Av.1 hu).1
 rcases r.at_ with ⟨rfl, rfl⟩ | ⟨i, o, s, cap, rfl, hs, hb⟩
 ·
  simp at hl
 ·
  exact qeI hx hy h0 (by omega) kk
theorem qeg {c : Nat} {t e : TypeId} {x y : Operand} {by_ : Nat} {z v : Value} {u : List Value} {k : IntKind} {a : Int} {rows : List (List Value)} [td : TyD P t (.slice e)] [ti : TyI P e c by_ z] (r : RN c h v rows) (hx : ρ x = v) (hy : ρ y = .int k a) (h0 : 0 ≤ a)
  (hu : rows[a.toNat]? = some u) (kk : ∀ p, PR h p u → K p h) : AOp P ⟨dst, .indexAddr t x y, ty, pos, aft, g⟩ ρ h K := qaD r hx hy h0 hu (kk _ (r.elt hu))
def offP (p : Value) (off : Nat) : Value :=
 match p with
 | .pointer (some ⟨i, o, _⟩) => .pointer (some ⟨i, o + off, none⟩)
 | _ => undef
theorem PR.field {p : Value} {row : List Value} (r : PR h p row) {off : Nat} {u : Value} (hu : row[off]? = some u) : PT h (offP p off) u := by
 obtain ⟨i, o, s, b, rfl, h1, h2, h3⟩ := r
 have hl := (Av.1 hu).1
 refine ⟨i, o + off, none, b, rfl, h1, ?_⟩
 rw [← h3, Bt hl, Db] at hu
 exact hu
theorem qdw {t : TypeId} {x : Operand} {f off : Nat} {p : Value} {row : List Value} [fa : FAd P t f off] (r : PR h p row) (hx : ρ x = p) (kk : K (offP p off) h) : AOp P ⟨dst, .fieldAddr t x f, ty, pos, aft, g⟩ ρ h K := by
 obtain ⟨i, o, s, b, rfl, _⟩ := r
 exact qan hx kk
theorem qbM {t : TypeId} {x : Operand} {p u : Value} {row : List Value} {off : Nat} {d : TypeDesc} [td : TyD P t d] (r : PR h p row) (hx : ρ x = offP p off) (hu : row[off]? = some u) (ha : aggB d = false) (kk : K u h) : AOp P ⟨dst, .load t x, ty, pos, aft, g⟩ ρ h K :=
 qar (r.field hu) hx ha kk
theorem qaW {t : TypeId} {c by_ : Nat} {z : Value} {x : Operand} {p : Value} {row : List Value} {d : TypeDesc} [td : TyD P t d] [ti : TyI P t c by_ z] (r : PR h p row) (hc : row.length = c) (hx : ρ x = p) (ha : aggB d = true) (kk : K (.agg row.toArray) h) : AOp P ⟨dst, .load t x, ty, pos, aft, g⟩ ρ h K := by
 obtain ⟨i, o, s, b, rfl, h1, h2, h3⟩ := r
 subst hc
 exact qam hx ha h1 h2 (by rw [h3]; exact kk)
def subN (c : Nat) (v : Value) (l m : Int) : Value :=
 match v with
 | .slice (some ⟨i, o, s⟩) _ k => .slice (some ⟨i, o + l.toNat * c, s⟩) (m - l).toNat (k - l.toNat)
 | _ => .slice none 0 0
theorem RN.sub {c : Nat} {v : Value} {rows : List (List Value)} {l m : Int} (r : RN c h v rows) (h0 : 0 ≤ l) (h1 : l ≤ m) (h2 : m ≤ rows.length) : RN c h (subN c v l m) ((rows.take m.toNat).drop l.toNat) := by
 refine ⟨fun x hx => r.len x (Cg (List.mem_of_mem_drop hx)), ?_⟩
 rcases r.at_ with ⟨rfl, rfl⟩ | ⟨i, o, s, cap, rfl, hs, hb⟩
 ·
  exact .inl ⟨rfl, by simp⟩
 ·
  have hlen : ((rows.take m.toNat).drop l.toNat).length = (m - l).toNat := by simp; omega
  refine .inr ⟨i, o + l.toNat * c, s, cap - l.toNat, by rw [hlen]; rfl, hs, fun hne => ?_⟩
  have hv : rows ≠ [] := by intro e; subst e; simp at hne
  obtain ⟨b, q1, q2, q3⟩ := hb hv
  have hmc : m.toNat * c ≤ rows.length * c := Bo _ (by omega)
  have hlm : l.toNat * c + (m - l).toNat * c = m.toNat * c := by rw [← Dk]; congr 1; omega
  refine ⟨b, q1, by rw [hlen]; omega, ?_⟩
  rw [hlen]
  have e1 : ∀ (L : List (List Value)) (k : Nat), (∀ x ∈ L, x.length = c) → k ≤ L.length → L.flatten.take (k * c) = (L.take k).flatten ∧ L.flatten.drop (k * c) = (L.drop k).flatten := by
   intro L k hL hk
   have hf : (L.take k).flatten.length = k * c := by rw [qdU (fun x hx => hL x (Cg hx)), Bb, Nat.min_eq_left hk]
   have e : L.flatten = (L.take k).flatten ++ (L.drop k).flatten := by rw [← List.flatten_append, Dc]
   rw [e, List.take_append_of_le_length (by omega), Cr (by omega), Cs (by omega), Dl (by omega)]
   exact ⟨rfl, rfl⟩
  have f1 := (e1 rows m.toNat r.len (by omega)).1
  have f2 := (e1 (rows.take m.toNat) l.toNat (fun x hx => r.len x (Cg hx)) (by rw [Bb]; omega)).2
  rw [← f2, ← f1, ← q3, List.take_take, Nat.min_eq_left hmc, List.drop_take, List.drop_drop]
  congr 1
  omega
theorem qgZ {c : Nat} {t e : TypeId} {x : Operand} {lo hi : Option Operand} {by_ : Nat} {z v : Value} {l m : Int} {rows : List (List Value)} [td : TyD P t (.slice e)] [ti : TyI P e c by_ z] (r : RN c h v rows) (hx : ρ x = v)
  (hl : bnd ρ lo 0 = some l) (hm : bnd ρ hi rows.length = some m) (h0 : 0 ≤ l) (h1 : l ≤ m) (h2 : m ≤ rows.length) (kk : K (subN c v l m) h) : AOp P ⟨dst, .slice t x lo hi none, ty, pos, aft, g⟩ ρ h K := by
 rcases r.at_ with ⟨rfl, rfl⟩ | ⟨i, o, s, cap, rfl, hs, hb⟩
 ·
  simp only [Ag] at h2 hm
  obtain rfl : l = 0 := by omega
  obtain rfl : m = 0 := by omega
  exact qhs hx hl hm kk
 ·
  exact op_slice hx hl hm h0 h1 h2 hs kk
def Shp (c : Nat) (v : Value) (n : Nat) : Prop := (v = .slice none 0 0 ∧ n = 0) ∨ ∃ i o s cap, v = .slice (some ⟨i, o, s⟩) n cap ∧ (s = none ∨ s = some c)
structure ON (B c : Nat) (h : Heap) (e : TypeId) (v : Value) (rows : List (List Value)) : Prop where
 len : ∀ r ∈ rows, r.length = c
 at_ : (v = .slice none 0 0 ∧ rows = []) ∨ ∃ i cap, B ≤ i ∧ v = .slice (some ⟨i, 0, some c⟩) rows.length cap ∧ h.get i = some ⟨rows.flatten, e, true⟩
section
variable {B c : Nat} {e : TypeId} {v : Value} {rows : List (List Value)} {h' : Heap}
theorem ON.rn (r : ON B c h e v rows) : RN c h v rows := by
 rcases r.at_ with ⟨rfl, rfl⟩ | ⟨i, cap, _, rfl, hi⟩
 ·
  exact RN.nil c h
 ·
  exact RN.own r.len hi rfl
theorem ON.nil (B c : Nat) (h : Heap) (e : TypeId) : ON B c h e (.slice none 0 0) [] := ⟨by simp, .inl ⟨rfl, rfl⟩⟩
theorem ON.ext (r : ON B c h e v rows) (hx : Ext h h') : ON B c h' e v rows :=
 ⟨r.len, r.at_.imp id fun ⟨i, cap, h1, h2, h3⟩ => ⟨i, cap, h1, h2, hx.c _ _ h3⟩⟩
theorem ON.one (r : ON B c h e v rows) : oneB v = true := by
 rcases r.at_ with ⟨rfl, _⟩ | ⟨i', cap, hi', rfl, _⟩ <;> rfl
theorem RN.one {c : Nat} {v : Value} {rows : List (List Value)} (r : RN c h v rows) : oneB v = true := by
 rcases r.at_ with ⟨rfl, _⟩ | ⟨i', o, s, cap, rfl, _⟩ <;> rfl
theorem Keeps.extN {h0 : Heap} (k : Keeps v h h') (r : ON B c h e v rows) (wf0 : WF h0) (hB : h0.next ≤ B) (hx : Ext h0 h) : Ext h0 h' := by
 refine ⟨fun j b hj => ?_, fun j o hj => k.o j o (hx.o j o hj)⟩
 refine k.c j b (hx.c j b hj) fun s n c' hv => ?_
 have hlt := wf0.lt hj
 rcases r.at_ with ⟨rfl, _⟩ | ⟨i, cap, hi, rfl, _⟩
 ·
  cases hv
 ·
  cases hv; omega
end
theorem qcy {t t2 e : TypeId} {d2 : TypeDesc} {x y : Operand} {c by_ B m : Nat} {z u v : Value} {rows news : List (List Value)} [td : TyD P t (.slice e)] [t2d : TyD P t2 d2] [ti : TyI P e c by_ z] (hd2 : appB d2 = true) (wf : WF h) (hB : B ≤ h.next)
  (r : ON B c h e u rows) (hx : ρ x = u) (hy : ρ y = v) (hs : Src h c v m news.flatten) (hm : news.length = m) (hl : ∀ r ∈ news, r.length = c) (hone : news.flatten.all oneB = true) (h1 : rows.length + m ≤ maxLen) (h2 : (rows.length + m) * by_ ≤ 140737488355328)
  (kk : ∀ u' h', ON B c h' e u' (rows ++ news) → (∀ j s n k, u' = .slice (some ⟨j, 0, s⟩) n k → h.next ≤ j) → Keeps u h h' → WF h' → h.next ≤ h'.next → K u' h') : AOp P ⟨dst, .call ⟨.builtin .append, #[x, y], #[t, t2]⟩, ty, pos, aft, g⟩ ρ h K := by
 have hlen : ∀ r' ∈ rows ++ news, r'.length = c := fun r' hr => (Bh.1 hr).elim (r.len r') (hl r')
 rcases r.at_ with ⟨rfl, rfl⟩ | ⟨i, cap, hBi, rfl, hi⟩
 ·
  refine qdG (z := z) hd2 hx hy hs (by simpa using h1) (by simpa using h2) (fun hm0 => ?_) (fun hm0 => ?_)
  ·
   have : news = [] := Bu (by omega)
   subst this
   exact kk _ _ ⟨hlen, .inl ⟨rfl, rfl⟩⟩ (fun j s n k e => by cases e) ⟨fun j b hj _ => hj, fun j b hj => hj⟩ wf (Aa _)
  ·
   exact kk _ _ ⟨hlen, .inr ⟨h.next, m + 1, hB, by simp [hm], by simp [aB]⟩⟩ (fun j s n k e => by cases e; exact Aa _) ⟨fun j b hj _ => (wf.ext _).c j b hj, fun j b hj => hj⟩ (wf.alloc _) (by simp [Heap.alloc])
 ·
  refine qgx (z := z) hd2 hx hy hi rfl rfl (qdU r.len) hs hone h1 h2 ?_
  refine kk _ _ ⟨hlen, .inr ⟨h.next, rows.length + m + 1, hB, by simp [hm], by rw [Heap.kill_alloc_new, List.flatten_append]⟩⟩ (fun j s n k e => by cases e; exact Aa _) ⟨fun j b hj hne => ?_, fun j b hj => hj⟩ ((wf.kill i).alloc _) (by simp [Heap.alloc, Heap.kill])
  have := wf.lt hj
  rw [Heap.kill_alloc_old (by omega) (fun e => hne (some c) rows.length cap (by rw [e]))]
  exact hj
theorem qe3 {t e sz by_ : Nat} {z : Value} {len : Nat} {parts : Array (Nat × Operand)} {out : List Value} [td : TyD P t (.slice e)] [ti : TyI P e sz by_ z] (hl : len * sz ≤ 16777216) (hl0 : 0 < len) (hs0 : 0 < sz) (hu : ∀ p ∈ parts.toList, ρ p.2 ≠ undef)
  (hf : fillA (fun i => some (i * sz, sz)) ((List.range (len * sz)).map fun k => z.cells.toList.getD (k % sz) undef) (parts.toList.map fun p => (p.1, ρ p.2)) = some out) (hlen : out.length = len * sz)
  (kk : K (.slice (some ⟨h.next, 0, some sz⟩) len len) (h.alloc ⟨out, e, true⟩)) : AOp P ⟨dst, .buildSlice t len parts, ty, pos, aft, g⟩ ρ h K :=
 .of_run fun φ ac w r => by
  have hzs : z.cells.size = sz := ti.sz
  have hzp := ti.plain
  have hget : ∀ k, z.cells.toList.getD (k % sz) undef = z.cells[k % z.cells.size]! := by
   intro k
   have hk : k % sz < z.cells.size := by rw [hzs]; exact Nat.mod_lt _ hs0
   rw [hzs, getElem!_pos z.cells (k % sz) hk]
   simp [List.getD_eq_getElem?_getD, hk]
  have hinit : (Array.map (fun x => z.cells[x % z.cells.size]!) (Array.range (len * sz))).toList = (List.range (len * sz)).map fun k => z.cells.toList.getD (k % sz) undef := by
   rw [Array.toList_map, Array.toList_range]
   exact List.map_congr_left fun k _ => (hget k).symm
  obtain ⟨arr', h1, h2⟩ := qdf (φ := φ) (n := h.next) (fun i => some (i * sz, sz)) ac parts.toList _ out (Array.map (fun x => z.cells[x % z.cells.size]!) (Array.range (len * sz))) (by
   rw [hinit]
   refine cI (Ai.2 fun v hv => ?_)
   obtain ⟨k, _, rfl⟩ := Bp.1 hv
   have hk : k % sz < z.cells.toList.length := by rw [Array.length_toList, hzs]; exact Nat.mod_lt _ hs0
   rw [Cv, At hk]
   exact Ai.1 hzp _ (Ej hk)) (fun p hp => r.ev p.2 (by simp [Op.operands]; exact ⟨p.1, by simpa using hp⟩)) hu hf
  have hal : arr'.size = len * sz := by have := h2.length; simp at this; omega
  obtain ⟨s1, s2⟩ := r.sim.alloc out arr' e (0, 0) (.inl rfl) (by omega) h2.toArr
  have he : (parts.map fun (p : Nat × Operand) => (p.1, ac.eval p.2)).toList = parts.toList.map fun p => (p.1, ac.eval p.2) := by simp
  have hn0 : ¬ (len * sz = 0) := by
   have := Nat.mul_pos hl0 hs0
   omega
  have hrun : (Instr.buildSlice t len (parts.map fun (p : Nat × Operand) => (p.1, ac.eval p.2))).run P w = .ok (.slice (some ⟨w.heap.size, 0, none⟩) len len) (w.alloc (.cells arr' e)) := by
   have hb : ¬ (len * sz > 2 ^ 24) := by omega
   simp only [Instr.buildSlice, Sem.run_bind, td.run, Result.andThen_ok, ti.size, Ac hb, Ac hn0, ti.zero, Sem.run_pure, he]
   rw [h1]
   simp [newRow]
  refine ⟨_, _, _, _, _, by simp [execOp, hrun]; rfl, kk, ?_, s1, s2⟩
  have h3 : len * 1 ≤ len * sz := Nat.mul_le_mul_left _ hs0
  have h24 : len ≤ maxLen := by simp only [maxLen]; omega
  refine .newSlice (Aa _) (Aa _) ⟨fun _ => rfl, fun hb => by simp only [maxLen] at h24; omega⟩ h24 ?_
  intro t ht
  cases ht
  omega
theorem qd5 {t e sz by_ : Nat} {z : Value} {x : Operand} {row : List Value} [td : TyD P t (.slice e)] [ti : TyI P e sz by_ z] (hl : sz ≤ 16777216) (hs0 : 0 < sz) (hx : ρ x = .agg row.toArray) (hr : row.length = sz)
  (kk : K (.slice (some ⟨h.next, 0, some sz⟩) 1 1) (h.alloc ⟨row, e, true⟩)) : AOp P ⟨dst, .buildSlice t 1 #[(0, x)], ty, pos, aft, g⟩ ρ h K := by
 refine qe3 (out := row) (by omega) (by omega) hs0 (fun p hp => ?_) ?_ (by omega) kk
 ·
  simp only [Ax] at hp
  rw [hp, hx]; intro e; cases e
 ·
  show fillA _ _ [(0, ρ x)] = _
  rw [hx]
  have hc : (Value.agg row.toArray).cells = row.toArray := rfl
  simp only [fillA, hc, Ef, hr, Nat.zero_mul, Ap, List.length_range, Nat.one_mul, Dx]
  rw [Ac (by simp)]
  congr 1
  exact qfo _ _ (by simp [hr])
end
section
variable {P : Program} {φ : Ren} {h : Heap} {w w' : World}
theorem Sim.below (s : Sim P φ h w) (b : Go.RowKit.Below w.heap.size w w') : Sim P φ h w' where
 next := s.next
 blk i c hi := (s.blk i c hi).world (fun _ _ => rfl) (s.lt hi) (Aa _) (b.block _ (s.low i c hi))
 low i c hi := Co (s.low i c hi) b.size
 apart := s.apart
 glob := s.glob
 objs i o hi := (s.objs i o hi).world (fun _ _ => rfl) (s.ltO hi) (Aa _) (b.block _ (s.lowO hi))
 apartO := s.apartO
theorem Step.below (b : Go.RowKit.Below w.heap.size w w') : Step φ h w φ h w' :=
 ⟨Aa _, fun _ _ => rfl, b.os, b.tape, b.output, b.size, fun k hk _ => b.block k hk, fun _ hk => .inl hk⟩
def solid : Value → Bool
 | .bool _ | .int _ _ | .string _ | .pointer none | .slice none 0 0 | .nilIface => true
 | _ => false
theorem VRel.solid_inv {n : Nat} {v c : Value} (hs : solid v = true) (r : VRel φ n v c) : c = v := by
 cases r <;> first | rfl | (cases hs; done) | skip
 all_goals (simp [solid] at hs)
theorem VRels.solid_inv {n : Nat} : ∀ {vs cs : List Value}, vs.all solid = true → VRels φ n vs cs → cs = vs
 | [], _, _, r => by cases r; rfl
 | v :: vs, _, hs, r => by
  cases r with
  | cons h t =>
   simp only [Bc, Ae] at hs
   rw [h.solid_inv hs.1, t.solid_inv hs.2]
end
section
variable {P : Program} {φ : Ren} {h : Heap} {W : World}
def Free (h : Heap) : Prop := (∀ i b, h.get i = some b → b.own = false) ∧ ∀ i, h.obj i = none
def tabB (k : IntKind) (zs : List Int) : Blk := ⟨zs.map (Value.int k), 1, false⟩
theorem qhi {G : Nat} {bs : List RoB} : Free (roHeap G bs) := by
 refine ⟨fun i b hb => ?_, fun i => rfl⟩
 have : (if i < G then none else (bs[i - G]?).bind fun b => if b.cells.isEmpty then none else some (⟨b.cells, 0, false⟩ : Blk)) = some b := hb
 split at this
 ·
  cases this
 ·
  cases hq : bs[i - G]? with
  | none => rw [hq] at this; cases this
  | some rb =>
   rw [hq] at this
   simp only [Da] at this
   split at this
   ·
    cases this
   ·
    cases this; rfl
theorem Free.tell (hf : Free h) {g : Nat} {b : Blk} (hb : b.own = false) : Free (h.set g b) := by
 refine ⟨fun i c hc => ?_, hf.2⟩
 simp only [Heap.set] at hc
 split at hc
 ·
  cases hc; exact hb
 ·
  exact hf.1 i c hc
structure Told (P : Program) (W : World) (g : Nat) (b : Blk) : Prop where
 isg : g < P.globals.size
 lt : g < W.heap.size
 own : b.own = false
 rel : ∀ (φ : Ren) n, (φ g).b = g → (φ g).o = 0 → BRel P φ n g b W
theorem told_tab {g : Nat} {k : IntKind} {zs : List Int} {t : TypeId} {fr : Nat × Nat} (hg : g < P.globals.size) (hw : W.heap[g]? = some (.cells (zs.map (Value.int k)).toArray t fr)) : Told P W g (tabB k zs) where
 isg := hg
 lt := (Az.1 hw).1
 own := rfl
 rel φ n e1 e2 := by
  unfold BRel tabB
  rw [Ac (by simp)]
  refine ⟨.inr ⟨e2, _, t, fr, by rw [e1]; exact hw, by simp⟩, fun j v hj => ?_⟩
  simp only at hj
  refine ⟨v, ?_, ?_⟩
  ·
   rw [e1, e2]
   simp [World.cell?, hw, hj]
  ·
   obtain ⟨z, _, rfl⟩ := Bp.1 (Aw hj)
   exact .int k z
def errB (t : TypeId) : Blk := ⟨[.iface t undef], 0, false⟩
theorem told_err {g : Nat} {te : TypeId} {v : Value} (hg : g < P.globals.size) (hw : W.cell? ⟨g, 0, none⟩ = some (.iface te v)) : Told P W g (errB te) where
 isg := hg
 lt := by
  unfold World.cell? at hw
  split at hw
  ·
   rename_i h1
   exact (Az.1 h1).1
  ·
   cases hw
 own := rfl
 rel φ n e1 e2 := by
  unfold BRel errB
  rw [Ac (by simp)]
  refine ⟨.inl rfl, fun j u hj => ?_⟩
  match j, hj with
  | 0, hj =>
   cases hj
   refine ⟨_, ?_, .iface te undef v (.und v)⟩
   rw [e1, e2]
   exact hw
theorem Sim.tell (s : Sim P φ h W) (hf : Free h) {g : Nat} {b : Blk} (ht : Told P W g b) : Sim P φ (h.set g b) W where
 next := by
  refine ⟨fun i hi => ?_, s.next.2⟩
  have h1 := (s.glob g ht.isg).2
  simp only [Heap.set] at hi ⊢
  rw [Ac (by omega)]
  exact s.next.1 i hi
 blk i c hi := by
  simp only [Heap.set] at hi
  split at hi
  ·
   rename_i he
   subst he
   cases hi
   exact ht.rel φ _ (s.glob i ht.isg).1.1 (s.glob i ht.isg).1.2
  ·
   exact s.blk i c hi
 low i c hi := by
  simp only [Heap.set] at hi
  split at hi
  ·
   rename_i he
   subst he
   rw [(s.glob i ht.isg).1.1]
   exact ht.lt
  ·
   exact s.low i c hi
 apart i j c hi ho hj he := by
  simp only [Heap.set] at hi
  split at hi
  ·
   cases hi
   rw [ht.own] at ho
   cases ho
  ·
   have := hf.1 i c hi
   rw [this] at ho
   cases ho
 glob := s.glob
 objs := s.objs
 apartO i j o hi := by
  have : h.obj i = some o := hi
  rw [hf.2 i] at this
  cases this
theorem tells : ∀ (T : List (Nat × Blk)) {h : Heap}, Sim P φ h W → Free h → (∀ x ∈ T, Told P W x.1 x.2 ∧ h.get x.1 = none) → (T.map (·.1)).Nodup →
  ∃ h', Sim P φ h' W ∧ Free h' ∧ h'.next = h.next ∧ Ext h h' ∧ ∀ x ∈ T, h'.get x.1 = some x.2
 | [], h, s, hf, _, _ => ⟨h, s, hf, rfl, ⟨fun _ _ e => e, fun _ _ e => e⟩, fun x hx => by cases hx⟩
 | x :: T, h, s, hf, ht, hn => by
  obtain ⟨h1, h2⟩ := ht x Bl
  rw [Bq, List.nodup_cons] at hn
  have hne : ∀ y ∈ T, y.1 ≠ x.1 := fun y hy e => hn.1 (e ▸ List.mem_map_of_mem hy)
  obtain ⟨h', q1, q2, q3, q4, q5⟩ := tells T (h := h.set x.1 x.2) (s.tell hf h1) (hf.tell h1.own) (fun y hy => by
   obtain ⟨a, b⟩ := ht y (Ay x hy)
   refine ⟨a, ?_⟩
   simp only [Heap.set]
   rw [Ac (hne y hy)]
   exact b) hn.2
  have he : Ext h (h.set x.1 x.2) := ⟨fun i b hi => by
   simp only [Heap.set]
   split
   ·
    rename_i e
    subst e
    rw [h2] at hi
    cases hi
   ·
    exact hi, fun _ _ e => e⟩
  refine ⟨h', q1, q2, q3, ⟨fun i b hi => q4.c i b (he.c i b hi), fun i o hi => q4.o i o (he.o i o hi)⟩, fun y hy => ?_⟩
  rcases Ak.1 hy with rfl | hy
  ·
   exact q4.c _ _ (by simp [Heap.set])
  ·
   exact q5 y hy
theorem law_free {f : FuncId} {args cargs : List Value} (s : Sim P φ h W) (hf : Free h) (hargs : VRels φ h.next args cargs) (p : ACalls P f args h fun v _ => v = .bool true) :
  Calls P f cargs.toArray W fun e W' => e = .returned (.bool true) ∧ Go.RowKit.Below W.heap.size W W' :=
 (p _ W cargs s hargs).mono fun e W' hr => by
  cases e with
  | returned c =>
   obtain ⟨v, h', φ', rfl, hv, _, st⟩ := hr
   refine ⟨by rw [hv.bool_inv], st.os, st.tape, st.output, st.size, fun k hk => st.frame k hk ?_⟩
   rintro (⟨i, b, hb, ho, _⟩ | ⟨i, o, hb, _⟩)
   ·
    rw [hf.1 i b hb] at ho
    cases ho
   ·
    rw [hf.2 i] at hb
    cases hb
  | panicked c => exact hr.elim
  | outgrown => exact hr.elim
theorem Sim.tab (s : Sim P φ h W) {g : Nat} {name : String} {k : IntKind} {zs : List Int} (hn : P.globalNamed name = some g) (hg : g < P.globals.size) (ht : h.get g = some (tabB k zs)) : Lib.TabIs P W name k zs := by
 obtain ⟨⟨e1, e2⟩, _⟩ := s.glob g hg
 have hb := s.blk g _ ht
 unfold BRel tabB at hb
 rw [Ac (by simp)] at hb
 obtain ⟨hw | ⟨_, arr, t, fr, hw, hsz⟩, hc⟩ := hb
 ·
  cases hw
 ·
  simp only at hsz hc
  rw [e1] at hw
  have ha : arr = (zs.map (Value.int k)).toArray := by
   apply Array.ext'
   apply Eg
   intro j
   have hj : (arr.toList)[j]? = arr[j]? := by simp
   by_cases hjl : j < (zs.map (Value.int k)).length
   ·
    obtain ⟨c, h1, h2⟩ := hc j _ (At hjl)
    rw [e1, e2] at h1
    simp only [World.cell?, hw, Dx] at h1
    have h3 : c = (zs.map (Value.int k))[j] := by
     rw [List.getElem_map] at h2 ⊢
     cases h2
     rfl
    rw [hj]
    simp only [At hjl]
    rw [← h3]
    simpa using h1
   ·
    rw [hj, Cq (by omega), Cc (by simpa using hjl)]
  unfold Lib.TabIs World.var?
  rw [hn]
  simp only [Da, hw, ha]
theorem ACalls.of_sim {f : FuncId} {args : List Value} {v : Value} (ha : args.all solid = true) (hv : plainV v = true) (c : ∀ φ w, Sim P φ h w → Calls P f args.toArray w fun e w' => e = .returned v ∧ Go.RowKit.Below w.heap.size w w') :
  ACalls P f args h fun u h' => u = v ∧ h' = h := by
 intro φ w cargs s va
 rw [va.solid_inv ha]
 refine (c φ w s).mono fun e w' ⟨he, hb⟩ => ?_
 subst he
 exact ⟨v, h, φ, ⟨rfl, rfl⟩, .of_plain hv, s.below hb, Step.below hb⟩
variable {H : Type} {enc : TypeId × Value → H}
end
section
variable {P : Program} {φ : Ren} {h : Heap} {w : World}
theorem RS.conc {v c : Value} {vs : List Value} (r : RS h v vs) (hs : vs.all solid = true) (s : Sim P φ h w) (rv : VRel φ h.next v c) :
  ∃ a cap, c = .slice a vs.length cap ∧ vs.length ≤ cap ∧ cap ≤ maxLen ∧ (vs = [] ∨ ∃ b o, a = some ⟨b, o, none⟩ ∧ b < w.heap.size ∧ ∀ (j : Nat) x, vs[j]? = some x → w.cell? ⟨b, o + j, none⟩ = some x) := by
 rcases r with ⟨rfl, rfl⟩ | ⟨i, o, st, k, rfl, hst, hb⟩
 ·
  cases rv
  exact ⟨none, 0, rfl, Aa _, Ao _, .inl rfl⟩
 ·
  cases rv with
  | slice i o len cap cap' st a' hi h1 h2 h3 h4 h5 h6 =>
   refine ⟨some a', cap', rfl, h2, h5, ?_⟩
   by_cases hv : vs = []
   ·
    exact .inl hv
   ·
    right
    obtain ⟨b, g1, g2, g3⟩ := hb hv
    have hpos : 0 < vs.length := Ea.2 hv
    have ha : a' = ⟨(φ i).b, (φ i).o + o, none⟩ := by
     rcases h4 with h4 | h4
     ·
      exact h4
     ·
      omega
    refine ⟨(φ i).b, (φ i).o + o, by rw [ha], s.low i b g1, fun j x hj => ?_⟩
    have hjl := (Av.1 hj).1
    have hc : b.cells[o + j]? = some x := by
     have : ((b.cells.drop o).take vs.length)[j]? = some x := by rw [g3]; exact hj
     rw [Bt hjl, Db] at this
     exact this
    obtain ⟨c, q1, q2⟩ := s.cell g1 hc
    have hx := q2.solid_inv (Ai.1 hs x (Aw hj))
    rw [← Eb] at q1
    rw [q1, hx]
theorem ACalls.of_conc {f : FuncId} {args : List Value} {v : Value} (hv : plainV v = true) (c : ∀ φ w cargs, Sim P φ h w → VRels φ h.next args cargs → Calls P f cargs.toArray w fun e w' => e = .returned v ∧ Go.RowKit.Below w.heap.size w w') :
  ACalls P f args h fun u h' => u = v ∧ h' = h := by
 intro φ w cargs s va
 refine (c φ w cargs s va).mono fun e w' ⟨he, hb⟩ => ?_
 subst he
 exact ⟨v, h, φ, ⟨rfl, rfl⟩, .of_plain hv, s.below hb, Step.below hb⟩
theorem ACalls.of_rel {f : FuncId} {args : List Value} {v : Value} (c : ∀ φ w cargs, Sim P φ h w → VRels φ h.next args cargs → Calls P f cargs.toArray w fun e w' => ∃ c, e = .returned c ∧ VRel φ h.next v c ∧ Go.RowKit.Below w.heap.size w w') :
  ACalls P f args h fun u h' => u = v ∧ h' = h := by
 intro φ w cargs s va
 refine (c φ w cargs s va).mono fun e w' ⟨c, he, hv, hb⟩ => ?_
 subst he
 exact ⟨v, h, φ, ⟨rfl, rfl⟩, hv, s.below hb, Step.below hb⟩
end
structure Spec where
 p : Value → Heap → Prop
 mono : ∀ v h h', p v h → Ext h h' → p v h'
def Spec.any : Spec := ⟨fun _ _ => True, fun _ _ _ _ _ => trivial⟩
def Spec.eq (c : Value) : Spec := ⟨fun v _ => v = c, fun _ _ _ h _ => h⟩
def Spec.rs (vs : List Value) : Spec := ⟨fun v h => RS h v vs, fun _ _ _ h x => RS.ext h x⟩
def Spec.rb (l : List UInt8) : Spec := ⟨fun v h => RB h v l, fun _ _ _ h x => RB.ext h x⟩
def Spec.rbb (l : List (List UInt8)) : Spec := ⟨fun v h => RBB h v l, fun _ _ _ h x => RBB.ext h x⟩
def dstOf (ops : Array Oper) (j : Nat) : Nat :=
 match ops[j]? with
 | some o => o.dst.getD 0
 | none => 0
def lowB (ops : Array Oper) (t : Nat) : Bool := ops.toList.all fun o => match o.dst with
 | some d => !Nat.beq d t
 | none => true
def flowB (N : Nat) (ops : Array Oper) : Bool :=
 (List.range ops.size).all fun i => (match ops[i]? with
  | some o => (match o.dst with
   | some d => Nat.blt d N
   | none => false) && o.after.all (fun e => !Region.binds .any e || Nat.blt e.on i)
  | none => false) && (List.range i).all fun j => !Nat.beq (dstOf ops i) (dstOf ops j)
section
variable {P : Program} {N : Nat} {ops : Array Oper} {Q : Exit → Env → Heap → Prop} {env : Env} {h : Heap} {S : List Spec}
def spec (S : List Spec) (i : Nat) : Spec := S.getD i .any
def FlowAt (P : Program) (ops : Array Oper) (env : Env) (h : Heap) (S : List Spec) (i : Nat) (o : Oper) : Prop :=
 ∀ e h', Ext h h' → WF h' → h.next ≤ h'.next → (∀ t, lowB ops t = true → e.get t = env.get t) → (∀ j, edgeB ops i j = true → (spec S j).p (e.get (dstOf ops j)) h') →
  (gv ops e o = some true ∧ AOp P o (ev P e) h' fun v h'' => Ext h' h'' ∧ (spec S i).p v h'') ∨ (gv ops e o = some false ∧ (spec S i).p undef h')
def FlowL (P : Program) (ops : Array Oper) (env : Env) (h : Heap) (S : List Spec) : Nat → List Oper → Prop
 | _, [] => True
 | i, o :: l => FlowAt P ops env h S i o ∧ FlowL P ops env h S (i + 1) l
end
variable {P : Program} {ρ : Operand → Value} {h : Heap} {K : Value → Heap → Prop} {dst : Option Tmp} {ty : TypeId} {pos : String} {aft : Array Edge} {g : Option (Nat × Bool)}
theorem ResV.cell2 {fn : Func} {env : Env} {a u : Tmp} {t : TypeId} {i o sz by_ : Nat} {z : Value} {s : Option Nat} {b : Blk} {d : TypeDesc} [td : TyD P t d] [ti : TyI P t sz by_ z] (hr : fn.results = #[.cell a t, .tmp u]) (hx : env.get a = .pointer (some ⟨i, o, s⟩)) (ha : aggB d = true)
  (hi : h.get i = some b) (hl : o + sz ≤ b.cells.length) : ResV P fn env h (.tuple #[.agg ((b.cells.drop o).take sz).toArray, env.get u]) := by
 intro N φ tmps w r
 obtain ⟨v, h1, h2⟩ := qdO (P := P) (t := t) r.sim (hx ▸ r.env a) ha hi hl
 refine ⟨.tuple #[v, tmps.getD u undef], ?_, .tuple2 h2 (r.env u)⟩
 have h3 : (results fn tmps).run P w = (do let x ← loadVar t (← asAddr (tmps.getD a undef)); pure (.tuple #[x, tmps.getD u undef]) : Sem Value).run P w := by
  simp only [results, hr]
  simp only [De, Dr, El, Sem.run_bind, Sem.run_map, Sem.run_pure]
  cases (asAddr (tmps.getD a undef)).run P w with
  | halt x w1 => rfl
  | ok x w1 =>
   simp only [Result.andThen_ok]
   cases (loadVar t x).run P w1 with
   | halt y w2 => rfl
   | ok y w2 => rfl
 rw [h3]
 simp only [Sem.run_bind] at h1 ⊢
 cases h4 : (asAddr (tmps.getD a undef)).run P w with
 | halt x w1 => rw [h4] at h1; cases h1
 | ok x w1 =>
  rw [h4] at h1
  simp only [Result.andThen_ok] at h1 ⊢
  rw [h1]
  simp
abbrev aV := @ResV.cell2
theorem ACalls.resetB {f : FuncId} {args : List Value} {Q : Value → Heap → Prop} (p : ACalls P f args h fun v h' => Bdd h.next v ∧ Ext h h' ∧ Q v h) : ACalls P f args h Q :=
 fun φ w cargs s va => (p φ w cargs s va).mono fun e w' hr => by
  cases e with
  | returned c =>
   obtain ⟨v, h', φ', ⟨⟨φ0, c0, hb⟩, hx, q⟩, r1, r2, r3⟩ := hr
   exact ⟨v, h, φ', q, r1.lower hb, s.reset r2 r3.agree hx, r3.reset hx⟩
  | _ => exact hr
theorem Bdd.plain {n : Nat} {v : Value} (h : plainV v = true) : Bdd n v := ⟨fun _ => ⟨0, 0, 0⟩, v, .of_plain h⟩
variable {P : Program} {ρ : Operand → Value} {h : Heap} {K : Value → Heap → Prop} {dst : Option Tmp} {ty : TypeId} {pos : String} {aft : Array Edge} {g : Option (Nat × Bool)}
theorem qab {x : Operand} {f : FuncId} {fi ca : Array Value} {args : Array Operand} {aT : Array TypeId} [fc : FnC P f] {evs : List Value} {v : Value} (hx : ρ x = .func (.func f) fi ca) (he : fi.toList ++ (args.toList.map ρ ++ ca.toList) = evs)
  (c : ACalls P f evs h fun u h' => u = v ∧ h' = h) (kk : K v h) : AOp P ⟨dst, .call ⟨.value x, args, aT⟩, ty, pos, aft, g⟩ ρ h K :=
 qat hx he (c.mono (by rintro u h' ⟨rfl, rfl⟩; exact kk))
theorem ACalls.val {f : FuncId} {args : List Value} {v v' : Value} (e : v = v') (c : ACalls P f args h fun u h' => u = v ∧ h' = h) : ACalls P f args h fun u h' => u = v' ∧ h' = h := e ▸ c
end Go.Eng
