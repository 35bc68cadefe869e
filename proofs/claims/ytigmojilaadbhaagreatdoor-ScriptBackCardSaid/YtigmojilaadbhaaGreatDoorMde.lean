/-
  Texts of one claim, merged: 7 parts.
-/
import Derived.Test.YtigmojilaadbhaaGreatDoorMdd
import Derived.ProofKit
import Derived.Deep.Matrix
import Derived.Deep.Slices
import Derived.ChangeArms
import Derived.ChangeOld
import Derived.OpenShut
import Derived.SizedLaws
import Derived.Carry
set_option maxHeartbeats 16000000
/- . -/
namespace Go.Eng
open Go
variable {P : Program} {ρ : Operand → Value} {h : Heap} {K : Value → Heap → Prop} {dst : Option Tmp} {ty : TypeId} {pos : String} {aft : Array Edge} {g : Option (Nat × Bool)}
def subS (v : Value) (l m : Int) : Value :=
 match v with
 | .slice (some ⟨i, o, s⟩) _ c => .slice (some ⟨i, o + l.toNat * 1, s⟩) (m - l).toNat (c - l.toNat)
 | _ => .slice none 0 0
def ptrS (v : Value) (a : Int) : Value :=
 match v with
 | .slice (some ⟨i, o, _⟩) _ _ => .pointer (some ⟨i, o + a.toNat * 1, none⟩)
 | _ => undef
def RS (h : Heap) (v : Value) (vs : List Value) : Prop :=
 (v = .slice none 0 0 ∧ vs = []) ∨
 ∃ i o s c, v = .slice (some ⟨i, o, s⟩) vs.length c ∧ (s = none ∨ s = some 1) ∧ (vs ≠ [] → ∃ b, h.get i = some b ∧ o + vs.length ≤ b.cells.length ∧ (b.cells.drop o).take vs.length = vs)
def RB (h : Heap) (v : Value) (l : List UInt8) : Prop := RS h v (bv l)
def RBB (h : Heap) (v : Value) (ll : List (List UInt8)) : Prop := ∃ vs, RS h v vs ∧ vs.length = ll.length ∧ ∀ (k : Nat) x l, vs[k]? = some x → ll[k]? = some l → RB h x l
theorem RS.ext {h h' : Heap} {v : Value} {vs : List Value} (r : RS h v vs) (hx : Ext h h') : RS h' v vs := by
 rcases r with r | ⟨i, o, s, c, h1, h2, h3⟩
 ·
  exact .inl r
 ·
  exact .inr ⟨i, o, s, c, h1, h2, fun hv => by obtain ⟨b, h4, h5⟩ := h3 hv; exact ⟨b, hx i b h4, h5⟩⟩
theorem RB.ext {h h' : Heap} {v : Value} {l : List UInt8} (r : RB h v l) (hx : Ext h h') : RB h' v l := RS.ext r hx
theorem RBB.ext {h h' : Heap} {v : Value} {l : List (List UInt8)} (r : RBB h v l) (hx : Ext h h') : RBB h' v l := by
 obtain ⟨vs, h1, h2, h3⟩ := r
 exact ⟨vs, h1.ext hx, h2, fun k x l hk hl => (h3 k x l hk hl).ext hx⟩
theorem RS.slice {v : Value} {vs : List Value} (r : RS h v vs) : ∃ a c, v = .slice a vs.length c := by
 rcases r with ⟨rfl, rfl⟩ | ⟨i, o, s, c, h1, _⟩
 ·
  exact ⟨none, 0, rfl⟩
 ·
  exact ⟨_, c, h1⟩
theorem RS.nil (h : Heap) : RS h (.slice none 0 0) [] := .inl ⟨rfl, rfl⟩
theorem RB.nil (h : Heap) : RB h (.slice none 0 0) [] := .inl ⟨rfl, rfl⟩
theorem RS.of {i o n c : Nat} {s : Option Nat} {b : Blk} {vs : List Value} (hi : h.get i = some b) (hs : s = none ∨ s = some 1) (hn : vs.length = n) (hl : o + n ≤ b.cells.length) (hv : (b.cells.drop o).take n = vs) : RS h (.slice (some ⟨i, o, s⟩) n c) vs := by
 subst hn
 exact .inr ⟨i, o, s, c, rfl, hs, fun _ => ⟨b, hi, hl, hv⟩⟩
theorem RS.own {i n c : Nat} {e : TypeId} {w : Bool} {vs : List Value} (hi : h.get i = some ⟨vs, e, w⟩) (hn : vs.length = n) : RS h (.slice (some ⟨i, 0, some 1⟩) n c) vs := by
 subst hn
 exact .inr ⟨i, 0, some 1, c, rfl, .inr rfl, fun _ => ⟨_, hi, by simp, by simp⟩⟩
theorem RS.src {v : Value} {vs : List Value} (r : RS h v vs) : Src h 1 v vs.length vs := by
 rcases r with ⟨rfl, rfl⟩ | ⟨i, o, s, c, rfl, hs, hb⟩
 ·
  exact .nil
 ·
  by_cases hv : vs = []
  ·
   subst hv; exact .empty _ _
  ·
   obtain ⟨b, h1, h2, h3⟩ := hb hv
   have := Src.slice (h := h) (sz := 1) i o s vs.length c b h1 (by omega)
   rw [Nat.mul_one, h3] at this
   exact this
theorem RB.src {v : Value} {l : List UInt8} (r : RB h v l) : Src h 1 v l.length (bv l) := by
 have := RS.src r
 rwa [qaH] at this
theorem qaE {x : Operand} {t e : TypeId} {v : Value} {vs : List Value} [td : TyD P t (.slice e)] (r : RS h v vs) (hx : ρ x = v) (kk : K (.int .i64 vs.length) h) :
  AOp P ⟨dst, .call ⟨.builtin .len, #[x], #[t]⟩, ty, pos, aft, g⟩ ρ h K := by
 obtain ⟨a, c, e⟩ := r.slice
 exact qb2 (hx.trans e) kk
theorem qaZ {x : Operand} {t e : TypeId} {v : Value} {l : List UInt8} [td : TyD P t (.slice e)] (r : RB h v l) (hx : ρ x = v) (kk : K (.int .i64 l.length) h) :
  AOp P ⟨dst, .call ⟨.builtin .len, #[x], #[t]⟩, ty, pos, aft, g⟩ ρ h K := qaE r hx (by rw [qaH]; exact kk)
def PT (h : Heap) (p v : Value) : Prop := ∃ i o s b, p = .pointer (some ⟨i, o, s⟩) ∧ h.get i = some b ∧ b.cells[o]? = some v
theorem qa2 {t e : TypeId} {x y : Operand} {by_ : Nat} {z v u : Value} {k : IntKind} {a : Int} {vs : List Value} [td : TyD P t (.slice e)] [ti : TyI P e 1 by_ z] (r : RS h v vs) (hx : ρ x = v) (hy : ρ y = .int k a) (h0 : 0 ≤ a)
  (hu : vs[a.toNat]? = some u) (kk : PT h (ptrS v a) u → K (ptrS v a) h) : AOp P ⟨dst, .indexAddr t x y, ty, pos, aft, g⟩ ρ h K := by
 have hl := (List.getElem?_eq_some_iff.1 hu).1
 rcases r with ⟨rfl, rfl⟩ | ⟨i, o, s, c, rfl, hs, hb⟩
 ·
  simp at hl
 ·
  obtain ⟨b, h1, h2, h3⟩ := hb (by intro e; subst e; simp at hl)
  refine qdW hx hy h0 (by omega) (kk ⟨i, o + a.toNat * 1, none, b, rfl, h1, ?_⟩)
  rw [Nat.mul_one]
  have : ((b.cells.drop o).take vs.length)[a.toNat]? = some u := by rw [h3]; exact hu
  rw [List.getElem?_take_of_lt hl, List.getElem?_drop] at this
  exact this
theorem qa7 {t e : TypeId} {x y : Operand} {by_ : Nat} {z v u : Value} {k : IntKind} {a : Int} {vs : List Value} [td : TyD P t (.slice e)] [ti : TyI P e 1 by_ z] (r : RS h v vs) (hx : ρ x = v) (hy : ρ y = .int k a) (h0 : 0 ≤ a)
  (hu : vs[a.toNat]? = some u) (kk : ∀ p, PT h p u → K p h) : AOp P ⟨dst, .indexAddr t x y, ty, pos, aft, g⟩ ρ h K := qa2 r hx hy h0 hu (kk _)
theorem PT.of {v u : Value} {vs : List Value} {a : Int} (r : RS h v vs) (hu : vs[a.toNat]? = some u) : PT h (ptrS v a) u := by
 have hl := (List.getElem?_eq_some_iff.1 hu).1
 rcases r with ⟨rfl, rfl⟩ | ⟨i, o, s, c, rfl, hs, hb⟩
 ·
  simp at hl
 ·
  obtain ⟨b, h1, h2, h3⟩ := hb (by intro e; subst e; simp at hl)
  refine ⟨i, o + a.toNat * 1, none, b, rfl, h1, ?_⟩
  rw [Nat.mul_one]
  have : ((b.cells.drop o).take vs.length)[a.toNat]? = some u := by rw [h3]; exact hu
  rw [List.getElem?_take_of_lt hl, List.getElem?_drop] at this
  exact this
theorem qaB {t : TypeId} {x : Operand} {p v : Value} {d : TypeDesc} [td : TyD P t d] (r : PT h p v) (hx : ρ x = p) (ha : aggB d = false) (kk : K v h) : AOp P ⟨dst, .load t x, ty, pos, aft, g⟩ ρ h K := by
 obtain ⟨i, o, s, b, rfl, h1, h2⟩ := r
 exact qae hx ha h1 h2 kk
theorem qam {sT dT e : TypeId} {x : Operand} {v : Value} {l : List UInt8} [ts : TyD P sT (.slice e)] [te : TyD P e (.int .u8)] [td : TyD P dT .string] (r : RB h v l) (hx : ρ x = v) (kk : K (.string (bstr l)) h) : AOp P ⟨dst, .convert sT dT x, ty, pos, aft, g⟩ ρ h K := by
 rcases r with ⟨rfl, hl⟩ | ⟨i, o, s, c, rfl, hs, hb⟩
 ·
  have : l = [] := by cases l with | nil => rfl | cons _ _ => simp [bv] at hl
  subst this
  exact op_nilStr hx kk
 ·
  rw [qaH] at hx hb
  by_cases hv : l = []
  ·
   subst hv
   refine .of_pure kk fun φ ac w r => ?_
   obtain ⟨cap', a', e1, _⟩ := (hx ▸ r.ev x (by simp [Op.operands])).slice_inv
   refine ⟨.string (bstr []), ?_, .string _⟩
   have hr := run_convert_bytes_back (P := P) w sT dT e a' cap' [] ts.eq te.eq td.eq (by intro j hj; simp at hj)
   simp only [List.length_nil] at hr e1
   simp [execOp, e1, hr, bstr]
  ·
   obtain ⟨b, h1, h2, h3⟩ := hb (by cases l with | nil => exact absurd rfl hv | cons _ _ => simp [bv])
   exact qhf hx h1 h2 h3 kk
theorem RS.one {v : Value} {vs : List Value} (r : RS h v vs) : oneB v = true ∧ v ≠ undef := by
 obtain ⟨a, c, e⟩ := r.slice
 subst e
 exact ⟨rfl, fun h => by cases h⟩
theorem fillRow {n : Nat} : ∀ (vs : List Value) (k : Nat) (cells : List Value), (∀ v ∈ vs, oneB v = true) → k + vs.length ≤ cells.length → n = cells.length →
  fillA (fun i => some (i * 1, 1)) cells ((List.range' k vs.length).zip vs) = some (splice cells k vs)
 | [], k, cells, _, _, _ => by simp [fillA, splice]
 | v :: vs, k, cells, h1, h2, h3 => by
  have hc : v.cells = #[v] := by
   have := h1 v (by simp)
   cases v <;> first | rfl | (simp [oneB] at this)
  simp only [List.length_cons] at h2
  simp only [List.length_cons, List.range'_succ, List.zip_cons_cons, fillA, hc, Nat.mul_one]
  have hne : ¬ ((decide ((#[v] : Array Value).size ≠ 1) || decide (k + (#[v] : Array Value).size > cells.length)) = true) := by
   simp only [List.size_toArray, List.length_cons, List.length_nil]
   simp
   omega
  rw [if_neg hne]
  have ih := fillRow vs (k + 1) (splice cells k [v]) (fun u hu => h1 u (by simp [hu])) (by rw [qa8 (by simp; omega)]; omega) (h3.trans (qa8 (by simp; omega)).symm)
  simp only [Nat.mul_one] at ih
  rw [ih]
  congr 1
  apply List.ext_getElem?
  intro j
  rw [qbk _ _ _ (by rw [qa8 (by simp; omega)]; omega), qbk _ _ _ (by simp; omega), qbk _ _ _ (by simp only [List.length_cons]; omega)]
  by_cases e1 : j = k
  ·
   subst e1
   rw [if_neg (by omega), if_pos (by simp), if_pos (by simp)]
   simp
  ·
   by_cases e2 : k + 1 ≤ j ∧ j < k + 1 + vs.length
   ·
    rw [if_pos e2, if_pos (by simp; omega)]
    rw [show j - k = (j - (k + 1)) + 1 from by omega]
    simp
   ·
    rw [if_neg e2, if_neg (by simp; omega), if_neg (by simp; omega)]
theorem qe9 (cells vs : List Value) (hl : vs.length = cells.length) : splice cells 0 vs = vs := by
 simp [splice, hl]
theorem qa0 {t e by_ : Nat} {z : Value} {len : Nat} {parts : Array (Nat × Operand)} (vs : List Value) [td : TyD P t (.slice e)] [ti : TyI P e 1 by_ z] (hz : oneB z = true) (hl : Nat.ble len 16777216 = true) (hp : parts.toList.map (fun p => (p.1, ρ p.2)) = (List.range' 0 vs.length).zip vs) (hlen : vs.length = len)
  (h1 : ∀ v ∈ vs, oneB v = true) (kk : K (.slice (some ⟨h.next, 0, some 1⟩) len len) (h.alloc ⟨vs, e, true⟩)) : AOp P ⟨dst, .buildSlice t len parts, ty, pos, aft, g⟩ ρ h K := by
 refine qfm (out := vs) hz (Nat.le_of_ble_eq_true hl) ?_ ?_ hlen kk
 ·
  intro p hpm hu
  have hm : (p.1, ρ p.2) ∈ parts.toList.map (fun p => (p.1, ρ p.2)) := List.mem_map.2 ⟨p, hpm, rfl⟩
  rw [hp] at hm
  have hv := (List.of_mem_zip hm).2
  rw [hu] at hv
  have := h1 _ hv
  cases this
 ·
  rw [hp]
  have hrow := fillRow (n := len) vs 0 (List.replicate len z) h1 (by simp; omega) (by simp)
  rw [hrow, qe9 _ _ (by simp; omega)]
theorem qet {t e : TypeId} {x : Operand} {i o n c : Nat} {s : Option Nat} {b : Blk} [td : TyD P t (.slice e)] [te : TyD P e (.int .u8)] (hx : ρ x = .slice (some ⟨i, o, s⟩) n c) (hn : Nat.blt 0 n = true) (hi : h.get i = some b) (ho : b.own = true) (kk : K (.slice (some ⟨i, o, s⟩) n c) h) (hbe : b.elem = e := by rfl) :
  AOp P ⟨dst, .convert t t x, ty, pos, aft, g⟩ ρ h K :=
 .of_run fun φ ac w r => by
  have hv := hx ▸ r.ev x (by simp [Op.operands])
  obtain ⟨cap', a', e1, hlt, q1, q2, q3, q4, q5, q6⟩ := hv.slice_inv
  have hn0 : 0 < n := by simpa [Nat.blt_eq] using hn
  obtain rfl := q4.resolve_right (by omega)
  obtain ⟨arr, fr, a1, a2, a3, a4, a5⟩ := r.sim.owned hi ho
  have hsh : w.shape? (φ i).b = some (b.elem, arr.size) := by simp [World.shape?, a1]
  have hrun : (execOp ac.eval ⟨dst, .convert t t x, ty, pos, aft, g⟩).run P w = .ok (.value (ac.eval x)) (w.freeze ⟨(φ i).b, arr.size, none⟩ 1) := by
   have hm : (markStringish ⟨(φ i).b, (φ i).o + o, none⟩).run P w = .ok () (w.freeze ⟨(φ i).b, arr.size, none⟩ 1) := by
    simp [markStringish, hsh]
   simp [execOp, e1, convert, td.run, te.run, hm]
  have hheap : ∀ k : Nat, (w.freeze ⟨(φ i).b, arr.size, none⟩ 1).heap[k]? = if k = (φ i).b then some (.cells arr b.elem (if fr.1 == fr.2 then (arr.size, arr.size + 1) else (min fr.1 arr.size, max fr.2 (arr.size + 1)))) else w.heap[k]? := by
   intro k
   simp only [World.freeze, Nat.one_ne_zero, if_false, Array.getElem?_modify]
   by_cases hk : k = (φ i).b
   ·
    subst hk
    rw [if_pos rfl, if_pos rfl, a1]
    obtain ⟨lo, hi'⟩ := fr
    rfl
   ·
    rw [if_neg (fun e => hk e.symm), if_neg hk]
  obtain ⟨s1, s2⟩ := r.sim.write hi ho a1 (w' := w.freeze ⟨(φ i).b, arr.size, none⟩ 1) (arr' := arr) rfl (by
   split
   ·
    exact .inr ⟨Nat.le_refl _, by rw [hbe]; exact te.eq⟩
   ·
    rename_i hne
    have hne' : fr.1 ≠ fr.2 := by simpa using hne
    rcases a3 with a3 | a3
    ·
     exact absurd a3 hne'
    ·
     right
     have a3 := a3.1
     exact ⟨by show arr.size ≤ min fr.1 arr.size; omega, by rw [hbe]; exact te.eq⟩) hheap (by simp [World.freeze]) (by simp [World.freeze]) (by simp [World.freeze]) b.cells a4 a5
  have hb : h.set i ⟨b.cells, b.elem, true⟩ = h := by
   have : (⟨b.cells, b.elem, true⟩ : Blk) = b := by cases b; simp_all
   rw [this]
   cases h with
   | mk gt nx ob =>
    simp only [Heap.set, Heap.mk.injEq, and_true]
    funext j
    by_cases hj : j = i
    ·
     subst hj; simp only [if_true]; exact hi.symm
    ·
     simp [hj]
  rw [hb] at s1 s2
  exact ⟨_, _, φ, h, _, hrun, kk, hv, s1, s2⟩
def RBs (h : Heap) : List Value → List (List UInt8) → Prop
 | [], [] => True
 | v :: vs, l :: ll => RB h v l ∧ RBs h vs ll
 | _, _ => False
theorem RBs.at {h : Heap} : ∀ {vs : List Value} {ll : List (List UInt8)}, RBs h vs ll → vs.length = ll.length ∧ ∀ (k : Nat) x l, vs[k]? = some x → ll[k]? = some l → RB h x l
 | [], [], _ => ⟨rfl, fun k x l hk => by simp at hk⟩
 | v :: vs, l :: ll, ⟨h1, h2⟩ => by
  obtain ⟨e, h3⟩ := RBs.at h2
  refine ⟨by simp [e], fun k x l' hk hl => ?_⟩
  cases k with
  | zero => simp at hk hl; subst hk hl; exact h1
  | succ k => exact h3 k x l' (by simpa using hk) (by simpa using hl)
 | [], _ :: _, h => h.elim
 | _ :: _, [], h => h.elim
theorem qeh (l : List UInt8) : ∀ v ∈ bv l, oneB v = true := List.all_eq_true.1 (qdS l)
structure RoB where
 cells : List Value
 at_ : Addr
def roHeap (G : Nat) (bs : List RoB) : Heap := ⟨fun i => if i < G then none else (bs[i - G]?).bind fun b => if b.cells.isEmpty then none else some ⟨b.cells, 0, false⟩, G + bs.length, fun _ => none⟩
def roRen (G : Nat) (bs : List RoB) : Ren := fun i => if i < G then ⟨i, 0, 0⟩ else match bs[i - G]? with
 | some b => ⟨b.at_.block, b.at_.off, 0⟩
 | none => ⟨0, 0, 0⟩
def roOk (G : Nat) (bs : List RoB) (W : World) : Prop := ∀ b ∈ bs, b.at_.spot = none ∧ ∀ (k : Nat) v, b.cells[k]? = some v → ∃ c, W.cell? (b.at_.add k) = some c ∧ VRel (roRen G bs) (G + bs.length) v c
theorem roSim {bs : List RoB} {W : World} (hok : roOk P.globals.size bs W) : Sim P (roRen P.globals.size bs) (roHeap P.globals.size bs) W := by
 have key : ∀ i b, (roHeap P.globals.size bs).get i = some b → ∃ rb, P.globals.size ≤ i ∧ bs[i - P.globals.size]? = some rb ∧ b = ⟨rb.cells, 0, false⟩ ∧ rb.cells ≠ [] := by
  intro i b hb
  have : (if i < P.globals.size then none else (bs[i - P.globals.size]?).bind fun b => if b.cells.isEmpty then none else some (⟨b.cells, 0, false⟩ : Blk)) = some b := hb
  split at this
  ·
   cases this
  ·
   cases hq : bs[i - P.globals.size]? with
   | none => rw [hq] at this; cases this
   | some rb =>
    rw [hq] at this
    simp only [Option.bind_some] at this
    split at this
    ·
     cases this
    ·
     rename_i hne
     cases this
     exact ⟨rb, by omega, rfl, rfl, by simpa using hne⟩
 have hren : ∀ i rb, P.globals.size ≤ i → bs[i - P.globals.size]? = some rb → roRen P.globals.size bs i = ⟨rb.at_.block, rb.at_.off, 0⟩ := by
  intro i rb hi hq
  simp only [roRen]
  rw [if_neg (by omega), hq]
 have hcell : ∀ (rb : RoB), rb ∈ bs → ∀ (k : Nat) v, rb.cells[k]? = some v → ∃ c, W.cell? ⟨rb.at_.block, rb.at_.off + k, none⟩ = some c ∧ VRel (roRen P.globals.size bs) (P.globals.size + bs.length) v c := by
  intro rb hm k v hk
  obtain ⟨h1, h2⟩ := hok rb hm
  obtain ⟨c, h3, h4⟩ := h2 k v hk
  refine ⟨c, ?_, h4⟩
  obtain ⟨⟨bl, of_, sp⟩⟩ : ∃ a, a = rb.at_ := ⟨_, rfl⟩
  rw [show (⟨rb.at_.block, rb.at_.off + k, none⟩ : Addr) = rb.at_.add k from by
   cases ha : rb.at_ with
   | mk bl of_ sp =>
    rw [ha] at h1
    simp only at h1
    subst h1
    rw [Addr.add_lit]]
  exact h3
 refine ⟨⟨?_, fun _ _ => rfl⟩, ?_, ?_, ?_, ?_, (fun i o hi => by cases hi), (fun i j o hi => by cases hi)⟩
 ·
  intro i hi
  have h1 : P.globals.size + bs.length ≤ i := hi
  show (if i < P.globals.size then none else _) = none
  rw [if_neg (by omega), List.getElem?_eq_none (by omega)]
  rfl
 ·
  intro i b hb
  obtain ⟨rb, h1, h2, rfl, h4⟩ := key i b hb
  simp only [BRel, Bool.false_eq_true, if_false]
  refine ⟨.inl rfl, fun k v hk => ?_⟩
  rw [hren i rb h1 h2]
  exact hcell rb (List.mem_of_getElem? h2) k v hk
 ·
  intro i b hb
  obtain ⟨rb, h1, h2, rfl, h4⟩ := key i b hb
  rw [hren i rb h1 h2]
  obtain ⟨c, hc, _⟩ := hcell rb (List.mem_of_getElem? h2) 0 _ (List.getElem?_eq_getElem (by
   rcases Nat.eq_zero_or_pos rb.cells.length with h5 | h5
   ·
    exact absurd (List.eq_nil_of_length_eq_zero h5) h4
   ·
    exact h5))
  have := World.block_lt_of_cell? W _ hc
  exact this
 ·
  intro i j b hb ho
  obtain ⟨rb, h1, h2, rfl, h4⟩ := key i b hb
  cases ho
 ·
  intro gl hg
  refine ⟨?_, ?_⟩
  ·
   simp [roRen, hg]
  ·
   show gl < P.globals.size + bs.length
   omega
def IsRow (k : IntKind) (w : World) (a : Option Addr) (len cap : Nat) (zs : List Int) : Prop :=
 (a = none ∧ len = 0 ∧ cap = 0 ∧ zs = []) ∨
 ∃ x, a = some x ∧ len ≤ cap ∧ cap ≤ maxLen ∧ zs.length = cap ∧ (∀ i, i < zs.length → w.cell? (x.add i) = some (.int k (zs.getD i 0))) ∧ ∀ n ∈ zs, (Lit.int k n).wf = true
def atOf (a : Option Addr) (cap : Nat) : Addr := if cap = 0 then ⟨0, 0, none⟩ else a.getD ⟨0, 0, none⟩
def absS (a : Option Addr) (i len cap : Nat) : Value :=
 match a with
 | none => .slice none 0 0
 | some _ => .slice (some ⟨i, 0, none⟩) len (if cap = len then len else len + 1)
def toB (zs : List Int) : List UInt8 := zs.map fun z => UInt8.ofNat z.toNat
def iv (k : IntKind) (zs : List Int) : List Value := zs.map fun z => .int k z
section
variable {k : IntKind} {W : World} {a : Option Addr} {len cap : Nat} {zs : List Int} {G : Nat} {bs : List RoB} {j : Nat}
end
def IsRows (k : IntKind) (W : World) (a : Option Addr) (len cap : Nat) (A : Nat → Option Addr) (L C : Nat → Nat) (Z : Nat → List Int) : Prop :=
 (a = none ∧ len = 0 ∧ cap = 0) ∨
 ∃ x, a = some x ∧ len ≤ cap ∧ cap ≤ maxLen ∧ ∀ r, r < cap → W.cell? (x.add r) = some (.slice (A r) (L r) (C r)) ∧ IsRow k W (A r) (L r) (C r) (Z r)
section
variable {k : IntKind} {W : World} {a : Option Addr} {len cap : Nat} {A : Nat → Option Addr} {L C : Nat → Nat} {Z : Nat → List Int} {G : Nat} {bs : List RoB} {j0 j1 : Nat}
def outer (G j1 : Nat) (len : Nat) (A : Nat → Option Addr) (L C : Nat → Nat) : List Value := (List.range len).map fun r => absS (A r) (G + (j1 + r)) (L r) (C r)
def inner (k : IntKind) (len : Nat) (A : Nat → Option Addr) (L C : Nat → Nat) (Z : Nat → List Int) : List RoB := (List.range len).map fun r => ⟨iv k ((Z r).take (L r)), atOf (A r) (C r)⟩
theorem spot_of {x : Addr} {v : Value} (h0 : W.cell? (x.add 0) = some v) : x.spot = none := by
 have : x.add 0 = x := by simp [Addr.add]
 rw [this] at h0
 cases hs : x.spot with
 | none => rfl
 | some s =>
  exfalso
  unfold World.cell? at h0
  split at h0
  ·
   simp [hs] at h0
  ·
   cases h0
end
theorem qid {α : Type} {c : Nat} (hc : 0 < c) : ∀ {L : List (List α)}, (∀ l ∈ L, l.length = c) → ∀ m : Nat, L.flatten[m]? = (L[m / c]?).bind (·[m % c]?)
 | [], _, m => by simp
 | l :: L, h, m => by
  have hl := h l (by simp)
  rw [List.flatten_cons]
  by_cases hm : m < c
  ·
   rw [List.getElem?_append_left (by omega), Nat.div_eq_of_lt hm, Nat.mod_eq_of_lt hm]
   rfl
  ·
   rw [List.getElem?_append_right (by omega), hl, qid hc (fun x hx => h x (List.mem_cons_of_mem _ hx)) (m - c)]
   have h1 : m / c = (m - c) / c + 1 := by rw [Nat.div_eq m c, if_pos ⟨hc, by omega⟩]
   have h2 : m % c = (m - c) % c := by rw [Nat.mod_eq m c, if_pos ⟨hc, by omega⟩]
   rw [h1, h2, List.getElem?_cons_succ]
theorem qcw {α : Type} {c : Nat} : ∀ {L : List (List α)}, (∀ l ∈ L, l.length = c) → L.flatten.length = L.length * c
 | [], _ => by simp
 | l :: L, h => by
  rw [List.flatten_cons, List.length_append, h l (by simp), qcw (fun x hx => h x (List.mem_cons_of_mem _ hx)), List.length_cons, Nat.add_mul]
  omega
theorem qcz {α : Type} {c : Nat} : ∀ {L : List (List α)}, (∀ l ∈ L, l.length = c) → ∀ {k : Nat} {l : List α}, L[k]? = some l → (L.flatten.drop (k * c)).take c = l
 | [], _, k, l, hk => by simp at hk
 | x :: L, h, 0, l, hk => by
  simp only [List.getElem?_cons_zero, Option.some.injEq] at hk
  subst hk
  have := h x (by simp)
  rw [Nat.zero_mul, List.drop_zero, List.flatten_cons, List.take_append_of_le_length (by omega), List.take_of_length_le (by omega)]
 | x :: L, h, k + 1, l, hk => by
  have hx := h x (by simp)
  rw [List.getElem?_cons_succ] at hk
  have := qcz (fun y hy => h y (List.mem_cons_of_mem _ hy)) hk
  rw [List.flatten_cons, show (k + 1) * c = x.length + k * c by rw [Nat.add_mul]; omega, List.drop_length_add_append]
  exact this
theorem qeS {α : Type} : ∀ {L : List (List α)} {k : Nat} {l : List α}, L[k]? = some l → (L.flatten.drop ((L.take k).map List.length).sum).take l.length = l
 | [], k, l, hk => by simp at hk
 | x :: L, 0, l, hk => by
  simp only [List.getElem?_cons_zero, Option.some.injEq] at hk
  subst hk
  simp
 | x :: L, k + 1, l, hk => by
  rw [List.getElem?_cons_succ] at hk
  have := qeS hk
  rw [List.flatten_cons, List.take_succ_cons, List.map_cons, List.sum_cons, List.drop_length_add_append]
  exact this
theorem qcH {α : Type} {c : Nat} : ∀ {m : Nat} {l : List α}, l.length = m * c → ((List.range m).map fun k => (l.drop (k * c)).take c).flatten = l
 | 0, l, h => by
  have : l = [] := List.eq_nil_of_length_eq_zero (by simpa using h)
  simp [this]
 | m + 1, l, h => by
  have hm : (m + 1) * c = m * c + c := by rw [Nat.add_mul]; omega
  rw [List.range_succ, List.map_append, List.flatten_append]
  have h1 : ((List.range m).map fun k => (l.drop (k * c)).take c) = (List.range m).map fun k => ((l.take (m * c)).drop (k * c)).take c := by
   refine List.map_congr_left fun k hk => ?_
   have hk := List.mem_range.1 hk
   have h2 : (k + 1) * c ≤ m * c := Nat.mul_le_mul_right _ (by omega)
   have h3 : (k + 1) * c = k * c + c := by rw [Nat.add_mul]; omega
   rw [List.drop_take, List.take_take, Nat.min_eq_left (by omega)]
  rw [h1, qcH (l := l.take (m * c)) (by rw [List.length_take]; omega)]
  simp only [List.map_cons, List.map_nil, List.flatten_cons, List.flatten_nil, List.append_nil]
  rw [List.take_of_length_le (l := l.drop (m * c)) (by rw [List.length_drop]; omega), List.take_append_drop]
section
variable {P : Program}
def laysF (P : Program) : List Field → Nat → Option Nat
 | [], o => some o
 | f :: r, o => if f.offset = o then laysF P r (o + P.cellsOf f.type) else none
def plainT (P : Program) : Nat → TypeId → Bool
 | 0, _ => false
 | n + 1, t => match P.underlying t with
  | some .bool | some (.int _) | some .string => P.cellsOf t == 1
  | some (.slice e) => P.cellsOf t == 1 && Nat.blt 0 (P.cellsOf e) && plainT P n e
  | some (.struct fs) => laysF P fs.toList 0 == some (P.cellsOf t) && fs.toList.all fun f => plainT P n f.type
  | some (.array m e) => P.cellsOf t == m * P.cellsOf e && plainT P n e
  | _ => false
def Rd (P : Program) (h : Heap) : Nat → TypeId → List Value → Prop
 | 0, _, _ => False
 | n + 1, t, cs => match P.underlying t with
  | some .bool => ∃ b, cs = [.bool b]
  | some (.int k) => ∃ a, cs = [.int k a] ∧ (Lit.int k a).wf = true
  | some .string => ∃ s, cs = [.string (bstr s)] ∧ s.length ≤ reachBytes
  | some (.slice e) => cs = [.slice none 0 0] ∨ ∃ i len cap cells, cs = [.slice (some ⟨i, 0, none⟩) len cap] ∧ len * P.bytesOf e ≤ reachBytes ∧ cells.length = len * P.cellsOf e ∧ (cells ≠ [] → h.get i = some ⟨cells, 0, false⟩) ∧
    ∀ k, k < len → Rd P h n e ((cells.drop (k * P.cellsOf e)).take (P.cellsOf e))
  | some (.struct fs) => cs.length = P.cellsOf t ∧ ∀ f ∈ fs.toList, Rd P h n f.type ((cs.drop f.offset).take (P.cellsOf f.type))
  | some (.array m e) => cs.length = P.cellsOf t ∧ ∀ k, k < m → Rd P h n e ((cs.drop (k * P.cellsOf e)).take (P.cellsOf e))
  | _ => False
theorem Rd.ext {h h' : Heap} (hx : Ext h h') : ∀ {n : Nat} {t : TypeId} {cs : List Value}, Rd P h n t cs → Rd P h' n t cs
 | 0, _, _, r => r.elim
 | n + 1, t, cs, r => by
  unfold Rd at r ⊢
  split <;> simp_all only
  ·
   rcases r with r | ⟨i, len, cap, cells, h1, h2, h3, h4, h5⟩
   ·
    exact .inl r
   ·
    exact .inr ⟨i, len, cap, cells, h1, h2, h3, fun hne => hx.c _ _ (h4 hne), fun k hk => (h5 k hk).ext hx⟩
  ·
   exact ⟨trivial, fun f hf => (r.2 f hf).ext hx⟩
  ·
   exact ⟨trivial, fun k hk => (r.2 k hk).ext hx⟩
theorem qcV {G : Nat} {bs bs' : List RoB} : ∀ i, i < G + bs.length → roRen G (bs ++ bs') i = roRen G bs i := by
 intro i hi
 unfold roRen
 split
 ·
  rfl
 ·
  rw [List.getElem?_append_left (by omega)]
theorem qdn {G : Nat} {bs bs' : List RoB} : Ext (roHeap G bs) (roHeap G (bs ++ bs')) := by
 refine ⟨fun i b hi => ?_, fun i o hi => hi⟩
 unfold roHeap at hi ⊢
 simp only at hi ⊢
 split at hi
 ·
  cases hi
 ·
  rename_i hg
  rw [if_neg hg]
  cases hq : bs[i - G]? with
  | none => rw [hq] at hi; cases hi
  | some rb =>
   rw [hq] at hi
   have := (List.getElem?_eq_some_iff.1 hq).1
   rw [List.getElem?_append_left this, hq]
   exact hi
theorem roVRels {G : Nat} {bs bs' : List RoB} {xs cs : List Value} (r : VRels (roRen G bs) (G + bs.length) xs cs) : VRels (roRen G (bs ++ bs')) (G + (bs ++ bs').length) xs cs :=
 r.mono qcV (by simp)
def RoAll (G : Nat) (bs bs' : List RoB) (W : World) : Prop := ∀ b ∈ bs', b.at_.spot = none ∧ ∀ (k : Nat) v, b.cells[k]? = some v → ∃ c, W.cell? (b.at_.add k) = some c ∧ VRel (roRen G bs) (G + bs.length) v c
theorem RoAll.app {G : Nat} {bs b1 b2 : List RoB} {W : World} (r : RoAll G bs b1 W) : RoAll G (bs ++ b2) b1 W := by
 intro b hb
 obtain ⟨h1, h2⟩ := r b hb
 refine ⟨h1, fun k v hk => ?_⟩
 obtain ⟨c, q1, q2⟩ := h2 k v hk
 exact ⟨c, q1, q2.mono qcV (by simp)⟩
theorem RoAll.two {G : Nat} {bs b1 b2 : List RoB} {W : World} (r1 : RoAll G bs b1 W) (r2 : RoAll G bs b2 W) : RoAll G bs (b1 ++ b2) W := by
 intro b hb
 rcases List.mem_append.1 hb with h | h
 ·
  exact r1 b h
 ·
  exact r2 b h
def Opens (P : Program) (G : Nat) (W : World) (n : Nat) (t : TypeId) (cs : List Value) : Prop :=
 ∀ bs : List RoB, ∃ (bs' : List RoB) (avs : List Value), RoAll G (bs ++ bs') bs' W ∧ VRels (roRen G (bs ++ bs')) (G + (bs ++ bs').length) avs cs ∧ Rd P (roHeap G (bs ++ bs')) n t avs
theorem qcy {G n : Nat} {W : World} : ∀ (items : List (TypeId × List Value)), (∀ x ∈ items, Opens P G W n x.1 x.2) → ∀ bs : List RoB, ∃ (bs' : List RoB) (avs : List (List Value)), RoAll G (bs ++ bs') bs' W ∧ avs.length = items.length ∧
  ∀ (k : Nat) x a, items[k]? = some x → avs[k]? = some a → VRels (roRen G (bs ++ bs')) (G + (bs ++ bs').length) a x.2 ∧ Rd P (roHeap G (bs ++ bs')) n x.1 a
 | [], _, bs => ⟨[], [], (fun b hb => by cases hb), rfl, fun k x a hx => by simp at hx⟩
 | y :: items, h, bs => by
  obtain ⟨b1, a1, r1, v1, d1⟩ := h y (by simp) bs
  obtain ⟨b2, a2, r2, l2, q2⟩ := qcy items (fun x hx => h x (List.mem_cons_of_mem _ hx)) (bs ++ b1)
  refine ⟨b1 ++ b2, a1 :: a2, ?_, by simp [l2], fun k x a hx ha => ?_⟩
  ·
   rw [← List.append_assoc]
   exact r1.app.two r2
  ·
   rw [← List.append_assoc]
   cases k with
   | zero =>
    simp only [List.getElem?_cons_zero, Option.some.injEq] at hx ha
    subst hx ha
    exact ⟨roVRels v1, d1.ext qdn⟩
   | succ k =>
    simp only [List.getElem?_cons_succ] at hx ha
    exact q2 k x a hx ha
theorem VRels.flat {φ : Ren} {n : Nat} : ∀ {avs cs : List (List Value)}, avs.length = cs.length → (∀ (k : Nat) a c, avs[k]? = some a → cs[k]? = some c → VRels φ n a c) → VRels φ n avs.flatten cs.flatten
 | [], [], _, _ => .nil
 | a :: avs, c :: cs, hl, h => by
  rw [List.flatten_cons, List.flatten_cons]
  exact (h 0 a c rfl rfl).append (VRels.flat (by simpa using hl) fun k x y hx hy => h (k + 1) x y hx hy)
 | [], c :: cs, hl, _ => by simp at hl
 | a :: avs, [], hl, _ => by simp at hl
theorem qfa {cs : List Value} : ∀ {fs : List Field} {o T : Nat}, laysF P fs o = some T → T ≤ cs.length → (fs.map fun f => (cs.drop f.offset).take (P.cellsOf f.type)).flatten = (cs.drop o).take (T - o) ∧ o ≤ T
 | [], o, T, h, _ => by
  simp only [laysF, Option.some.injEq] at h
  subst h
  simp
 | f :: fs, o, T, h, hT => by
  unfold laysF at h
  split at h
  ·
   rename_i ho
   obtain ⟨e, hle⟩ := qfa (cs := cs) h hT
   refine ⟨?_, by omega⟩
   rw [List.map_cons, List.flatten_cons, e, ho, ← List.drop_drop, show T - o = P.cellsOf f.type + (T - (o + P.cellsOf f.type)) by omega, List.take_add]
  ·
   cases h
theorem qgy : ∀ {fs : List Field} {o T : Nat}, laysF P fs o = some T → ∀ (k : Nat) f, fs[k]? = some f → f.offset = o + ((fs.take k).map fun f => P.cellsOf f.type).sum
 | [], o, T, h, k, f, hk => by simp at hk
 | g :: fs, o, T, h, k, f, hk => by
  unfold laysF at h
  split at h
  ·
   rename_i ho
   cases k with
   | zero =>
    simp only [List.getElem?_cons_zero, Option.some.injEq] at hk
    subst hk
    simpa using ho
   | succ k =>
    rw [List.getElem?_cons_succ] at hk
    have := qgy h k f hk
    rw [this, List.take_succ_cons, List.map_cons, List.sum_cons]
    omega
  ·
   cases h
theorem qf9 : ∀ {fs : List Field} {o T : Nat}, laysF P fs o = some T → T = o + (fs.map fun f => P.cellsOf f.type).sum
 | [], o, T, h => by simp only [laysF, Option.some.injEq] at h; simp [h]
 | g :: fs, o, T, h => by
  unfold laysF at h
  split at h
  ·
   have := qf9 h
   rw [this, List.map_cons, List.sum_cons]
   omega
  ·
   cases h
theorem qb7 {H : Type} {e : TypeId} : ∀ {l : List (DataW H)} {d : DataW H}, d ∈ l → ∀ n ∈ d.weights P e, n ∈ DataW.weightsAll P e l
 | d' :: r, d, hd, n, hn => by
  simp only [DataW.weightsAll, List.mem_append]
  rcases List.mem_cons.1 hd with rfl | h
  ·
   exact .inl hn
  ·
   exact .inr (qb7 h n hn)
theorem qdk {n : Nat} {t : TypeId} (hp : plainT P n t = true) {h : Heap} {cs : List Value} (r : Rd P h n t cs) : cs.length = P.cellsOf t := by
 cases n with
 | zero => exact r.elim
 | succ n =>
  unfold Rd at r
  unfold plainT at hp
  split at r
  ·
   rename_i hu; rw [hu] at hp; obtain ⟨b, rfl⟩ := r; simpa using (beq_iff_eq.1 hp).symm
  ·
   rename_i hu; rw [hu] at hp; obtain ⟨a, rfl, _⟩ := r; simpa using (beq_iff_eq.1 hp).symm
  ·
   rename_i hu; rw [hu] at hp; obtain ⟨s, rfl, _⟩ := r; simpa using (beq_iff_eq.1 hp).symm
  ·
   rename_i hu
   rw [hu] at hp
   simp only [Bool.and_eq_true, beq_iff_eq] at hp
   rcases r with rfl | ⟨i, len, cap, cells, rfl, _⟩
   ·
    simpa using hp.1.1.symm
   ·
    simpa using hp.1.1.symm
  ·
   exact r.1
  ·
   exact r.1
  ·
   exact r.elim
section
variable {H : Type} {enc : TypeId × Value → H} {W : World} {base : Nat} {spare : Nat → Bool} {held : Bool}
theorem opens {G : Nat} (hall : ∀ b, spare b = true) : ∀ (n : Nat) (t : TypeId) (fuel : Nat) (cs : List Value) (x : DataW H × List MemPlace), plainT P n t = true → DataW.trod enc P W base spare held fuel t cs = some x →
  (x.1.weights P t).all (· ≤ reachBytes) = true → Opens P G W n t cs
 | 0, _, _, _, _, hp, _, _ => by simp [plainT] at hp
 | n + 1, t, fuel, cs, x, hp, ht, hs => by
  intro bs
  have hp0 := hp
  unfold plainT at hp
  split at hp
  ·
   rename_i hu
   obtain ⟨b, rfl, rfl⟩ := DataW.trod_bool hu ht
   refine ⟨[], [.bool b], (fun b hb => by cases hb), .cons (.bool b) .nil, ?_⟩
   unfold Rd
   rw [hu]
   exact ⟨b, rfl⟩
  ·
   rename_i k hu
   obtain ⟨a, rfl, rfl, hw⟩ := DataW.trod_int hu ht
   refine ⟨[], [.int k a], (fun b hb => by cases hb), .cons (.int k a) .nil, ?_⟩
   unfold Rd
   rw [hu]
   exact ⟨a, rfl, hw⟩
  ·
   rename_i hu
   obtain ⟨s, rfl, rfl, _⟩ := DataW.trod_string hu ht
   have hsz : s.data.toList.length ≤ reachBytes := by
    have := List.all_eq_true.1 hs s.data.toList.length (by simp [DataW.weights])
    simpa using this
   have hb : s = bstr s.data.toList := by
    unfold bstr
    cases s
    simp
   refine ⟨[], [.string s], (fun b hb => by cases hb), .cons (.string s) .nil, ?_⟩
   unfold Rd
   rw [hu]
   exact ⟨s.data.toList, by rw [← hb], hsz⟩
  ·
   rename_i e hu
   simp only [Bool.and_eq_true, beq_iff_eq, Nat.blt_eq] at hp
   obtain ⟨⟨hc1, hc0⟩, hpe⟩ := hp
   rcases DataW.trod_slice hu ht with ⟨rfl, rfl⟩ | ⟨a, len, cap, elems, rest, m, _, rfl, rfl, hb, hl, hm, hlen, hel, hsp, hns⟩
   ·
    refine ⟨[], [.slice none 0 0], (fun b hb => by cases hb), .cons .nilSlice .nil, ?_⟩
    unfold Rd
    rw [hu]
    exact .inl rfl
   ·
    have hws : ∀ y ∈ elems, (y.1.weights P e).all (· ≤ reachBytes) = true := by
     intro y hy
     refine List.all_eq_true.2 fun q hq => ?_
     refine List.all_eq_true.1 hs q ?_
     simp only [DataW.weights, hu]
     refine List.mem_cons_of_mem _ (List.mem_append_left _ ?_)
     exact qb7 (List.mem_map.2 ⟨y, hy, rfl⟩) q hq
    have hsz : len * P.bytesOf e ≤ reachBytes := by
     have := List.all_eq_true.1 hs ((elems.length + rest.length) * P.bytesOf e) (by simp [DataW.weights, hu])
     have h2 : elems.length * P.bytesOf e ≤ (elems.length + rest.length) * P.bytesOf e := Nat.mul_le_mul_right _ (by omega)
     rw [hlen] at h2
     have h3 : (elems.length + rest.length) * P.bytesOf e ≤ reachBytes := of_decide_eq_true this
     rw [hlen] at h3
     omega
    have hget : ∀ i, i < len → ∃ ci y, W.cells? base (a.add (i * P.cellsOf e)) (P.cellsOf e) = some ci ∧ elems[i]? = some y ∧ DataW.trod enc P W base spare held m e ci = some y := by
     intro i hi
     have h1 := hel i hi
     rw [List.getElem?_eq_getElem (by omega)] at h1
     obtain ⟨ci, q1, q2⟩ := Option.bind_eq_some_iff.1 h1
     exact ⟨ci, elems[i], q1, List.getElem?_eq_getElem (by omega), q2⟩
    let items : List (TypeId × List Value) := (List.range len).map fun i => (e, (W.cells? base (a.add (i * P.cellsOf e)) (P.cellsOf e)).getD [])
    have hitems : ∀ y ∈ items, Opens P G W n y.1 y.2 := by
     intro y hy
     obtain ⟨i, hi, rfl⟩ := List.mem_map.1 hy
     obtain ⟨ci, z, q1, q2, q3⟩ := hget i (List.mem_range.1 hi)
     show Opens P G W n e _
     rw [q1]
     exact opens hall n e m ci z hpe q3 (hws z (List.mem_of_getElem? q2))
    obtain ⟨b1, avs, r1, l1, q⟩ := qcy items hitems bs
    have hil : items.length = len := by simp [items]
    rw [hil] at l1
    have hit : ∀ (k : Nat), k < len → ∃ ci, items[k]? = some (e, ci) ∧ W.cells? base (a.add (k * P.cellsOf e)) (P.cellsOf e) = some ci := by
     intro k hk
     obtain ⟨ci, z, q1, _, _⟩ := hget k hk
     refine ⟨ci, ?_, q1⟩
     simp only [items, List.getElem?_map, List.getElem?_range hk, Option.map_some, q1, Option.getD_some]
    have hal : ∀ l ∈ avs, l.length = P.cellsOf e := by
     intro l hl'
     obtain ⟨k, hk⟩ := List.getElem?_of_mem hl'
     have hkl : k < len := by have := (List.getElem?_eq_some_iff.1 hk).1; omega
     obtain ⟨ci, q1, q2⟩ := hit k hkl
     exact qdk hpe (q k _ _ q1 hk).2
    have hfl := qcw hal
    let blk : RoB := ⟨avs.flatten, if cap = 0 then ⟨0, 0, none⟩ else a⟩
    have hcell : ∀ (j : Nat) v, avs.flatten[j]? = some v → ∃ c, W.cell? (a.add j) = some c ∧ VRel (roRen G (bs ++ b1)) (G + (bs ++ b1).length) v c := by
     intro j v hj
     rw [qid hc0 hal] at hj
     obtain ⟨l, h1, h2⟩ := Option.bind_eq_some_iff.1 hj
     have hkl : j / P.cellsOf e < len := by have := (List.getElem?_eq_some_iff.1 h1).1; omega
     obtain ⟨ci, q1, q2⟩ := hit _ hkl
     obtain ⟨c, hc, hv⟩ := (q _ _ _ q1 h1).1.get h2
     refine ⟨c, ?_, hv⟩
     obtain ⟨_, _, g3⟩ := World.cells?_some q2
     have := g3 (j % P.cellsOf e) (Nat.mod_lt _ hc0)
     rw [hc] at this
     rw [← this, Go.Deep.add_add, Nat.mul_comm, Nat.div_add_mod]
    have hspot : cap ≠ 0 → a.spot = none := by
     intro hcap
     have hz : ∃ ci, W.cells? base (a.add (0 * P.cellsOf e)) (P.cellsOf e) = some ci := by
      by_cases hl0 : len = 0
      ·
       obtain ⟨hr1, hr2⟩ := hsp (hall _)
       have := hr2 0 (by omega)
       rw [List.getElem?_eq_getElem (by omega)] at this
       simp only [hl0, Nat.add_zero] at this
       obtain ⟨ci, q1, _⟩ := Option.bind_eq_some_iff.1 this
       exact ⟨ci, q1⟩
      ·
       obtain ⟨ci, z, q1, _⟩ := hget 0 (by omega)
       exact ⟨ci, q1⟩
     obtain ⟨ci, q1⟩ := hz
     obtain ⟨_, g2, g3⟩ := World.cells?_some q1
     have g4 := g3 0 hc0
     rw [List.getElem?_eq_getElem (by omega), Nat.zero_mul] at g4
     rw [Go.Deep.add_add] at g4
     exact spot_of g4
    have hq : (bs ++ (b1 ++ [blk]))[bs.length + b1.length]? = some blk := by
     rw [List.getElem?_append_right (by omega), List.getElem?_append_right (by omega)]
     simp
    have hren : roRen G (bs ++ (b1 ++ [blk])) (G + (bs.length + b1.length)) = ⟨blk.at_.block, blk.at_.off, 0⟩ := by
     unfold roRen
     rw [if_neg (by omega), show G + (bs.length + b1.length) - G = bs.length + b1.length by omega, hq]
    refine ⟨b1 ++ [blk], [.slice (some ⟨G + (bs.length + b1.length), 0, none⟩) len (if cap = len then len else len + 1)], ?_, ?_, ?_⟩
    ·
     rw [← List.append_assoc]
     refine r1.app.two fun b hb => ?_
     rw [List.mem_singleton.1 hb]
     by_cases hcap : cap = 0
     ·
      have hz : avs.flatten = [] := List.eq_nil_of_length_eq_zero (by rw [hfl, l1, show len = 0 by omega]; simp)
      refine ⟨by show (if cap = 0 then _ else a : Addr).spot = none; rw [if_pos hcap], fun k v hk => ?_⟩
      replace hk : avs.flatten[k]? = some v := hk
      rw [hz] at hk
      simp at hk
     ·
      refine ⟨by show (if cap = 0 then _ else a : Addr).spot = none; rw [if_neg hcap]; exact hspot hcap, fun k v hk => ?_⟩
      obtain ⟨c, hc, hv⟩ := hcell k v hk
      refine ⟨c, ?_, hv.mono qcV (by simp)⟩
      show W.cell? ((if cap = 0 then _ else a : Addr).add k) = some c
      rw [if_neg hcap]
      exact hc
    ·
     refine .cons (.slice _ _ _ _ _ _ _ (by simp) ?_ hl ?_ ?_ hm (by intro t ht; cases ht)) .nil
     ·
      split <;> omega
     ·
      simp only [maxLen] at hm
      split
      ·
       exact ⟨fun _ => by omega, fun e => by omega⟩
      ·
       exact ⟨fun e => by omega, fun e => by omega⟩
     ·
      by_cases hcap : cap = 0
      ·
       exact .inr hcap
      ·
       left
       rw [hren]
       have h1 := hspot hcap
       show a = ⟨(if cap = 0 then _ else a : Addr).block, (if cap = 0 then _ else a : Addr).off + 0, none⟩
       rw [if_neg hcap]
       cases a
       simp only at h1
       subst h1
       rfl
    ·
     unfold Rd
     rw [hu]
     right
     refine ⟨_, len, _, avs.flatten, rfl, hsz, by rw [hfl, l1], fun hne => ?_, fun k hk => ?_⟩
     ·
      show (if _ < G then none else ((bs ++ (b1 ++ [blk]))[_]?).bind _) = _
      rw [if_neg (by omega), show G + (bs.length + b1.length) - G = bs.length + b1.length by omega, hq]
      show (if avs.flatten.isEmpty then none else some (⟨avs.flatten, 0, false⟩ : Blk)) = _
      rw [if_neg (by simpa using hne)]
     ·
      obtain ⟨l, hk2⟩ : ∃ l, avs[k]? = some l := ⟨_, List.getElem?_eq_getElem (by omega)⟩
      rw [qcz hal hk2]
      obtain ⟨ci, q1, _⟩ := hit k hk
      have := (q k _ _ q1 hk2).2
      rw [← List.append_assoc]
      exact this.ext qdn
  ·
   rename_i fs hu
   simp only [Bool.and_eq_true, beq_iff_eq] at hp
   obtain ⟨hlay, hpf⟩ := hp
   obtain ⟨xs, m, _, rfl, hcl, hxl, hx⟩ := DataW.trod_struct hu ht
   let items : List (TypeId × List Value) := fs.toList.map fun f => (f.type, (cs.drop f.offset).take (P.cellsOf f.type))
   have hxt : ∀ (k : Nat) f, fs.toList[k]? = some f → ∃ y, xs[k]? = some y ∧ DataW.trod enc P W base spare held m f.type ((cs.drop f.offset).take (P.cellsOf f.type)) = some y := by
    intro k f hf
    have h1 := hx k f (by simpa using hf)
    have hk := (List.getElem?_eq_some_iff.1 hf).1
    rw [List.getElem?_eq_getElem (by simp at hk; omega)] at h1
    exact ⟨_, List.getElem?_eq_getElem (by simp at hk; omega), h1⟩
   have hwe : ∀ (k : Nat) f y, fs.toList[k]? = some f → xs[k]? = some y → (y.1.weights P f.type).all (· ≤ reachBytes) = true := by
    intro k f y hf hy
    refine List.all_eq_true.2 fun q hq => ?_
    refine List.all_eq_true.1 hs q ?_
    simp only [DataW.weights, hu]
    exact DataW.weights_mem_each (j := k) (t := f.type) (d := y.1) (by simp only [List.getElem?_map, hf, Option.map_some]) (by simp [List.getElem?_map, hy]) q hq
   have hitems : ∀ y ∈ items, Opens P G W n y.1 y.2 := by
    intro y hy
    obtain ⟨f, hf, rfl⟩ := List.mem_map.1 hy
    obtain ⟨k, hk⟩ := List.getElem?_of_mem hf
    obtain ⟨z, h1, h2⟩ := hxt k f hk
    exact opens hall n f.type m _ z (List.all_eq_true.1 hpf f hf) h2 (hwe k f z hk h1)
   obtain ⟨b1, avs, r1, l1, q⟩ := qcy items hitems bs
   have hal : ∀ (k : Nat) f a, fs.toList[k]? = some f → avs[k]? = some a → VRels (roRen G (bs ++ b1)) (G + (bs ++ b1).length) a ((cs.drop f.offset).take (P.cellsOf f.type)) ∧ Rd P (roHeap G (bs ++ b1)) n f.type a ∧ a.length = P.cellsOf f.type := by
    intro k f a hf ha
    obtain ⟨h1, h2⟩ := q k (f.type, (cs.drop f.offset).take (P.cellsOf f.type)) a (by simp only [items, List.getElem?_map, hf, Option.map_some]) ha
    exact ⟨h1, h2, qdk (List.all_eq_true.1 hpf f (List.mem_of_getElem? hf)) h2⟩
   obtain ⟨hf1, _⟩ := qfa (cs := cs) hlay (by omega)
   rw [List.drop_zero, Nat.sub_zero, List.take_of_length_le (by omega)] at hf1
   have hlens : avs.map List.length = fs.toList.map fun f => P.cellsOf f.type := by
    apply List.ext_getElem?
    intro k
    rw [List.getElem?_map, List.getElem?_map]
    cases hk : fs.toList[k]? with
    | none =>
     have : avs[k]? = none := by
      rw [List.getElem?_eq_none_iff] at hk ⊢
      simp [items] at l1
      simp at hk
      omega
     rw [this]; rfl
    | some f =>
     have hkl := (List.getElem?_eq_some_iff.1 hk).1
     have : ∃ a, avs[k]? = some a := ⟨_, List.getElem?_eq_getElem (by simp [items] at l1; simp at hkl; omega)⟩
     obtain ⟨a, ha⟩ := this
     rw [ha]
     simp [(hal k f a hk ha).2.2]
   refine ⟨b1, avs.flatten, r1, ?_, ?_⟩
   ·
    rw [← hf1]
    refine VRels.flat (by simpa [items] using l1) fun k a c ha hc => ?_
    rw [List.getElem?_map] at hc
    cases hk : fs.toList[k]? with
    | none => rw [hk] at hc; cases hc
    | some f =>
     rw [hk] at hc
     simp only [Option.map_some, Option.some.injEq] at hc
     subst hc
     exact (hal k f a hk ha).1
   ·
    unfold Rd
    rw [hu]
    refine ⟨?_, fun f hf => ?_⟩
    ·
     rw [List.length_flatten, hlens]
     have := qf9 hlay
     omega
    ·
     obtain ⟨k, hk⟩ := List.getElem?_of_mem hf
     have hkl := (List.getElem?_eq_some_iff.1 hk).1
     obtain ⟨a, ha⟩ : ∃ a, avs[k]? = some a := ⟨_, List.getElem?_eq_getElem (by simp [items] at l1; simp at hkl; omega)⟩
     have h1 := qgy hlay k f hk
     have h2 := qeS ha
     rw [List.map_take, hlens, ← List.map_take, (hal k f a hk ha).2.2] at h2
     rw [h1, Nat.zero_add, h2]
     exact (hal k f a hk ha).2.1
  ·
   rename_i m e hu
   simp only [Bool.and_eq_true, beq_iff_eq] at hp
   obtain ⟨hce, hpe⟩ := hp
   obtain ⟨xs, fu, _, rfl, hcl, hxl, hx⟩ := DataW.trod_array hu ht
   let items : List (TypeId × List Value) := (List.range m).map fun k => (e, (cs.drop (k * P.cellsOf e)).take (P.cellsOf e))
   have hxt : ∀ k, k < m → ∃ y, xs[k]? = some y ∧ DataW.trod enc P W base spare held fu e ((cs.drop (k * P.cellsOf e)).take (P.cellsOf e)) = some y := by
    intro k hk
    have h1 := hx k hk
    rw [List.getElem?_eq_getElem (by omega)] at h1
    exact ⟨_, List.getElem?_eq_getElem (by omega), h1⟩
   have hws : ∀ y ∈ xs, (y.1.weights P e).all (· ≤ reachBytes) = true := by
    intro y hy
    refine List.all_eq_true.2 fun q hq => ?_
    refine List.all_eq_true.1 hs q ?_
    simp only [DataW.weights, hu]
    exact qb7 (List.mem_map.2 ⟨y, hy, rfl⟩) q hq
   have hitems : ∀ y ∈ items, Opens P G W n y.1 y.2 := by
    intro y hy
    obtain ⟨k, hk, rfl⟩ := List.mem_map.1 hy
    obtain ⟨z, h1, h2⟩ := hxt k (List.mem_range.1 hk)
    exact opens hall n e fu _ z hpe h2 (hws z (List.mem_of_getElem? h1))
   obtain ⟨b1, avs, r1, l1, q⟩ := qcy items hitems bs
   have hil : items.length = m := by simp [items]
   rw [hil] at l1
   have hal : ∀ (k : Nat) a, k < m → avs[k]? = some a → VRels (roRen G (bs ++ b1)) (G + (bs ++ b1).length) a ((cs.drop (k * P.cellsOf e)).take (P.cellsOf e)) ∧ Rd P (roHeap G (bs ++ b1)) n e a := by
    intro k a hk ha
    exact q k (e, (cs.drop (k * P.cellsOf e)).take (P.cellsOf e)) a (by simp only [items, List.getElem?_map, List.getElem?_range hk, Option.map_some]) ha
   have hall : ∀ l ∈ avs, l.length = P.cellsOf e := by
    intro l hl
    obtain ⟨k, hk⟩ := List.getElem?_of_mem hl
    exact qdk hpe (hal k l (by have := (List.getElem?_eq_some_iff.1 hk).1; omega) hk).2
   have hcs : ((List.range m).map fun k => (cs.drop (k * P.cellsOf e)).take (P.cellsOf e)).flatten = cs := qcH (by omega)
   refine ⟨b1, avs.flatten, r1, ?_, ?_⟩
   ·
    conv => arg 4; rw [← hcs]
    refine VRels.flat (by simpa using l1) fun k a c ha hc => ?_
    have hk : k < m := by have := (List.getElem?_eq_some_iff.1 ha).1; omega
    rw [List.getElem?_map, List.getElem?_range hk] at hc
    simp only [Option.map_some, Option.some.injEq] at hc
    subst hc
    exact (hal k a hk ha).1
   ·
    unfold Rd
    rw [hu]
    refine ⟨by rw [qcw hall, l1, hce], fun k hk => ?_⟩
    obtain ⟨a, ha⟩ : ∃ a, avs[k]? = some a := ⟨_, List.getElem?_eq_getElem (by omega)⟩
    rw [qcz hall ha]
    exact (hal k a hk ha).2
  ·
   cases hp
end
end
section
variable {P : Program}
def wholeB : Option TypeDesc → Bool
 | some (.struct _) => true
 | some (.array _ _) => true
 | _ => false
def RdV (P : Program) (h : Heap) (n : Nat) (t : TypeId) (v : Value) : Prop :=
 bif wholeB (P.underlying t) then ∃ cs : Array Value, v = .agg cs ∧ Rd P h n t cs.toList else Rd P h n t [v]
theorem RdV.ext {h h' : Heap} (hx : Ext h h') {n : Nat} {t : TypeId} {v : Value} (r : RdV P h n t v) : RdV P h' n t v := by
 unfold RdV at r ⊢
 cases hw : wholeB (P.underlying t) with
 | true =>
  rw [hw] at r
  obtain ⟨cs, h1, h2⟩ := r
  exact ⟨cs, h1, h2.ext hx⟩
 | false => rw [hw] at r; exact Rd.ext hx r
variable {H : Type} {enc : TypeId × Value → H} {W : World}
theorem one_of_ok {n : Nat} {t : TypeId} {v : Value} {r : Reach} {base : Nat} (hp : plainT P (n + 1) t = true) (hk : Value.okWide P W r base t v) (hw : wholeB (P.underlying t) = false) : v.cells = #[v] := by
 unfold plainT at hp
 unfold Value.okWide at hk
 cases hu : P.underlying t with
 | none => rw [hu] at hp; cases hp
 | some d =>
  rw [hu] at hp hk hw
  cases d <;> first | (cases hw; done) | skip
  all_goals first
   | (cases hp; done)
   | (simp only [Cell.okWide, hu, Cell.ok] at hk; cases v <;> first | rfl | (exact hk.elim) | (simp at hk))
theorem opens_arg {G n fuel : Nat} {t : TypeId} {v : Value} {r : Reach} {base b0 : Nat} {spare : Nat → Bool} {held : Bool} {x : DataW H × List MemPlace} (hall : ∀ b, spare b = true) (hp : plainT P (n + 1) t = true) (hk : Value.okWide P W r base t v) (ht : DataW.trod enc P W b0 spare held fuel t v.cells.toList = some x)
  (hs : (x.1.weights P t).all (· ≤ reachBytes) = true) : ∀ bs : List RoB, ∃ (bs' : List RoB) (a : Value), RoAll G (bs ++ bs') bs' W ∧ VRel (roRen G (bs ++ bs')) (G + (bs ++ bs').length) a v ∧ RdV P (roHeap G (bs ++ bs')) (n + 1) t a := by
 intro bs
 obtain ⟨b1, avs, r1, v1, d1⟩ := opens (G := G) hall (n + 1) t fuel _ x hp ht hs bs
 cases hw : wholeB (P.underlying t) with
 | true =>
  have hv : ∃ cs, v = .agg cs := by
   unfold Value.okWide at hk
   cases hu : P.underlying t with
   | none => rw [hu] at hw; cases hw
   | some d =>
    rw [hu] at hw hk
    cases d <;> first | (cases hw; done) | (obtain ⟨cs, h1, _⟩ := hk; exact ⟨cs, h1⟩)
  obtain ⟨cs, rfl⟩ := hv
  refine ⟨b1, .agg avs.toArray, r1, ?_, ?_⟩
  ·
   refine .agg _ _ ?_ ?_
   ·
    have := v1.length
    simpa [Value.cells] using this
   ·
    intro k x y hx hy
    have hx' : avs[k]? = some x := by simpa using hx
    obtain ⟨c, hc, hv⟩ := v1.get hx'
    have : cs[k]? = some c := by simpa [Value.cells] using hc
    rw [this] at hy
    cases hy
    exact hv
  ·
   unfold RdV
   rw [hw]
   exact ⟨avs.toArray, rfl, by simpa using d1⟩
 | false =>
  have h1 := one_of_ok hp hk hw
  rw [h1] at v1
  obtain ⟨a, rfl⟩ : ∃ a, avs = [a] := by
   have := v1.length
   match avs, this with
   | [a], _ => exact ⟨a, rfl⟩
  refine ⟨b1, a, r1, ?_, ?_⟩
  ·
   cases v1 with
   | cons h t => exact h
  ·
   unfold RdV
   rw [hw]
   exact d1
theorem qeU {G n : Nat} {r : Reach} {base : Nat} {spare : Nat → Bool} {held : Bool} (hall : ∀ b, spare b = true) : ∀ (ts : List TypeId) (vs : List Value) (ds : List (DataW H)) (ps : List MemPlace), DataW.TrodAll enc P W 0 spare held ts vs ds ps →
  (∀ t ∈ ts, plainT P (n + 1) t = true) → (∀ (j : Nat) t v, ts[j]? = some t → vs[j]? = some v → Value.okWide P W r base t v) → (DataW.weightsEach P ts ds).all (· ≤ reachBytes) = true → ∀ bs : List RoB,
  ∃ (bs' : List RoB) (avs : List Value), RoAll G (bs ++ bs') bs' W ∧ VRels (roRen G (bs ++ bs')) (G + (bs ++ bs').length) avs vs ∧ ∀ (j : Nat) t a, ts[j]? = some t → avs[j]? = some a → RdV P (roHeap G (bs ++ bs')) (n + 1) t a
 | [], vs, ds, ps, h, _, _, _, bs => by
  obtain ⟨rfl, rfl, rfl⟩ := Go.ChangeShapes.trodAll_nil h
  exact ⟨[], [], (fun b hb => by cases hb), .nil, fun j t a ht => by simp at ht⟩
 | t :: ts, vs, ds, ps, h, hp, hk, hs, bs => by
  obtain ⟨v, vs', d, ds', p, q, rfl, rfl, rfl, ⟨fuel, h0⟩, hr⟩ := Go.ChangeShapes.trodAll_cons h
  have hs1 : (d.weights P t).all (· ≤ reachBytes) = true := List.all_eq_true.2 fun x hx => List.all_eq_true.1 hs x (by simp only [DataW.weightsEach, List.mem_append]; exact .inl hx)
  have hs2 : (DataW.weightsEach P ts ds').all (· ≤ reachBytes) = true := List.all_eq_true.2 fun x hx => List.all_eq_true.1 hs x (by simp only [DataW.weightsEach, List.mem_append]; exact .inr hx)
  obtain ⟨b1, a, r1, v1, d1⟩ := opens_arg (G := G) hall (hp t (by simp)) (hk 0 t v rfl rfl) h0 hs1 bs
  obtain ⟨b2, avs, r2, v2, d2⟩ := qeU hall ts vs' ds' q hr (fun t' ht => hp t' (List.mem_cons_of_mem _ ht)) (fun j t' v' ht hv => hk (j + 1) t' v' ht hv) hs2 (bs ++ b1)
  refine ⟨b1 ++ b2, a :: avs, ?_, ?_, fun j t' a' ht ha => ?_⟩
  ·
   rw [← List.append_assoc]; exact r1.app.two r2
  ·
   rw [← List.append_assoc]
   exact .cons (v1.mono qcV (by simp)) v2
  ·
   rw [← List.append_assoc]
   cases j with
   | zero =>
    simp only [List.getElem?_cons_zero, Option.some.injEq] at ht ha
    subst ht ha
    exact d1.ext qdn
   | succ j =>
    simp only [List.getElem?_cons_succ] at ht ha
    exact d2 j t' a' ht ha
theorem qaO (hl : laidOutB P = true) {W' : World} (hb : Go.RowKit.Below W.heap.size W W') : ∀ (ts : List TypeId) (vs : List Value) (ds : List (DataW H)) (ps : List MemPlace), (∀ t ∈ ts, P.readableRec t = true ∧ t < P.types.size) →
  DataW.TrodAll enc P W 0 (fun _ => true) true ts vs ds ps → DataW.TrodAll enc P W' 0 (fun b => decide (b < W.heap.size)) true ts vs ds ps
 | [], vs, ds, ps, _, h => by
  obtain ⟨rfl, rfl, rfl⟩ := Go.ChangeShapes.trodAll_nil h
  rfl
 | t :: ts, vs, ds, ps, hr, h => by
  obtain ⟨v, vs', d, ds', p, q, rfl, rfl, rfl, h0, hr'⟩ := Go.ChangeShapes.trodAll_cons h
  obtain ⟨h1, h2⟩ := hr t (by simp)
  have hlt : ∀ x ∈ p, x.block < W.heap.size := by obtain ⟨m, hm⟩ := h0; exact DataW.trod_lt m _ _ _ hm
  exact trodAll_cons_mk (Go.RowKit.Below.trod hl h1 h2 h0 hb hlt) (qaO hl hb ts vs' ds' q (fun t' ht => hr t' (List.mem_cons_of_mem _ ht)) hr')
theorem qdY {base : Nat} {spare : Nat → Bool} {held : Bool} : ∀ {ts : List TypeId} {vs : List Value} {ds : List (DataW H)} {ps : List MemPlace}, DataW.TrodAll enc P W base spare held ts vs ds ps → vs.length = ts.length
 | [], vs, ds, ps, h => by
  obtain ⟨rfl, rfl, rfl⟩ := Go.ChangeShapes.trodAll_nil h
  rfl
 | t :: ts, vs, ds, ps, h => by
  obtain ⟨v, vs', d, ds', p, q, rfl, rfl, rfl, _, hr⟩ := Go.ChangeShapes.trodAll_cons h
  simp [qdY hr]
end
variable {P : Program} {ρ : Operand → Value} {h : Heap} {K : Value → Heap → Prop} {dst : Option Tmp} {ty : TypeId} {pos : String} {aft : Array Edge} {g : Option (Nat × Bool)}
def OS (B : Nat) (h : Heap) (e : TypeId) (v : Value) (vs : List Value) : Prop :=
 (v = .slice none 0 0 ∧ vs = []) ∨ ∃ i c, B ≤ i ∧ v = .slice (some ⟨i, 0, some 1⟩) vs.length c ∧ h.get i = some ⟨vs, e, true⟩
theorem OS.rs {B : Nat} {e : TypeId} {v : Value} {vs : List Value} (r : OS B h e v vs) : RS h v vs := by
 rcases r with ⟨rfl, rfl⟩ | ⟨i, c, _, rfl, hi⟩
 ·
  exact RS.nil h
 ·
  exact RS.own hi rfl
theorem OS.nil (B : Nat) (h : Heap) (e : TypeId) : OS B h e (.slice none 0 0) [] := .inl ⟨rfl, rfl⟩
theorem OS.new {B : Nat} {e : TypeId} {vs : List Value} {n c : Nat} (hB : B ≤ h.next) (hn : vs.length = n) : OS B (h.alloc ⟨vs, e, true⟩) e (.slice (some ⟨h.next, 0, some 1⟩) n c) vs := by
 subst hn
 exact .inr ⟨h.next, c, hB, rfl, Heap.alloc_new _ _⟩
structure Keeps (v : Value) (h h' : Heap) : Prop where
 c : ∀ j b, h.get j = some b → (∀ s n c, v ≠ .slice (some ⟨j, 0, s⟩) n c) → h'.get j = some b
 o : ∀ j b, h.obj j = some b → h'.obj j = some b
instance (v : Value) (h h' : Heap) : CoeFun (Keeps v h h') (fun _ => ∀ j b, h.get j = some b → (∀ s n c, v ≠ .slice (some ⟨j, 0, s⟩) n c) → h'.get j = some b) := ⟨Keeps.c⟩
theorem Keeps.ext {B : Nat} {e : TypeId} {v : Value} {vs : List Value} {h0 h' : Heap} (k : Keeps v h h') (r : OS B h e v vs) (wf0 : WF h0) (hB : h0.next ≤ B) (hx : Ext h0 h) : Ext h0 h' := by
 refine ⟨fun j b hj => ?_, fun j o hj => k.o j o (hx.o j o hj)⟩
 refine k.c j b (hx.c j b hj) fun s n c hv => ?_
 have hlt := wf0.lt hj
 rcases r with ⟨rfl, _⟩ | ⟨i, c', hi, rfl, _⟩
 ·
  cases hv
 ·
  cases hv; omega
theorem OS.ext {B : Nat} {e : TypeId} {v : Value} {vs : List Value} {h' : Heap} (r : OS B h e v vs) (hx : Ext h h') : OS B h' e v vs := by
 rcases r with ⟨rfl, rfl⟩ | ⟨i, c, h1, rfl, h2⟩
 ·
  exact .inl ⟨rfl, rfl⟩
 ·
  exact .inr ⟨i, c, h1, rfl, hx i _ h2⟩
theorem qbj {t t2 e : TypeId} {d2 : TypeDesc} {x y : Operand} {by_ B m : Nat} {z u v : Value} {vs news : List Value} [td : TyD P t (.slice e)] [t2d : TyD P t2 d2] [ti : TyI P e 1 by_ z] (hd2 : appB d2 = true) (wf : WF h) (hB : B ≤ h.next)
  (r : OS B h e u vs) (hx : ρ x = u) (hy : ρ y = v) (hs : Src h 1 v m news) (hm : news.length = m) (hone : news.all oneB = true) (h1 : vs.length + m ≤ maxLen) (h2 : (vs.length + m) * by_ ≤ 140737488355328)
  (kk : ∀ u' h', OS B h' e u' (vs ++ news) → Keeps u h h' → WF h' → h.next ≤ h'.next → K u' h') : AOp P ⟨dst, .call ⟨.builtin .append, #[x, y], #[t, t2]⟩, ty, pos, aft, g⟩ ρ h K := by
 rcases r with ⟨rfl, rfl⟩ | ⟨i, c, hBi, rfl, hi⟩
 ·
  refine qds (z := z) hd2 hx hy hs (by simpa using h1) (by simpa using h2) (fun hm0 => ?_) (fun hm0 => ?_)
  ·
   have : news = [] := List.eq_nil_of_length_eq_zero (by omega)
   subst this
   exact kk _ _ (.inl ⟨rfl, rfl⟩) ⟨fun j b hj _ => hj, fun j b hj => hj⟩ wf (Nat.le_refl _)
  ·
   exact kk _ _ (.inr ⟨h.next, m + 1, hB, by simp [hm], by simp [Heap.alloc_new]⟩) ⟨fun j b hj _ => (wf.ext _).c j b hj, fun j b hj => hj⟩ (wf.alloc _) (by simp [Heap.alloc])
 ·
  refine qf0 (z := z) hd2 hx hy hi rfl rfl (by simp) hs hone h1 h2 ?_
  refine kk _ _ (.inr ⟨h.next, vs.length + m + 1, hB, by simp [hm], Heap.kill_alloc_new _ _ _⟩) ⟨fun j b hj hne => ?_, fun j b hj => hj⟩ ((wf.kill i).alloc _) (by simp [Heap.alloc, Heap.kill])
  have := wf.lt hj
  rw [Heap.kill_alloc_old (by omega) (fun e => hne (some 1) vs.length c (by rw [e]))]
  exact hj
section
variable {P : Program} {ρ : Operand → Value} {h : Heap} {K : Value → Heap → Prop} {dst : Option Tmp} {ty : TypeId} {pos : String} {aft : Array Edge} {g : Option (Nat × Bool)}
def Off (v : Value) (j : Nat) : Prop := ∀ s n c, v ≠ .slice (some ⟨j, 0, s⟩) n c
structure Grows (B : Nat) (ea er eb : TypeId) (H : Heap) (av lv : Value) (avs : List Value) (ps : List (List UInt8)) : Prop where
 at_ : OS B H ea av avs
 rows : ∃ vs, OS B H er lv vs ∧ vs.length = ps.length ∧ ∀ (k : Nat) (x : Value) (p : List UInt8), vs[k]? = some x → ps[k]? = some p → ∃ i c, x = .slice (some ⟨i, 0, some 1⟩) p.length c ∧ H.get i = some ⟨bv p, eb, true⟩ ∧ Off av i ∧ Off lv i
 apart : ∀ i s n c, lv = .slice (some ⟨i, 0, s⟩) n c → Off av i
section
variable {B : Nat} {ea er eb : TypeId} {H H' : Heap} {av lv : Value} {avs : List Value} {ps : List (List UInt8)}
end
theorem OS.rb {B : Nat} {e : TypeId} {v : Value} {l : List UInt8} (r : OS B h e v (bv l)) : RB h v l := r.rs
theorem bstr_app (a b : List UInt8) : bstr a ++ bstr b = bstr (a ++ b) := by
 apply ByteArray.ext
 simp [bstr]
theorem qbL (l : List UInt8) : (bstr l).toList = l := ByteArray.toList_mk l
theorem qaV {t t' : TypeId} {x y : Operand} {a b : List UInt8} (hx : ρ x = .string (bstr a)) (hy : ρ y = .string (bstr b)) (he : a = b) (kk : K (.bool true) h) : AOp P ⟨dst, .binOp .eql t x y t', ty, pos, aft, g⟩ ρ h K :=
 qfj hx hy (c := true) (by simp only [strB]; rw [he]; simp) kk
theorem qbJ {t t' : TypeId} {x y : Operand} {a b : List UInt8} (hx : ρ x = .string (bstr a)) (hy : ρ y = .string (bstr b)) (he : a = b) (kk : K (.bool false) h) : AOp P ⟨dst, .binOp .neq t x y t', ty, pos, aft, g⟩ ρ h K :=
 qfj hx hy (c := false) (by simp only [strB]; rw [he]; simp) kk
theorem qbr {t t' : TypeId} {x y : Operand} {a b : List UInt8} (hx : ρ x = .string (bstr a)) (hy : ρ y = .string (bstr b)) (he : ¬ a = b) (kk : K (.bool true) h) : AOp P ⟨dst, .binOp .neq t x y t', ty, pos, aft, g⟩ ρ h K :=
 qfj hx hy (c := true) (by simp only [strB, qbL]; rw [show (a == b) = false from by simpa using he]; rfl) kk
theorem qcr {t t' : TypeId} {x y : Operand} {a b : List UInt8} (hx : ρ x = .string (bstr a)) (hy : ρ y = .string (bstr b)) (hs : a.length + b.length ≤ maxLen) (kk : K (.string (bstr (a ++ b))) h) : AOp P ⟨dst, .binOp .add t x y t', ty, pos, aft, g⟩ ρ h K :=
 op_strAdd hx hy (by simpa [bstr, ByteArray.size] using hs) (by rw [bstr_app]; exact kk)
end
end Go.Eng
