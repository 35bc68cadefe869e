/-
  Texts of one claim, merged: 9 parts.
-/
import Derived.Test.YtigmojilaadbhaaGreatDoorMuh
import Derived.Test.YtigmojilaadbhaaGreatDoorMuf
import Derived.Lib.Builder
import Derived.Lib.UnsafeStr
import Derived.Test.YtigmojilaadbhaaGreatDoorMue
set_option maxHeartbeats 16000000
/- . -/
namespace Go.Eng
open Go
theorem TyI.cells {P : Program} {t : TypeId} {s b : Nat} {z : Value} [k : TyI P t s b z] : P.cellsOf t = s := by
 obtain ⟨i, h1, h2, _⟩ := k.ex
 simp [Program.cellsOf, h1, h2]
theorem liesAt_own {P : Program} {e : TypeId} {count : Nat} (h0 : P.cellsOf e ≠ 0) (hn : 1 ≤ count) : liesAt P P.depth e count 0 e 1 = true := by
 have hd : P.depth = (2 * (P.types.size + Made.depth) + 1) + 1 := rfl
 rw [hd]
 simp only [liesAt, Bool.or_eq_true]
 left
 rw [hd]
 simp [rowAt, h0, hn, sameLayout]
section
variable {P : Program} {ρ : Operand → Value} {h : Heap} {K : Value → Heap → Prop} {dst : Option Tmp} {ty : TypeId} {pos : String} {aft : Array Edge} {g : Option (Nat × Bool)}
theorem op_toUns {s d t : TypeId} {x : Operand} {i o sz by_ : Nat} {sp : Option Nat} {z : Value} {b : Blk} [ts : TyD P s (.pointer t)] [td : TyD P d .unsafePointer] [ti : TyI P t sz by_ z] (hs : (sz == 0) = false) (hx : ρ x = .pointer (some ⟨i, o, sp⟩)) (hi : h.get i = some b) (ho : b.own = true) (hl : o < b.cells.length)
  (kk : K (.pointer (some ⟨i, o, sp⟩)) h) : AOp P ⟨dst, .convert s d x, ty, pos, aft, g⟩ ρ h K :=
 .of_pure kk fun φ ac w r => by
  have hv := hx ▸ r.ev x (by simp [Op.operands])
  obtain ⟨rfl, _, e1⟩ := hv.ptr_inv
  obtain ⟨arr, fr, a1, ⟨a2, _⟩, _, a4, _⟩ := r.sim.owned hi ho
  obtain ⟨inf, q1, q2, _⟩ := ti.ex
  have hsh : w.shape? (φ i).b = some (b.elem, arr.size) := by simp [World.shape?, a1]
  have hrun := Lib.run_to_unsafe (P := P) (w := w) (src := s) (dst := d) ⟨(φ i).b, (φ i).o + o, none⟩ ts.eq td.eq q1 (by rw [q2]; simpa using hs) hsh (by show (φ i).o + o < arr.size; omega)
  exact ⟨_, by simp [execOp, e1, hrun], e1 ▸ hv⟩
theorem op_fromUns {s d u : TypeId} {x : Operand} {i sz by_ : Nat} {sp : Option Nat} {z : Value} {b : Blk} [ts : TyD P s .unsafePointer] [td : TyD P d (.pointer u)] [ti : TyI P u sz by_ z] (hs : (sz == 0) = false) (hx : ρ x = .pointer (some ⟨i, 0, sp⟩)) (hi : h.get i = some b) (ho : b.own = true) (he : b.elem = u) (hl : sz ≤ b.cells.length)
  (kk : K (.pointer (some ⟨i, 0, sp⟩)) h) : AOp P ⟨dst, .convert s d x, ty, pos, aft, g⟩ ρ h K :=
 .of_pure kk fun φ ac w r => by
  have hv := hx ▸ r.ev x (by simp [Op.operands])
  obtain ⟨rfl, _, e1⟩ := hv.ptr_inv
  obtain ⟨arr, fr, a1, ⟨a2, _⟩, _, a4, _⟩ := r.sim.owned hi ho
  obtain ⟨inf, q1, _⟩ := ti.ex
  have hs0 : sz ≠ 0 := by simpa using hs
  have hsh : w.shape? (φ i).b = some (u, arr.size) := by simp [World.shape?, a1, he]
  have hrun := Lib.run_from_unsafe (P := P) (w := w) (src := s) (dst := d) ⟨(φ i).b, (φ i).o + 0, none⟩ ts.eq td.eq q1 hsh (by
   rw [a2]
   refine liesAt_own ?_ ?_
   ·
    rw [TyI.cells (t := u)]; exact hs0
   ·
    rw [TyI.cells (t := u)]
    exact (Nat.le_div_iff_mul_le (by omega)).2 (by omega))
  rw [Nat.add_zero] at hrun e1
  exact ⟨_, by simp [execOp, e1, hrun], e1 ▸ hv⟩
theorem qgR {f : FuncId} {fo x : Operand} {aT : Array TypeId} {v : Value} [xt : XtC P f Extern.AbiNoEscape.same] (hf : ρ fo = .func (.func f) #[] #[]) (hx : ρ x = v) (kk : K v h) : AOp P ⟨dst, .call ⟨.value fo, #[x], aT⟩, ty, pos, aft, g⟩ ρ h K :=
 .of_pure kk fun φ ac w r => by
  obtain ⟨f1, d1, e0, s1, s2, _, _⟩ := (hf ▸ r.ev fo (by simp [Op.operands, Call.operands])).func_inv
  obtain rfl : f1 = #[] := by apply Array.eq_empty_of_size_eq_zero; rw [← s1]; rfl
  obtain rfl : d1 = #[] := by apply Array.eq_empty_of_size_eq_zero; rw [← s2]; rfl
  have e1 := hx ▸ r.ev x (by simp [Op.operands, Call.operands])
  obtain ⟨fn, q1, q2, q3, q4, q5⟩ := xt.ex
  refine ⟨ac.eval x, ?_, e1⟩
  have := run_callFunc_extern (P := P) q1 q2 q3 q4 q5 #[ac.eval x] w
  have hcmp : (Extern.AbiNoEscape.same #[ac.eval x]).run P w = .ok (ac.eval x) w := rfl
  rw [hcmp] at this
  simp [execOp, resolve, e0, Deferred.ofValue, invoke, this]
theorem qcE {t e : TypeId} {sz by_ : Nat} {z : Value} [ti : TyD P t (.pointer e)] [te : TyI P e sz by_ z] (p : Addr) (hp : p.spot = none) (w : World) (d : Nat) : (Op.equalIn (d + 1) t (.pointer (some p)) (.pointer (some p))).run P w = .ok true w := by
 obtain ⟨a, b, c⟩ := p
 subst hp
 simp [Op.equalIn, ti.run, sameAddr, te.size]
theorem qfU {t t' e : TypeId} {x y : Operand} {i o sz by_ : Nat} {z : Value} {s s' : Option Nat} [td : TyD P t (.pointer e)] [te : TyI P e sz by_ z] (hx : ρ x = .pointer (some ⟨i, o, s⟩)) (hy : ρ y = .pointer (some ⟨i, o, s'⟩)) (kk : K (.bool false) h) : AOp P ⟨dst, .binOp .neq t x y t', ty, pos, aft, g⟩ ρ h K :=
 .of_pure kk fun φ ac w r => by
  obtain ⟨_, _, e1⟩ := (hx ▸ r.ev x (by simp [Op.operands])).ptr_inv
  obtain ⟨_, _, e2⟩ := (hy ▸ r.ev y (by simp [Op.operands])).ptr_inv
  have e4 : (Op.equal t (.pointer (some ⟨(φ i).b, (φ i).o + o, none⟩)) (.pointer (some ⟨(φ i).b, (φ i).o + o, none⟩))).run P w = .ok true w := qcE _ rfl w 9999
  exact ⟨.bool false, by simp [execOp, e1, e2, eqGuard, binOp, e4], .bool _⟩
theorem op_unsData {x : Operand} {i o n c : Nat} {s : Option Nat} {aT : Array TypeId} (hx : ρ x = .slice (some ⟨i, o, s⟩) n c) (hn : 0 < n) (kk : K (.pointer (some ⟨i, o, none⟩)) h) : AOp P ⟨dst, .call ⟨.builtin .unsafeSliceData, #[x], aT⟩, ty, pos, aft, g⟩ ρ h K :=
 .of_pure kk fun φ ac w r => by
  obtain ⟨cap', a', e1, hlt, q1, q2, q3, q4, q5, q6⟩ := (hx ▸ r.ev x (by simp [Op.operands, Call.operands])).slice_inv
  obtain rfl := q4.resolve_right (by omega)
  have := Lib.run_unsafeSliceData_row (P := P) (w := w) aT ty ⟨(φ i).b, (φ i).o + o, none⟩ n cap' (by omega)
  exact ⟨.pointer (some ⟨(φ i).b, (φ i).o + o, none⟩), by simp [execOp, resolve, invoke, builtin, e1, this], .ptr _ _ hlt⟩
theorem qg2 {x : Operand} {n c : Nat} {aT : Array TypeId} (hx : ρ x = .slice none n c) (kk : K (.pointer none) h) : AOp P ⟨dst, .call ⟨.builtin .unsafeSliceData, #[x], aT⟩, ty, pos, aft, g⟩ ρ h K :=
 .of_pure kk fun φ ac w r => by
  obtain ⟨_, _, e1⟩ := (hx ▸ r.ev x (by simp [Op.operands, Call.operands])).nilSlice_inv
  have := Lib.run_unsafeSliceData_nil (P := P) (w := w) aT ty 0 0
  exact ⟨.pointer none, by simp [execOp, resolve, invoke, builtin, e1, this], .nilPtr⟩
theorem op_unsStr0 {x y : Operand} {t t2 : TypeId} (hx : ρ x = .pointer none) (hy : ρ y = .int .i64 0) (kk : K (.string ByteArray.empty) h) : AOp P ⟨dst, .call ⟨.builtin .unsafeString, #[x, y], #[t, t2]⟩, ty, pos, aft, g⟩ ρ h K :=
 .of_pure kk fun φ ac w r => by
  have e1 := (hx ▸ r.ev x (by simp [Op.operands, Call.operands])).nilPtr_inv
  have e2 := (hy ▸ r.ev y (by simp [Op.operands, Call.operands])).int_inv
  have hr : (Builtin.unsafeString_ #[t, t2] ty #[.pointer none, .int .i64 0]).run P w = .ok (.string ByteArray.empty) w := rfl
  exact ⟨.string ByteArray.empty, by simp [execOp, resolve, invoke, builtin, e1, e2, hr], .string _⟩
theorem Sim.lose {φ : Ren} {w w' : World} (s : Sim P φ h w) {i : Nat} {b : Blk} (hi : h.get i = some b) (ho : b.own = true) (hos : w'.os = w.os) (htape : w'.tape = w.tape) (hout : w'.output = w.output) (hsz : w'.heap.size = w.heap.size) (hw : ∀ k, k ≠ (φ i).b → w'.heap[k]? = w.heap[k]?) :
  Sim P φ (h.kill i) w' ∧ Step φ h w φ (h.kill i) w' := by
 have hold : ∀ j bj, (h.kill i).get j = some bj → h.get j = some bj ∧ j ≠ i := by
  intro j bj hj
  simp only [Heap.kill] at hj
  split at hj
  ·
   cases hj
  ·
   exact ⟨hj, by assumption⟩
 have hne : ∀ j bj, (h.kill i).get j = some bj → (φ j).b ≠ (φ i).b := by
  intro j bj hj e
  obtain ⟨h1, h2⟩ := hold j bj hj
  exact h2 (s.apart i j b hi ho (by rw [h1]; simp) e)
 have hobj : ∀ j o, h.obj j = some o → (φ j).b ≠ (φ i).b := by
  intro j o hj e
  obtain ⟨x, h1, _, h3⟩ := (s.objs j o hj).obj
  obtain ⟨arr, fr, h4, _⟩ := s.owned hi ho
  rw [e, h4] at h1
  cases h1
  exact h3 _ _ _ rfl
 have hx : Ext (h.kill i) h := ⟨fun j bj hj => (hold j bj hj).1, fun _ _ e => e⟩
 refine ⟨⟨s.next.kill i, fun j bj hj => ?_, fun j bj hj => ?_, fun j k bj hj hoj hk e => ?_, fun g hg => s.glob g hg, fun j o hj => ?_, fun j k o hj hk e => s.apartO j k o hj hk e⟩, ⟨Nat.le_refl _, fun _ _ => rfl, hos, htape, hout, Nat.le_of_eq hsz.symm, fun k hk hno => ?_, fun k ho' => .inl (ho'.forget hx)⟩⟩
 ·
  have h1 := hold j bj hj
  exact (s.blk j bj h1.1).world (fun _ _ => rfl) (s.lt h1.1) (Nat.le_refl _) (hw _ (hne j bj hj))
 ·
  rw [hsz]
  exact s.low j bj (hold j bj hj).1
 ·
  have h1 := hold j bj hj
  refine s.apart j k bj h1.1 hoj ?_ e
  intro hn
  apply hk
  simp only [Heap.kill]
  split
  ·
   rfl
  ·
   exact hn
 ·
  exact (s.objs j o hj).world (fun _ _ => rfl) (s.ltO hj) (Nat.le_refl _) (hw _ (hobj j o hj))
 ·
  refine hw k fun e => hno (.inl ⟨i, b, hi, ho, e.symm⟩)
theorem qf0 {x y : Operand} {t t2 e : TypeId} {i by_ : Nat} {s : Option Nat} {z : Value} {l : List UInt8} [tp : TyD P t (.pointer e)] [ti : TyI P e 1 by_ z] (hx : ρ x = .pointer (some ⟨i, 0, s⟩)) (hy : ρ y = .int .i64 (l.length : Nat)) (h0 : l ≠ []) (hl : l.length ≤ 9223372036854775807) (hi : h.get i = some ⟨bv l, e, true⟩)
  (kk : K (.string (bstr l)) (h.kill i)) : AOp P ⟨dst, .call ⟨.builtin .unsafeString, #[x, y], #[t, t2]⟩, ty, pos, aft, g⟩ ρ h K :=
 .of_run fun φ ac w r => by
  obtain ⟨_, hlt, e1⟩ := (hx ▸ r.ev x (by simp [Op.operands, Call.operands])).ptr_inv
  have e2 := (hy ▸ r.ev y (by simp [Op.operands, Call.operands])).int_inv
  obtain ⟨arr, fr, a1, ⟨a2, _⟩, _, a4, a5⟩ := r.sim.owned hi rfl
  have hlen : l.length ≤ arr.size := by rw [← qaz l]; exact a4
  have hsh : w.shape? (φ i).b = some (e, arr.size) := by simp [World.shape?, a1]
  rw [a2] at e1
  have hrun := Lib.run_unsafeString_row (P := P) w t t2 ty e tp.eq TyI.cells (φ i).b arr.size hsh l h0 hlen hl (fun j x hj => by
   obtain ⟨c, hc, hv⟩ := a5 j _ (qfG l j x hj)
   rw [hv.int_inv] at hc
   by_cases h0 : j = 0
   ·
    subst h0
    simp [World.cell?, Addr.add, a1, hc]
   ·
    simp [World.cell?, Addr.add, h0, a1, hc])
  have hfz : ∀ k, k ≠ (φ i).b → (w.freeze ⟨(φ i).b, 0, none⟩ l.length).heap[k]? = w.heap[k]? := by
   intro k hk
   have hl0 : l.length ≠ 0 := by simpa using h0
   simp only [World.freeze, if_neg hl0, Array.getElem?_modify]
   rw [if_neg fun e => hk e.symm]
  have hl0 : l.length ≠ 0 := by simpa using h0
  obtain ⟨s1, s2⟩ := r.sim.lose hi rfl (w' := w.freeze ⟨(φ i).b, 0, none⟩ l.length) (by simp [World.freeze, hl0]) (by simp [World.freeze, hl0]) (by simp [World.freeze, hl0]) (by simp [World.freeze, hl0]) hfz
  refine ⟨.string (bstr l), _, φ, h.kill i, .string (bstr l), ?_, kk, .string _, s1, s2⟩
  simp only [execOp, resolve, invoke, builtin, Sem.run_bind, Sem.run_pure, Result.andThen_ok, List.map_toArray, List.map_cons, List.map_nil, e1, e2]
  rw [Nat.add_zero, hrun]
  rfl
end
def eqV : Value → Value → Bool
 | .string a, .string b => a == b
 | .int _ a, .int _ b => a == b
 | .bool a, .bool b => a == b
 | _, _ => false
def eqOk : TypeDesc → Value → Value → Bool
 | .string, .string _, .string _ => true
 | .int _, .int k _, .int k' _ => decide (k = k')
 | .bool, .bool _, .bool _ => true
 | _, _, _ => false
class EqD (P : Program) (t : TypeId) (ds : outParam (List (Nat × TypeDesc))) : Prop where
 ex : ∃ fs : List Field, P.underlying t = some (.struct fs.toArray) ∧ P.stoodInHeld t = false ∧ P.eqGuardType P.depth t = false ∧ fs.map (fun f => (f.name != "_", f.offset, P.underlying f.type)) = ds.map fun d => (true, d.1, some d.2)
section
variable {P : Program} {ρ : Operand → Value} {h : Heap} {K : Value → Heap → Prop} {dst : Option Tmp} {ty : TypeId} {pos : String} {aft : Array Edge} {g : Option (Nat × Bool)}
theorem qfT {t : TypeId} {d : TypeDesc} (ht : P.underlying t = some d) (ha : aggB d = false) (w : World) {cs : Array Value} {o : Nat} {v : Value} (hv : cs[o]? = some v) : (part t cs o).run P w = .ok v w := by
 haveI : TyD P t d := ⟨ht⟩
 simp [part, TyD.isAgg (t := t) (d := d), ha, hv]
theorem run_eqCell {t : TypeId} {d : TypeDesc} (ht : P.underlying t = some d) (w : World) (n : Nat) {x y : Value} (hok : eqOk d x y = true) : (Op.equalIn (n + 1) t x y).run P w = .ok (eqV x y) w := by
 haveI : TyD P t d := ⟨ht⟩
 unfold eqOk at hok
 split at hok
 ·
  simp [Op.equalIn, TyD.run (t := t), eqV]
 ·
  have := of_decide_eq_true hok
  simp [Op.equalIn, TyD.run (t := t), eqV, this]
 ·
  simp [Op.equalIn, TyD.run (t := t), eqV]
 ·
  cases hok
theorem eqOk_agg {d : TypeDesc} {x y : Value} (hok : eqOk d x y = true) : aggB d = false := by
 unfold eqOk at hok
 split at hok <;> first | rfl | (cases hok)
theorem qdt (w : World) (n : Nat) (xs ys : Array Value) : ∀ (fs : List Field) (ds : List (Nat × TypeDesc)), fs.map (fun f => (f.name != "_", f.offset, P.underlying f.type)) = (ds.map fun d => (true, d.1, some d.2)) →
  (∀ d ∈ ds, ∃ x y, xs[d.1]? = some x ∧ ys[d.1]? = some y ∧ eqOk d.2 x y = true) →
  ((forIn fs ((none, ()) : Option Bool × Unit) fun f _ => (do
    if f.name ≠ "_" then
     if !(← Op.equalIn (n + 1) f.type (← part f.type xs f.offset) (← part f.type ys f.offset)) then pure (ForInStep.done (some false, ()))
     else pure (ForInStep.yield (none, ()))
    else pure (ForInStep.yield (none, ())) : Sem (ForInStep (Option Bool × Unit)))) : Sem _).run P w = .ok ((if (ds.all fun d => eqV (xs.getD d.1 undef) (ys.getD d.1 undef)) = true then none else some false), ()) w
 | [], [], _, _ => by simp
 | [], _ :: _, h, _ => by simp at h
 | _ :: _, [], h, _ => by simp at h
 | f :: fs, d :: ds, h, hd => by
  simp only [List.map_cons, List.cons.injEq, Prod.mk.injEq] at h
  obtain ⟨⟨h1, h2, h3⟩, h4⟩ := h
  obtain ⟨x, y, q1, q2, q3⟩ := hd d (by simp)
  have ih := qdt w n xs ys fs ds h4 fun d hd' => hd d (List.mem_cons_of_mem _ hd')
  have hag := eqOk_agg q3
  have p1 := qfT (P := P) h3 hag w (cs := xs) (o := f.offset) (by rw [h2]; exact q1)
  have p2 := qfT (P := P) h3 hag w (cs := ys) (o := f.offset) (by rw [h2]; exact q2)
  have p3 := run_eqCell (P := P) h3 w n q3
  have hn : f.name ≠ "_" := by simpa using h1
  have e1 : xs.getD d.1 undef = x := by rw [Array.getD_eq_getD_getElem?, q1]; rfl
  have e2 : ys.getD d.1 undef = y := by rw [Array.getD_eq_getD_getElem?, q2]; rfl
  rw [List.forIn_cons]
  simp only [hn, ne_eq, not_false_eq_true, if_true, Sem.run_bind, p1, p2, p3, Result.andThen_ok, List.all_cons, e1, e2]
  cases hb : eqV x y with
  | true =>
   simp only [Bool.not_true, Bool.false_eq_true, if_false, Sem.run_pure, Result.andThen_ok, Bool.true_and]
   exact ih
  | false => simp
theorem qgt {t : TypeId} {ds : List (Nat × TypeDesc)} [q : EqD P t ds] (w : World) (n : Nat) (xs ys : Array Value) (hd : ∀ d ∈ ds, ∃ x y, xs[d.1]? = some x ∧ ys[d.1]? = some y ∧ eqOk d.2 x y = true) :
  (Op.equalIn (n + 2) t (.agg xs) (.agg ys)).run P w = .ok (ds.all fun d => eqV (xs.getD d.1 undef) (ys.getD d.1 undef)) w := by
 obtain ⟨fs, h1, h2, _, h4⟩ := q.ex
 haveI : TyD P t (.struct fs.toArray) := ⟨h1⟩
 have key := qdt (P := P) w n xs ys fs ds h4 hd
 unfold Op.equalIn
 simp only [Sem.run_bind, TyD.run (t := t), Result.andThen_ok, run_program, h2, Bool.false_eq_true, if_false, List.forIn_toArray]
 generalize (ds.all fun d => eqV (xs.getD d.1 undef) (ys.getD d.1 undef)) = b at key ⊢
 simp only [ne_eq, ite_not] at key ⊢
 rw [key]
 cases b <;> simp
theorem VRel.eqInv {φ : Ren} {n : Nat} {d : TypeDesc} {x y c e : Value} (hok : eqOk d x y = true) (h1 : VRel φ n x c) (h2 : VRel φ n y e) : c = x ∧ e = y := by
 unfold eqOk at hok
 split at hok
 ·
  exact ⟨h1.string_inv, h2.string_inv⟩
 ·
  exact ⟨h1.int_inv, h2.int_inv⟩
 ·
  exact ⟨h1.bool_inv, h2.bool_inv⟩
 ·
  cases hok
def eqRows (ds : List (Nat × TypeDesc)) (xs ys : List Value) : Bool := ds.all fun d => eqV (xs.getD d.1 undef) (ys.getD d.1 undef)
def okRows (ds : List (Nat × TypeDesc)) (xs ys : List Value) : Bool := ds.all fun d => Nat.blt d.1 xs.length && Nat.blt d.1 ys.length && eqOk d.2 (xs.getD d.1 undef) (ys.getD d.1 undef)
theorem eqSt_run {t : TypeId} {ds : List (Nat × TypeDesc)} [q : EqD P t ds] {φ : Ren} {n : Nat} {xs ys : List Value} {c e : Value} (hok : okRows ds xs ys = true) (h1 : VRel φ n (.agg xs.toArray) c) (h2 : VRel φ n (.agg ys.toArray) e) (w : World) (x y : Operand) :
  ∃ cs es, c = .agg cs ∧ e = .agg es ∧ (∀ op, (eqGuard op t x y c e).run P w = .ok () w) ∧ (Op.equal t c e).run P w = .ok (eqRows ds xs ys) w := by
 obtain ⟨cs, rfl, s1, r1⟩ := h1.agg_inv
 obtain ⟨es, rfl, s2, r2⟩ := h2.agg_inv
 obtain ⟨fs, q1, q2, q3, q4⟩ := q.ex
 have key : ∀ d ∈ ds, cs[d.1]? = some (xs.getD d.1 undef) ∧ es[d.1]? = some (ys.getD d.1 undef) ∧ eqOk d.2 (xs.getD d.1 undef) (ys.getD d.1 undef) = true := by
  intro d hd
  have h3 := List.all_eq_true.1 hok d hd
  simp only [Bool.and_eq_true, Nat.blt_eq] at h3
  obtain ⟨⟨l1, l2⟩, h4⟩ := h3
  simp only [List.size_toArray] at s1 s2
  have u1 : xs.toArray[d.1]? = some (xs.getD d.1 undef) := by simp [l1]
  have u2 : ys.toArray[d.1]? = some (ys.getD d.1 undef) := by simp [l2]
  have v1 := r1 d.1 _ _ u1 (Array.getElem?_eq_getElem (by omega))
  have v2 := r2 d.1 _ _ u2 (Array.getElem?_eq_getElem (by omega))
  obtain ⟨e1, e2⟩ := VRel.eqInv h4 v1 v2
  exact ⟨by rw [Array.getElem?_eq_getElem (by omega), e1], by rw [Array.getElem?_eq_getElem (by omega), e2], h4⟩
 refine ⟨cs, es, rfl, rfl, fun op => ?_, ?_⟩
 ·
  simp [eqGuard, q3]
 ·
  have h5 := qgt (P := P) (t := t) w 9998 cs es fun d hd => ⟨_, _, (key d hd).1, (key d hd).2.1, (key d hd).2.2⟩
  have h6 : (ds.all fun d => eqV (cs.getD d.1 undef) (es.getD d.1 undef)) = eqRows ds xs ys := by
   unfold eqRows
   rw [Bool.eq_iff_iff, List.all_eq_true, List.all_eq_true]
   constructor
   ·
    intro h7 d hd
    have := h7 d hd
    rw [Array.getD_eq_getD_getElem?, Array.getD_eq_getD_getElem?, (key d hd).1, (key d hd).2.1] at this
    exact this
   ·
    intro h7 d hd
    rw [Array.getD_eq_getD_getElem?, Array.getD_eq_getD_getElem?, (key d hd).1, (key d hd).2.1]
    exact h7 d hd
  rw [h6] at h5
  exact h5
theorem op_neSt {t t' : TypeId} {x y : Operand} {ds : List (Nat × TypeDesc)} {xs ys : List Value} [q : EqD P t ds] (hx : ρ x = .agg xs.toArray) (hy : ρ y = .agg ys.toArray) (hok : okRows ds xs ys = true) (kk : K (.bool (!eqRows ds xs ys)) h) : AOp P ⟨dst, .binOp .neq t x y t', ty, pos, aft, g⟩ ρ h K :=
 .of_pure kk fun φ ac w r => by
  obtain ⟨cs, es, e1, e2, e3, e4⟩ := eqSt_run (P := P) (t := t) hok (hx ▸ r.ev x (by simp [Op.operands])) (hy ▸ r.ev y (by simp [Op.operands])) w x y
  have e3 := e3 .neq
  rw [e1, e2] at e3 e4
  exact ⟨_, by simp [execOp, e1, e2, e3, binOp, e4], .bool _⟩
theorem qdO {t t' : TypeId} {x y : Operand} {ds : List (Nat × TypeDesc)} {xs ys : List Value} {b : Bool} [q : EqD P t ds] (hx : ρ x = .agg xs.toArray) (hy : ρ y = .agg ys.toArray) (hok : okRows ds xs ys = true) (hb : eqRows ds xs ys = b) (kk : K (.bool (!b)) h) : AOp P ⟨dst, .binOp .neq t x y t', ty, pos, aft, g⟩ ρ h K :=
 op_neSt hx hy hok (by rw [hb]; exact kk)
theorem eqV_str (a b : List UInt8) : eqV (.string (bstr a)) (.string (bstr b)) = (a == b) := by
 simp only [eqV]
 rw [beq_toListBytes, qbx, qbx]
end
section
variable {P : Program} {ρ : Operand → Value} {h : Heap} {K : Value → Heap → Prop} {dst : Option Tmp} {ty : TypeId} {pos : String} {aft : Array Edge} {g : Option (Nat × Bool)}
theorem qaQ {op : BinOp} {t t' : TypeId} {x y : Operand} {k k' : IntKind} {a b : Int} {p : Prop} {ip : Decidable p} (hx : ρ x = .int k a) (hy : ρ y = .int k' b) (hv : binI op k a k' b = some (.bool (@decide p ip))) (kt : p → K (.bool true) h) (kf : ¬ p → K (.bool false) h) :
  AOp P ⟨dst, .binOp op t x y t', ty, pos, aft, g⟩ ρ h K := by
 by_cases hp : p
 ·
  exact qam hx hy hv hp (kt hp)
 ·
  exact qak hx hy hv hp (kf hp)
theorem qgI {t t' : TypeId} {x y : Operand} {a b : List UInt8} (hx : ρ x = .string (bstr a)) (hy : ρ y = .string (bstr b)) (kt : a = b → K (.bool true) h) (kf : ¬ a = b → K (.bool false) h) : AOp P ⟨dst, .binOp .eql t x y t', ty, pos, aft, g⟩ ρ h K := by
 by_cases hp : a = b
 ·
  exact qaO hx hy hp (kt hp)
 ·
  exact qaK hx hy hp (kf hp)
theorem qeV {t t' : TypeId} {x y : Operand} {a b : Bool} [ti : TyD P t .bool] (hx : ρ x = .bool a) (hy : ρ y = .bool b) (kt : a = b → K (.bool true) h) (kf : ¬ a = b → K (.bool false) h) : AOp P ⟨dst, .binOp .eql t x y t', ty, pos, aft, g⟩ ρ h K := by
 by_cases hp : a = b
 ·
  exact qb6 hx hy hp (kt hp)
 ·
  exact qd7 hx hy (by rw [beq_eq_false_iff_ne.2 hp]; exact kf hp)
theorem qaR {x : Operand} {f : FuncId} {fi ca : Array Value} {args : Array Operand} {aT : Array TypeId} [fc : FnC P f] {evs : List Value} {b : Bool} (hx : ρ x = .func (.func f) fi ca) (he : fi.toList ++ (args.toList.map ρ ++ ca.toList) = evs)
  (c : ACalls P f evs h fun u h' => u = .bool b ∧ h' = h) (kt : b = true → K (.bool true) h) (kf : b = false → K (.bool false) h) : AOp P ⟨dst, .call ⟨.value x, args, aT⟩, ty, pos, aft, g⟩ ρ h K := by
 refine qab hx he c ?_
 cases b with
 | true => exact kt rfl
 | false => exact kf rfl
theorem qdF {t : TypeId} {x : Operand} {i o : Nat} {s : Option Nat} {bl : Blk} {b : Bool} {d : TypeDesc} [td : TyD P t d] (hx : ρ x = .pointer (some ⟨i, o, s⟩)) (ha : aggB d = false) (hi : h.get i = some bl) (hv : bl.cells[o]? = some (.bool b))
  (kt : b = true → K (.bool true) h) (kf : b = false → K (.bool false) h) : AOp P ⟨dst, .load t x, ty, pos, aft, g⟩ ρ h K := by
 refine qaf hx ha hi hv ?_
 cases b with
 | true => exact kt rfl
 | false => exact kf rfl
theorem qaE {t e : TypeId} {x y : Operand} {H : Heap} {sz by_ : Nat} {z : Value} {s : Option Nat} {old vs : List Value} [ti : TyI P t sz by_ z] (hx : ρ x = .pointer (some ⟨H.next, 0, s⟩)) (hy : ρ y = .agg vs.toArray) (hsz : vs.length = sz) (ho : old.length = sz) (h1 : vs.all oneB = true)
  (kk : K undef (H.alloc ⟨vs, e, true⟩)) : AOp P ⟨dst, .store t x y, ty, pos, aft, g⟩ ρ (H.alloc ⟨old, e, true⟩) K := by
 refine qbd (vs := vs.toArray) hx hy (by simpa using h1) (by simpa using hsz) (Heap.alloc_new _ _) rfl (by show 0 + sz ≤ old.length; omega) ?_
 have e1 : splice old 0 vs = vs := by
  unfold splice
  rw [List.drop_of_length_le (by omega)]
  simp
 show K undef ((H.alloc ⟨old, e, true⟩).set H.next ⟨splice old 0 vs, e, true⟩)
 rw [e1, Heap.set_alloc]
 exact kk
theorem qej {t e : TypeId} {x y : Operand} {H : Heap} {by_ : Nat} {z u v : Value} {s : Option Nat} [ti : TyI P t 1 by_ z] (hx : ρ x = .pointer (some ⟨H.next, 0, s⟩)) (hy : ρ y = v) (h1 : oneB v = true)
  (kk : K undef (H.alloc ⟨[v], e, true⟩)) : AOp P ⟨dst, .store t x y, ty, pos, aft, g⟩ ρ (H.alloc ⟨[u], e, true⟩) K := by
 refine qau (b := ⟨[u], e, true⟩) hx hy h1 (Heap.alloc_new _ _) rfl (by show 0 < 1; omega) ?_
 show K undef ((H.alloc ⟨[u], e, true⟩).set H.next ⟨[v], e, true⟩)
 rw [Heap.set_alloc]
 exact kk
end
def allR : Nat → Nat → List (Nat × Kd)
 | _, 0 => []
 | k, n + 1 => (k, .R) :: allR (k + 1) n
section
variable {P : Program} {N : Nat} {ops : Array Oper} {Q : Exit → Env → Heap → Prop} {env : Env} {h : Heap}
theorem AWp.drawR {id : Nat} (hm : P.follows .mixedOrders = true) (hb : drawB ops (allR 0 ops.size) = true) (p : DAL P N ops Q (allR 0 ops.size) env h) : AWp P N (.region id ops true) Q env h := .draw hm hb p
variable {σ : List (Nat × Kd)} {i : Nat} {d : Tmp} {op : Op} {ty : TypeId} {pos : String} {aft : Array Edge} {g : Option (Nat × Bool)}
theorem DAL.rP {p : Prop} {ip : Decidable p} (ho : ops[i]? = some ⟨some d, op, ty, pos, aft, g⟩) (hd : Nat.blt d N = true) (hg : gv ops env ⟨some d, op, ty, pos, aft, g⟩ = some true) (hv : ∀ h', Ext h h' → h.next ≤ h'.next → AOp P ⟨some d, op, ty, pos, aft, g⟩ (ev P env) h' fun v' h'' => v' = .bool (@decide p ip) ∧ h'' = h')
  (kt : p → DAL P N ops Q σ ((d, .bool true) :: env) h) (kf : ¬ p → DAL P N ops Q σ ((d, .bool false) :: env) h) : DAL P N ops Q ((i, .R) :: σ) env h := by
 by_cases hp : p
 ·
  exact .r ho hd hg (by rw [decide_eq_true hp] at hv; exact hv) (kt hp)
 ·
  exact .r ho hd hg (by rw [decide_eq_false hp] at hv; exact hv) (kf hp)
theorem DAL.rB {b : Bool} (ho : ops[i]? = some ⟨some d, op, ty, pos, aft, g⟩) (hd : Nat.blt d N = true) (hg : gv ops env ⟨some d, op, ty, pos, aft, g⟩ = some true) (hv : ∀ h', Ext h h' → h.next ≤ h'.next → AOp P ⟨some d, op, ty, pos, aft, g⟩ (ev P env) h' fun v' h'' => v' = .bool b ∧ h'' = h')
  (kt : b = true → DAL P N ops Q σ ((d, .bool true) :: env) h) (kf : b = false → DAL P N ops Q σ ((d, .bool false) :: env) h) : DAL P N ops Q ((i, .R) :: σ) env h := by
 cases b with
 | true => exact .r ho hd hg hv (kt rfl)
 | false => exact .r ho hd hg hv (kf rfl)
end
section
variable {P : Program} {ρ : Operand → Value} {h : Heap} {K : Value → Heap → Prop} {dst : Option Tmp} {ty : TypeId} {pos : String} {aft : Array Edge} {g : Option (Nat × Bool)}
theorem qhK (s : List UInt8) : (bstr s).data.toList = s := by simp [bstr]
theorem qhW {sT dT e : TypeId} {x : Operand} {s : List UInt8} [ts : TyD P sT .string] [te : TyD P e (.int .u8)] [td : TyD P dT (.slice e)] (hx : ρ x = .string (bstr s)) (hs : s.length ≤ maxLen)
  (kk : K (.slice (some ⟨h.next, 0, some 1⟩) s.length (s.length + 1)) (h.alloc ⟨bv s, e, true⟩)) : AOp P ⟨dst, .convert sT dT x, ty, pos, aft, g⟩ ρ h K := by
 refine qhh hx (by rw [bstr_size]; exact hs) ?_
 rw [bstr_size, qhK]
 exact kk
theorem qa7 {t kt et : TypeId} {x y : Operand} {i esz eb clock : Nat} {z u : Value} {s : List UInt8} {l : KV} [td : TyD P t (.map kt et)] [tk : TyD P kt .string] [te : TyI P et esz eb z] (hx : ρ x = .map (some i)) (hy : ρ y = .string (bstr s)) (hi : h.obj i = some (.map (ents l) clock)) (hz : plainV z = true)
  (he : (getS l s).getD z = u) (kk : K u h) : AOp P ⟨dst, .lookup t x y false, ty, pos, aft, g⟩ ρ h K := op_lookup hx hy hi hz (he ▸ kk)
end
end Go.Eng
/- . -/
namespace Go.Proofs.YtigmojilaadbhaaGreatDoor
open Go Go.Eng Go.Pln Go.Lib
attribute [local irreducible] AWp AL DAL AOp
instance i_copyCheck : FnC Tryz.prog 115 := ⟨Tryz.f115, Tryz.func115, by kernel_rfl, by kernel_rfl⟩
instance i_writeByte : FnC Tryz.prog 125 := ⟨Tryz.f125, Tryz.func125, by kernel_rfl, by kernel_rfl⟩
instance i_writeString : FnC Tryz.prog 82 := ⟨Tryz.f82, Tryz.func82, by kernel_rfl, by kernel_rfl⟩
instance i_bString : FnC Tryz.prog 84 := ⟨Tryz.f84, Tryz.func84, by kernel_rfl, by kernel_rfl⟩
instance qea : XtC Tryz.prog 147 Extern.AbiNoEscape.same := ⟨Tryz.f147, by kernel_rfl, by kernel_rfl, by kernel_rfl, by kernel_rfl, by kernel_rfl⟩
instance qfj : TyD Tryz.prog 127 (.pointer 129) := ⟨Tryz.underlying127⟩
instance qfk : TyI Tryz.prog 127 1 8 (.pointer none) := ⟨qaT (by kernel_rfl), rfl, rfl⟩
instance qgx : TyD Tryz.prog 193 .unsafePointer := ⟨Tryz.underlying193⟩
instance i_TyD_P_uint8 : TyD Tryz.prog 168 (.pointer 5) := ⟨Tryz.underlying168⟩
instance qfW : TyI Tryz.prog 129 2 32 (.agg #[.pointer none, .slice none 0 0]) := ⟨qaT (by kernel_rfl), rfl, rfl⟩
instance qeB : FAd Tryz.prog 129 0 0 := FAd.mk' (ft := 127) Tryz.underlying129 rfl rfl rfl rfl
instance qeD : FAd Tryz.prog 129 1 1 := FAd.mk' (ft := 27) Tryz.underlying129 rfl rfl rfl rfl
abbrev bldB (ap sv : Value) : Blk := ⟨[ap, sv], 129, true⟩
structure Bd (h0 h : Heap) (b : Nat) (l : Bytes) : Prop where
 ex : ∃ ap sv, h.get b = some (bldB ap sv) ∧ (ap = .pointer none ∨ ap = ptr b) ∧ OS h0.next h 5 sv (bv l) ∧ (∀ s n c, sv ≠ .slice (some ⟨b, 0, s⟩) n c) ∧ (l = [] → sv = .slice none 0 0)
 hx : Ext h0 h
 wf : WF h
 wf0 : WF h0
 lo : h0.next ≤ b
theorem Bd.new {h : Heap} (wf : WF h) : Bd h (h.alloc (bldB (.pointer none) (.slice none 0 0))) h.next [] :=
 ⟨⟨_, _, Heap.alloc_new _ _, .inl rfl, OS.nil _ _ _, (fun s n c e => by cases e), fun _ => rfl⟩, wf.ext _, wf.alloc _, wf, Nat.le_refl _⟩
theorem qd1 {h0 h : Heap} {b : Nat} {l : Bytes} (d : Bd h0 h b l) : ACalls Tryz.prog 115 [ptr b] h fun _ h' => ∃ sv, h' = h.set b (bldB (ptr b) sv) ∧ ∃ ap, h.get b = some (bldB ap sv) := by
 obtain ⟨ap, sv, hg, hap, ho, hne, hnil⟩ := d.ex
 refine ACalls.body Tryz.func115 rfl rfl ?_
 rcases hap with rfl | rfl
 ·
  repeat (first | refine W.w ?_ | refine AWp.c8 rfl ?_ | refine AL.eff rfl (qau (v := ptr b) rfl rfl rfl hg rfl (by show 0 < 2; omega) ?_) | (refine zz rfl ?_; first | refine qay rfl ?_ | refine qaC rfl ?_ | refine qao rfl ?_ | refine qaf rfl rfl hg rfl ?_ | refine qd9 rfl rfl ?_ | refine op_toUns rfl rfl hg rfl (by show 0 < 2; omega) ?_ | refine qgR rfl rfl ?_ | refine op_fromUns rfl rfl hg rfl rfl (by show 2 ≤ 2; omega) ?_))
  exact ⟨_, ResV.none rfl, sv, rfl, _, hg⟩
 ·
  repeat (first | refine W.w ?_ | refine AWp.c9 rfl ?_ | (refine zz rfl ?_; first | refine qay rfl ?_ | refine qaC rfl ?_ | refine qao rfl ?_ | refine qaf rfl rfl hg rfl ?_ | refine qd9 rfl rfl ?_ | refine qfU rfl rfl ?_))
  refine ⟨_, ResV.none rfl, sv, ?_, _, hg⟩
  have e : (h.set b (bldB (ptr b) sv)).get = h.get := by
   funext j
   simp only [Heap.set]
   split
   ·
    rename_i e; rw [e]; exact hg.symm
   ·
    rfl
  show h = ⟨(h.set b (bldB (ptr b) sv)).get, h.next, h.obj⟩
  rw [e]
theorem Bd.step {h0 h h' : Heap} {b : Nat} {l l' : Bytes} {u u' : Value} (d : Bd h0 h b l) (hu : h.get b = some (bldB (ptr b) u)) (_hne : ∀ s n c, u ≠ .slice (some ⟨b, 0, s⟩) n c) (r : OS h0.next h 5 u (bv l)) (o : OS h0.next h' 5 u' (bv l')) (k : Keeps u h h') (wf' : WF h') (hfr : ∀ s n c, u' ≠ .slice (some ⟨b, 0, s⟩) n c) (hnl : l' ≠ []) (hn : h.next ≤ h'.next) :
  Bd h0 (h'.set b (bldB (ptr b) u')) b l' := by
 have lb := d.wf.lt hu
 refine ⟨⟨ptr b, u', Heap.set_at _ _ _, .inr rfl, ?_, hfr, fun e => absurd e hnl⟩, ?_, wf'.set (by omega) _, d.wf0, d.lo⟩
 ·
  rcases o with ⟨rfl, e⟩ | ⟨i, c, h1, rfl, h2⟩
  ·
   exact .inl ⟨rfl, e⟩
  ·
   exact .inr ⟨i, c, h1, rfl, (Heap.set_other fun e => hfr (some 1) _ c (by rw [e])).trans h2⟩
 ·
  exact d.wf0.ext_set (k.ext r d.wf0 (Nat.le_refl _) d.hx) d.lo _
theorem bs_src (h : Heap) (s : Bytes) : Src h 1 (str s) s.length (bv s) := by
 have := Src.str (h := h) (sz := 1) (bstr s) rfl
 rw [Go.Eng.bstr_size, qhK] at this
 exact this
theorem Bd.mark {h0 h : Heap} {b : Nat} {l : Bytes} (d : Bd h0 h b l) {sv ap : Value} (hg : h.get b = some (bldB ap sv)) : Bd h0 (h.set b (bldB (ptr b) sv)) b l ∧ OS h0.next (h.set b (bldB (ptr b) sv)) 5 sv (bv l) ∧ (∀ s n c, sv ≠ .slice (some ⟨b, 0, s⟩) n c) ∧ (l = [] → sv = .slice none 0 0) := by
 obtain ⟨ap', sv', hg', hap, ho, hne, hnil⟩ := d.ex
 rw [hg] at hg'
 cases hg'
 have o2 : OS h0.next (h.set b (bldB (ptr b) sv)) 5 sv (bv l) := by
  rcases ho with ⟨rfl, e⟩ | ⟨i, c, h1, rfl, h2⟩
  ·
   exact .inl ⟨rfl, e⟩
  ·
   exact .inr ⟨i, c, h1, rfl, (Heap.set_other fun e => hne (some 1) _ c (by rw [e])).trans h2⟩
 have lb := d.wf.lt hg
 exact ⟨⟨⟨ptr b, sv, Heap.set_at _ _ _, .inr rfl, o2, hne, hnil⟩, d.wf0.ext_set d.hx d.lo _, d.wf.set lb _, d.wf0, d.lo⟩, o2, hne, hnil⟩
theorem OS.free {B : Nat} {h h' : Heap} {e : TypeId} {u u' : Value} {vs' : List Value} {b : Nat} {x : Blk} (k : Keeps u h h') (o : OS B h' e u' vs') (hb : h.get b = some x) (hne : ∀ s n c, u ≠ .slice (some ⟨b, 0, s⟩) n c) (hx : x.elem ≠ e) : ∀ s n c, u' ≠ .slice (some ⟨b, 0, s⟩) n c := by
 intro s n c e1
 rcases o with ⟨rfl, _⟩ | ⟨i, c', _, rfl, h2⟩
 ·
  cases e1
 ·
  cases e1
  rw [k.c b x hb hne] at h2
  cases h2
  exact hx rfl
theorem writeStr_c {h0 h : Heap} {b : Nat} {l : Bytes} (d : Bd h0 h b l) (s : Bytes) (hs0 : ¬ s = []) (hl : l.length + s.length ≤ 140737488351232) : ACalls Tryz.prog 82 [ptr b, str s] h fun u h' => u = .tuple #[.int .i64 (s.length : Nat), .nilIface] ∧ Bd h0 h' b (l ++ s) := by
 refine ACalls.body Tryz.func82 rfl rfl ?_
 repeat (first | refine W.w ?_ | (refine zz rfl ?_; first | refine qay rfl ?_ | refine qad rfl ?_ | refine qar rfl rfl ((qd1 d).mono ?_) | refine qaq (by conv => lhs; whnf) ?_))
 rintro _ H1 ⟨sv, rfl, ap, hg⟩
 obtain ⟨d1, o1, hne, hnil⟩ := d.mark hg
 have g1 : (h.set b (bldB (ptr b) sv)).get b = some (bldB (ptr b) sv) := Heap.set_at _ _ _
 generalize h.set b (bldB (ptr b) sv) = H1 at d1 o1 g1 ⊢
 repeat (first | refine W.w ?_ | (refine zz rfl ?_; first | refine qay rfl ?_ | refine qai rfl ?_ | refine qaC rfl ?_ | refine qao rfl ?_ | refine qaf rfl rfl g1 rfl ?_))
 refine zz rfl (qa6 (z := .int .u8 0) (B := h0.next) (e := 5) rfl d1.wf (Nat.le_trans d1.lo (Nat.le_of_lt (d1.wf.lt g1))) o1 rfl rfl (bs_src _ s) (qaz s) (qcC s) (by rw [qaz]; simp only [maxLen]; omega) (by rw [qaz]; omega) ?_)
 intro u' H2 o2 k2 wf2 n2
 rw [← qbK] at o2
 have g2 := k2.c b _ g1 hne
 have hfr := OS.free k2 o2 g1 hne (Nat.ne_of_beq_eq_false rfl)
 have d2 := d1.step g1 hne o1 o2 k2 wf2 hfr (by simp [hs0]) n2
 repeat (first | refine W.w ?_ | refine AL.eff rfl (qau (v := u') rfl rfl (OS.rs o2).one.1 g2 rfl (by show 1 < 2; omega) ?_) | (refine zz rfl ?_; first | refine qai rfl ?_ | refine qad rfl ?_ | refine qaC rfl ?_ | refine qao rfl ?_ | refine qaI rfl ?_ | refine qaq (by conv => lhs; whnf) ?_))
 exact ⟨_, ResV.tmp2 rfl, rfl, d2⟩
theorem qgO {h0 h : Heap} {b : Nat} {l : Bytes} (d : Bd h0 h b l) (s : UInt8) (hl : l.length + 1 ≤ 140737488351232) : ACalls Tryz.prog 125 [ptr b, .int .u8 (s.toNat : Int)] h fun u h' => u = .nilIface ∧ Bd h0 h' b (l ++ [s]) := by
 refine ACalls.body Tryz.func125 rfl rfl ?_
 repeat (first | refine W.w ?_ | (refine zz rfl ?_; first | refine qay rfl ?_ | refine qar rfl rfl ((qd1 d).mono ?_) | refine qaq (by conv => lhs; whnf) ?_))
 rintro _ H1 ⟨sv, rfl, ap, hg⟩
 obtain ⟨d1, o1, hne, hnil⟩ := d.mark hg
 have g1 : (h.set b (bldB (ptr b) sv)).get b = some (bldB (ptr b) sv) := Heap.set_at _ _ _
 generalize h.set b (bldB (ptr b) sv) = H1 at d1 o1 g1 ⊢
 repeat (first | refine W.w ?_ | (refine zz rfl ?_; first | refine qac rfl ?_ | refine qay rfl ?_ | refine qaC rfl ?_ | refine qao rfl ?_ | refine qaf rfl rfl g1 rfl ?_ | refine qaN (bv [s]) rfl rfl rfl rfl (qcl _) ?_))
 obtain ⟨H3, hQ, gr, xr, wr, _⟩ := aq d1.wf ⟨bv [s], 5, true⟩
 rw [hQ]
 have d3 : Bd h0 H3 b l := ⟨⟨ptr b, sv, xr.c _ _ g1, .inr rfl, o1.ext xr, hne, hnil⟩, d1.hx.trans xr, wr, d1.wf0, d1.lo⟩
 have g3 := xr.c _ _ g1
 have o3 := o1.ext xr
 have rb : RB H3 (.slice (some ⟨H1.next, 0, some 1⟩) 1 1) [s] := RS.own gr rfl
 refine zz rfl (qa6 (z := .int .u8 0) (B := h0.next) (e := 5) rfl wr (Nat.le_trans d3.lo (Nat.le_of_lt (wr.lt g3))) o3 rfl rfl rb.src (qaz _) (qcC _) (by rw [qaz]; simp only [maxLen, List.length_cons, List.length_nil]; omega) (by rw [qaz]; simp only [List.length_cons, List.length_nil]; omega) ?_)
 intro u' H2 o2 k2 wf2 n2
 rw [← qbK] at o2
 have g2 := k2.c b _ g3 hne
 have hfr := OS.free k2 o2 g3 hne (Nat.ne_of_beq_eq_false rfl)
 have d2 := d3.step g3 hne o3 o2 k2 wf2 hfr (by simp) n2
 repeat (first | refine W.w ?_ | refine AL.eff rfl (qau (v := u') rfl rfl (OS.rs o2).one.1 g2 rfl (by show 1 < 2; omega) ?_) | (refine zz rfl ?_; first | refine qaC rfl ?_ | refine qao rfl ?_ | refine qaq (by conv => lhs; whnf) ?_))
 exact ⟨_, ResV.tmp rfl, rfl, d2⟩
theorem bString_c {h0 h : Heap} {b : Nat} {l : Bytes} (d : Bd h0 h b l) (hl : l.length ≤ 140737488351232) : ACalls Tryz.prog 84 [ptr b] h fun u h' => u = str l ∧ Ext h0 h' := by
 obtain ⟨ap, sv, hg, hap, ho, hne, hnil⟩ := d.ex
 refine ACalls.body Tryz.func84 rfl rfl ?_
 have hx0 := d.hx
 rcases ho with ⟨rfl, e⟩ | ⟨i, c, h1, rfl, h2⟩
 ·
  have hl0 : l = [] := by simpa [bv] using e
  subst hl0
  repeat (first | refine W.w ?_ | refine zz rfl (qag rfl ?_))
  refine AWp.draw (σ := [(0, .R), (1, .R), (2, .R), (3, .R), (4, .R), (5, .R), (6, .R), (7, .R), (8, .R), (9, .R), (10, .R), (11, .R)]) mixed (by kernel_rfl) ?_
  repeat (first | refine DAL.r rfl rfl rfl (fun h' hx hn => qay rfl ⟨rfl, rfl⟩) ?_ | refine DAL.r rfl rfl rfl (fun h' hx hn => qag rfl ⟨rfl, rfl⟩) ?_ | refine DAL.r rfl rfl rfl (fun h' hx hn => qaC rfl ⟨rfl, rfl⟩) ?_ | refine DAL.r rfl rfl rfl (fun h' hx hn => qao rfl ⟨rfl, rfl⟩) ?_ | refine DAL.r rfl rfl rfl (fun h' hx hn => qaf rfl rfl (hx.c _ _ hg) rfl ⟨rfl, rfl⟩) ?_ | refine DAL.r rfl rfl rfl (fun h' hx hn => qg2 rfl ⟨rfl, rfl⟩) ?_ | refine DAL.r rfl rfl rfl (fun h' hx hn => op_unsStr0 rfl rfl ⟨rfl, rfl⟩) ?_ | refine DAL.r rfl rfl rfl (fun h' hx hn => qca rfl ⟨rfl, rfl⟩) ?_)
  refine DAL.nil ?_
  repeat (first | refine AWp.ret ?_)
  exact ⟨_, ResV.tmp rfl, rfl, hx0⟩
 ·
  have hl0 : ¬ l = [] := fun e => by have := hnil e; cases this
  have hp : 0 < l.length := List.length_pos_iff.2 hl0
  have rb : RB h (.slice (some ⟨i, 0, some 1⟩) (bv l).length c) l := RS.own h2 rfl
  repeat (first | refine W.w ?_ | refine zz rfl (qag rfl ?_))
  refine AWp.draw (σ := [(0, .R), (1, .R), (2, .R), (3, .R), (4, .R), (5, .R), (6, .R), (7, .R), (8, .R), (9, .R), (10, .W), (11, .R)]) mixed (by kernel_rfl) ?_
  repeat (first | refine DAL.r rfl rfl rfl (fun h' hx hn => qay rfl ⟨rfl, rfl⟩) ?_ | refine DAL.r rfl rfl rfl (fun h' hx hn => qaC rfl ⟨rfl, rfl⟩) ?_ | refine DAL.r rfl rfl rfl (fun h' hx hn => qao rfl ⟨rfl, rfl⟩) ?_ | refine DAL.r rfl rfl rfl (fun h' hx hn => qaf rfl rfl (hx.c _ _ hg) rfl ⟨rfl, rfl⟩) ?_ | refine DAL.r rfl rfl rfl (fun h' hx hn => op_unsData rfl (by rw [qaz]; exact hp) ⟨rfl, rfl⟩) ?_ | refine DAL.r rfl rfl rfl (fun h' hx hn => qaJ (rb.ext hx) rfl ⟨rfl, rfl⟩) ?_)
  refine DAL.w rfl rfl rfl (qf0 (l := l) rfl rfl hl0 (by omega) h2 ?_)
  repeat (first | refine DAL.r rfl rfl rfl (fun h' hx hn => qag rfl ⟨rfl, rfl⟩) ?_)
  refine DAL.nil ?_
  repeat (first | refine AWp.ret ?_)
  refine ⟨_, ResV.tmp rfl, rfl, ⟨fun j x hj => ?_, hx0.o⟩⟩
  have hlt := d.wf0.lt hj
  simp only [Heap.kill]
  rw [if_neg (by omega)]
  exact hx0.c j x hj
def wordHex : Bytes := [48, 49, 50, 51, 52, 53, 54, 55, 56, 57, 65, 66, 67, 68, 69, 70]
instance i_word : FnC Tryz.prog 93 := ⟨Tryz.f93, Tryz.func93, by kernel_rfl, by kernel_rfl⟩
theorem op_shr4 {ρ : Operand → Value} {h : Heap} {K : Value → Heap → Prop} {dst : Option Tmp} {ty : TypeId} {pos : String} {aft : Array Edge} {g : Option (Nat × Bool)} {t t' : TypeId} {x y : Operand} {c : UInt8} (hx : ρ x = .int .u8 (c.toNat : Int)) (hy : ρ y = .int .u64 4) (kk : K (.int .u8 ((c.toNat / 16 : Nat) : Int)) h) :
  AOp Tryz.prog ⟨dst, .binOp .shr t x y t', ty, pos, aft, g⟩ ρ h K := by
 refine qaX hx hy (v := .int .u8 ((c.toNat / 16 : Nat) : Int)) ?_ kk
 show some (Value.int .u8 (Int.fdiv (c.toNat : Int) 16)) = _
 refine congrArg some (congrArg (Value.int .u8) ?_)
 rw [Int.fdiv_eq_ediv_of_nonneg _ (by omega)]
 omega
theorem and15 : ∀ n : Fin 256, (BitVec.ofInt 8 (n.val : Int) &&& BitVec.ofInt 8 15).toNat = n.val % 16 := by decide +kernel
theorem qh5 {ρ : Operand → Value} {h : Heap} {K : Value → Heap → Prop} {dst : Option Tmp} {ty : TypeId} {pos : String} {aft : Array Edge} {g : Option (Nat × Bool)} {t t' : TypeId} {x y : Operand} {c : UInt8} (hx : ρ x = .int .u8 (c.toNat : Int)) (hy : ρ y = .int .u8 15) (kk : K (.int .u8 ((c.toNat % 16 : Nat) : Int)) h) :
  AOp Tryz.prog ⟨dst, .binOp .and t x y t', ty, pos, aft, g⟩ ρ h K := by
 refine qaX hx hy (v := .int .u8 ((c.toNat % 16 : Nat) : Int)) ?_ kk
 have e := and15 ⟨c.toNat, c.toNat_lt⟩
 show some (Value.int .u8 (IntKind.u8.wrap ((BitVec.ofInt 8 (c.toNat : Int) &&& BitVec.ofInt 8 15).toNat : Int))) = _
 rw [e]
 refine congrArg some (congrArg (Value.int .u8) ?_)
 have e2 : ∀ z : Int, IntKind.u8.wrap z = z % 256 := fun _ => rfl
 rw [e2]
 show (((c.toNat % 16 : Nat) : Int)) % 256 = _
 omega
theorem hex_at : ∀ n : Fin 16, (((wordHex.take (16 : Int).toNat).drop ((n.val : Nat) : Int).toNat).take (1 : Int).toNat).drop (0 : Int).toNat = [hexC n.val] := by decide +kernel
theorem enc_len (c : UInt8) : (encB c).length ≤ 3 := by unfold encB; split <;> simp
theorem qcS (l : Bytes) : (l.flatMap encB).length ≤ 3 * l.length := by
 induction l with
 | nil => simp
 | cons c l ih =>
  have := enc_len c
  simp only [List.flatMap_cons, List.length_append, List.length_cons]
  omega
theorem qcU {α β : Type} {f : α → List β} {l : List α} {k : Nat} {x : α} (hx : l[k]? = some x) : (l.take (k + 1)).flatMap f = (l.take k).flatMap f ++ f x := by
 rw [List.take_add_one, hx]
 simp
theorem bvAt {l : Bytes} {k : Nat} {c : UInt8} (hc : l[k]? = some c) {a : Int} (ha : a = (k : Nat)) : (bv l)[a.toNat]? = some (.int .u8 (c.toNat : Int)) := by
 subst ha
 exact qfG l k c hc
theorem word_c (v : Value) (l : Bytes) (h : Heap) (r : RB h v l) (hl : l.length ≤ 100000000) : ACalls Tryz.prog 93 [v] h fun u h' => u = str (wordM l) ∧ h' = h := by
 refine ACalls.wf fun wf => ACalls.reset ?_
 refine ACalls.body Tryz.func93 rfl rfl ?_
 obtain ⟨va, vc, hv⟩ := RS.slice r
 by_cases h0 : l.length = 0
 ·
  have hl0 : l = [] := List.length_eq_zero_iff.1 h0
  repeat (first | refine W.w ?_ | refine AWp.c8 rfl ?_ | (refine zz rfl ?_; first | refine qag rfl ?_ | refine qaJ r rfl ?_ | refine qam rfl rfl rfl (by omega) ?_ | refine qal (by conv => lhs; whnf) ?_))
  refine ⟨_, ResV.tmp rfl, rfl, Ext.refl h, ?_, rfl⟩
  rw [hl0]
  rfl
 ·
  have hne : ¬ l = [] := fun e => h0 (by rw [e]; rfl)
  repeat (first | refine W.w ?_ | refine AWp.c9 rfl ?_ | (refine zz rfl ?_; first | refine qag rfl ?_ | refine qaJ r rfl ?_ | refine qak rfl rfl rfl (by omega) ?_ | refine qaw ?_ | refine qal (v := v) rfl ?_))
  have d0 : Bd h (h.alloc (bldB (.pointer none) (.slice none 0 0))) h.next [] := Bd.new wf
  have rx := wf.ext (bldB (.pointer none) (.slice none 0 0))
  refine AL.heap (h := h.alloc (bldB (.pointer none) (.slice none 0 0))) rfl ?_
  generalize h.alloc (bldB (.pointer none) (.slice none 0 0)) = H0 at d0 rx ⊢
  repeat (first | refine W.w ?_ | refine zz rfl (qac rfl ?_) | refine zz rfl (qaJ (r.ext rx) rfl ?_))
  refine AWp.loop (α := Nat × Heap) (fun d => [(3, ptr h.next), (9, v), (10, .int .i64 (l.length : Nat)), (11, .int .i64 (d.1 : Nat))]) (fun d => d.2) (fun d => d.1 ≤ l.length ∧ Bd h d.2 h.next ((l.take d.1).flatMap encB)) (fun d => l.length - d.1) (0, H0) ⟨Nat.zero_le _, d0⟩
   (Weak.same (EW.cons rfl (EW.cons rfl (EW.cons rfl (EW.cons rfl EW.nil))))) ?_
  rintro ⟨k, H⟩ ⟨hk, d⟩
  replace hk : k ≤ l.length := hk
  replace d : Bd h H h.next ((l.take k).flatMap encB) := d
  show AWp _ _ _ _ [(3, ptr h.next), (9, v), (10, .int .i64 (l.length : Nat)), (11, .int .i64 (k : Nat))] H
  have hlen := qcS (l.take k)
  rw [List.length_take] at hlen
  by_cases hlt : k < l.length
  ·
   obtain ⟨ch, hc⟩ : ∃ ch, l[k]? = some ch := ⟨_, List.getElem?_eq_getElem hlt⟩
   have hft := qcU (f := encB) hc
   repeat (first | refine W.w ?_ | refine AWp.c8 rfl ?_ | refine zz rfl (qam rfl rfl rfl (by omega) ?_) | refine zz rfl (qbg (r.ext d.hx) rfl rfl (by omega) (bvAt hc rfl) ?_))
   intro p hp
   by_cases hp1 : plainC ch = true
   ·
    have he := qco hp1
    obtain ⟨q1, q2, q3⟩ : 32 < ch.toNat ∧ ch.toNat < 127 ∧ ch.toNat ≠ 37 := of_decide_eq_true hp1
    have cw := qgO d ch (by omega)
    rw [← he] at cw
    repeat (first | refine W.w ?_ | refine AWp.c8 rfl ?_ | (refine zz rfl ?_; first | refine qac rfl ?_ | refine qae rfl ?_ | refine qad rfl ?_ | refine qat hp rfl rfl ?_ | refine qam rfl rfl rfl (by omega) ?_ | refine qah (v := .bool _) rfl rfl ?_ | refine qar rfl rfl (cw.mono ?_)))
    rintro _ H' ⟨rfl, d'⟩
    repeat (first | refine W.w ?_ | refine zz rfl (qac rfl ?_) | refine zz rfl (qas rfl rfl (by omega) ?_))
    exact ⟨(k + 1, H'), ⟨hlt, by show Bd h H' h.next ((l.take (k + 1)).flatMap encB); rw [hft]; exact d'⟩, by show l.length - (k + 1) < l.length - k; omega, Weak.same (EW.cons rfl (EW.cons rfl (EW.cons rfl (EW.cons rfl EW.nil))))⟩
   ·
    have he := qdU hp1
    have hp2 : ¬ (32 < ch.toNat ∧ ch.toNat < 127 ∧ ch.toNat ≠ 37) := fun e => hp1 (decide_eq_true e)
    have lc := ch.toNat_lt
    have hA := hex_at ⟨ch.toNat / 16, by omega⟩
    have hB := hex_at ⟨ch.toNat % 16, by omega⟩
    have cw := writeStr_c d (encB ch) (by rw [he]; simp) (by have := enc_len ch; omega)
    rw [he] at cw
    have hstr : str ([37] ++ (((wordHex.take (16 : Int).toNat).drop ((ch.toNat / 16 : Nat) : Int).toNat).take (1 : Int).toNat).drop (0 : Int).toNat ++ (((wordHex.take (16 : Int).toNat).drop ((ch.toNat % 16 : Nat) : Int).toNat).take (1 : Int).toNat).drop (0 : Int).toNat) = str [37, hexC (ch.toNat / 16), hexC (ch.toNat % 16)] := by
     have hA' : (((wordHex.take (16 : Int).toNat).drop ((ch.toNat / 16 : Nat) : Int).toNat).take (1 : Int).toNat).drop (0 : Int).toNat = [hexC (ch.toNat / 16)] := hA
     have hB' : (((wordHex.take (16 : Int).toNat).drop ((ch.toNat % 16 : Nat) : Int).toNat).take (1 : Int).toNat).drop (0 : Int).toNat = [hexC (ch.toNat % 16)] := hB
     rw [hA', hB']
     rfl
    repeat' (first | refine W.w ?_ | refine AL.skip rfl rfl ?_ | refine AWp.c9 rfl ?_ | (refine zz rfl ?_; first | refine qac rfl ?_ | refine qae rfl ?_ | refine qad rfl ?_ | refine qat hp rfl rfl ?_ | refine qak rfl rfl rfl (by omega) ?_ | refine qaQ rfl rfl rfl (fun c => ?_) (fun c => ?_) | refine qah (v := .bool _) rfl rfl ?_))
    all_goals first | (exfalso; omega) | skip
    all_goals (
     refine AWp.draw (σ := [(0, .R), (1, .R), (2, .R), (3, .R), (4, .R), (5, .R), (6, .R), (7, .R), (8, .R), (9, .R), (10, .W)]) mixed (by kernel_rfl) ?_
     repeat (first | refine DAL.r rfl rfl rfl (fun h' hx hn => qac rfl ⟨rfl, rfl⟩) ?_ | refine DAL.r rfl rfl rfl (fun h' hx hn => op_shr4 rfl rfl ⟨rfl, rfl⟩) ?_ | refine DAL.r rfl rfl rfl (fun h' hx hn => qh5 rfl rfl ⟨rfl, rfl⟩) ?_ | refine DAL.r rfl rfl rfl (fun h' hx hn => qbo (s := wordHex) (l := ((ch.toNat / 16 : Nat) : Int)) (m := 16) rfl rfl rfl (by omega) (by omega) (by show (16 : Int) ≤ ((16 : Nat) : Int); omega) ⟨rfl, rfl⟩) ?_ | refine DAL.r rfl rfl rfl (fun h' hx hn => qbo (s := wordHex) (l := ((ch.toNat % 16 : Nat) : Int)) (m := 16) rfl rfl rfl (by omega) (by omega) (by show (16 : Int) ≤ ((16 : Nat) : Int); omega) ⟨rfl, rfl⟩) ?_ | refine DAL.r rfl rfl rfl (fun h' hx hn => qbo (l := 0) (m := 1) rfl rfl rfl (by omega) (by omega) (by rw [List.length_drop, List.length_take]; show (1 : Int) ≤ ((min 16 16 - _ : Nat) : Int); omega) ⟨rfl, rfl⟩) ?_ | refine DAL.r rfl rfl rfl (fun h' hx hn => qbZ rfl rfl (by simp only [maxLen, List.length_append, List.length_drop, List.length_take, List.length_cons, List.length_nil]; omega) ⟨rfl, rfl⟩) ?_)
     refine DAL.w rfl rfl rfl ?_
     refine qar (evs := [ptr h.next, str [37, hexC (ch.toNat / 16), hexC (ch.toNat % 16)]]) rfl (by rw [← hstr]; rfl) (cw.mono ?_)
     rintro _ H' ⟨rfl, d'⟩
     refine DAL.nil ?_
     repeat (first | refine W.w ?_ | refine zz rfl (qac rfl ?_) | refine zz rfl (qas rfl rfl (by omega) ?_))
     exact ⟨(k + 1, H'), ⟨hlt, by show Bd h H' h.next ((l.take (k + 1)).flatMap encB); rw [hft, he]; exact d'⟩, by show l.length - (k + 1) < l.length - k; omega, Weak.same (EW.cons rfl (EW.cons rfl (EW.cons rfl (EW.cons rfl EW.nil))))⟩)
  ·
   obtain rfl : k = l.length := by omega
   rw [List.take_length] at d hlen
   repeat (first | refine AL.nil ?_ | refine AWp.seq ?_ | refine AWp.r9 ?_ | refine AWp.c9 rfl ?_ | refine AWp.exit ?_ | refine zz rfl (qak rfl rfl rfl (by omega) ?_))
   refine zz rfl (qar rfl rfl ((bString_c d (by have := qcS l; omega)).mono ?_))
   rintro _ H' ⟨rfl, x'⟩
   repeat (first | refine W.w ?_ | refine zz rfl (qag rfl ?_))
   have e : wordM l = l.flatMap encB := by unfold wordM; rw [if_neg hne]
   rw [e]
   exact ⟨_, ResV.tmp rfl, rfl, x', rfl, rfl⟩
end Go.Proofs.YtigmojilaadbhaaGreatDoor
/- . -/
namespace Go.Eng
open Go
section
variable {P : Program} {ρ : Operand → Value} {h : Heap} {K : Value → Heap → Prop} {dst : Option Tmp} {ty : TypeId} {pos : String} {aft : Array Edge} {g : Option (Nat × Bool)}
theorem op_eqIfI {t t' u : TypeId} {k k0 : IntKind} {a b : Int} {x y : Operand} {ms : Array (String × TypeId)} [td : TyD P t (.interface ms)] [tu : TyD P u (.int k0)] (hc : (P.info? u).map (fun i => i.comparable) = some true) (hx : ρ x = .iface u (.int k a)) (hy : ρ y = .iface u (.int k b))
  (kk : K (.bool (a == b)) h) : AOp P ⟨dst, .binOp .eql t x y t', ty, pos, aft, g⟩ ρ h K :=
 .of_pure kk fun φ ac w r => by
  obtain ⟨v1, e1, r1⟩ := (hx ▸ r.ev x (by simp [Op.operands])).iface_inv
  obtain ⟨v2, e2, r2⟩ := (hy ▸ r.ev y (by simp [Op.operands])).iface_inv
  rw [r1.int_inv] at e1
  rw [r2.int_inv] at e2
  obtain ⟨i, hi, hci⟩ := Option.map_eq_some_iff.1 hc
  have hti : (typeInfo u).run P w = .ok i w := by simp [typeInfo, hi]
  have e4 : ∀ d, (Op.equalIn (d + 2) t (.iface u (.int k a)) (.iface u (.int k b))).run P w = .ok (a == b) w := fun d => by
   simp [Op.equalIn, td.run, hti, hci, tu.run]
  have e5 : (Op.equal t (.iface u (.int k a)) (.iface u (.int k b))).run P w = .ok (a == b) w := e4 9998
  exact ⟨.bool (a == b), by simp [execOp, e1, e2, eqGuard, binOp, e5], .bool _⟩
theorem qfd {k : IntKind} {t t' : TypeId} {x y : Operand} {a b c : Int} (hx : ρ x = .int k a) (hy : ρ y = .int k b) (hw : k.wrap (a + b) = c) (kk : K (.int k c) h) : AOp P ⟨dst, .binOp .add t x y t', ty, pos, aft, g⟩ ρ h K :=
 qaX hx hy (v := .int k c) (by simp [binI, hw]) kk
theorem qgT {k : IntKind} {t t' : TypeId} {x y : Operand} {a b c : Int} (hx : ρ x = .int k a) (hy : ρ y = .int k b) (hw : k.wrap (a - b) = c) (kk : K (.int k c) h) : AOp P ⟨dst, .binOp .sub t x y t', ty, pos, aft, g⟩ ρ h K :=
 qaX hx hy (v := .int k c) (by simp [binI, hw]) kk
theorem op_mulK {k : IntKind} {t t' : TypeId} {x y : Operand} {a b c : Int} (hx : ρ x = .int k a) (hy : ρ y = .int k b) (hw : k.wrap (a * b) = c) (kk : K (.int k c) h) : AOp P ⟨dst, .binOp .mul t x y t', ty, pos, aft, g⟩ ρ h K :=
 qaX hx hy (v := .int k c) (by simp [binI, hw]) kk
theorem qcd {s d : TypeId} {x : Operand} {k k' ks : IntKind} {a c : Int} [ts : TyD P s (.int ks)] [td : TyD P d (.int k')] (hx : ρ x = .int k a) (hw : k'.wrap a = c) (kk : K (.int k' c) h) : AOp P ⟨dst, .convert s d x, ty, pos, aft, g⟩ ρ h K :=
 qhQ hx (hw ▸ kk)
end
end Go.Eng
/- . -/
namespace Go.Proofs.YtigmojilaadbhaaGreatDoor
open Go Go.Eng Go.Pln Go.Lib
attribute [local irreducible] AWp AL DAL AOp
instance i_lower : FnC Tryz.prog 210 := ⟨Tryz.f210, Tryz.func210, by kernel_rfl, by kernel_rfl⟩
instance i_puI : FnC Tryz.prog 202 := ⟨Tryz.f202, Tryz.func202, by kernel_rfl, by kernel_rfl⟩
instance i_TyD_uint64 : TyD Tryz.prog 221 (.int .u64) := ⟨Tryz.underlying221⟩
instance i_TyD_uint : TyD Tryz.prog 182 (.int .u64) := ⟨Tryz.underlying182⟩
instance qdA : TyD Tryz.prog 238 (.int .i64) := ⟨Tryz.underlying238⟩
def lowN (n : Nat) : Nat := (BitVec.ofInt 8 (n : Int) ||| BitVec.ofInt 8 32).toNat
theorem low_lt : ∀ n : Fin 256, lowN n.val < 256 := by decide +kernel
theorem lower_c (c : UInt8) (h : Heap) : ACalls Tryz.prog 210 [.int .u8 (c.toNat : Int)] h fun u h' => u = .int .u8 (lowN c.toNat : Nat) ∧ h' = h := by
 refine ACalls.body Tryz.func210 rfl rfl ?_
 have hl := low_lt ⟨c.toNat, c.toNat_lt⟩
 have e : binI .or .u8 (c.toNat : Int) .u8 32 = some (.int .u8 (lowN c.toNat : Nat)) := by
  show some (Value.int .u8 (IntKind.u8.wrap ((BitVec.ofInt 8 (c.toNat : Int) ||| BitVec.ofInt 8 32).toNat : Int))) = _
  have e2 : ∀ z : Int, IntKind.u8.wrap z = z % 256 := fun _ => rfl
  rw [e2]
  refine congrArg some (congrArg (Value.int .u8) ?_)
  show ((lowN c.toNat : Nat) : Int) % 256 = _
  simp only at hl
  omega
 repeat (first | refine W.w ?_ | (refine zz rfl ?_; first | refine qac rfl ?_ | refine qad rfl ?_ | refine qaX rfl rfl e ?_))
 exact ⟨_, ResV.tmp rfl, rfl, rfl⟩
theorem dig_class : ∀ n : Fin 256, (48 ≤ n.val ∧ n.val ≤ 57 → digP (UInt8.ofNat n.val) = n.val - 48) ∧
  (¬ (48 ≤ n.val ∧ n.val ≤ 57) → 97 ≤ lowN n.val ∧ lowN n.val ≤ 122 → if lowN n.val - 87 < 16 then digP (UInt8.ofNat n.val) = lowN n.val - 87 else ¬ digP (UInt8.ofNat n.val) < 16) ∧
  (¬ (48 ≤ n.val ∧ n.val ≤ 57) → ¬ (97 ≤ lowN n.val ∧ lowN n.val ≤ 122) → ¬ digP (UInt8.ofNat n.val) < 16) := by decide +kernel
def hexV (l : Bytes) : Nat := l.foldl (fun a c => a * 16 + digP c) 0
theorem hexV_add {s : Bytes} {k : Nat} {c : UInt8} (hc : s[k]? = some c) : hexV (s.take (k + 1)) = hexV (s.take k) * 16 + digP c := by
 rw [List.take_add_one, hc]
 simp [hexV, List.foldl_append]
theorem hexV_ok {s : Bytes} (h0 : 1 ≤ s.length) (h2 : s.length ≤ 2) (h : s.all (fun c => decide (digP c < 16)) = true) : hexV s = hex2 s := by
 match s, h0, h2, h with
 | [a], _, _, h =>
  simp only [List.all_cons, List.all_nil, Bool.and_true, decide_eq_true_iff] at h
  simp [hexV, hex2, h]
 | [a, b], _, _, h =>
  simp only [List.all_cons, List.all_nil, Bool.and_true, Bool.and_eq_true, decide_eq_true_iff] at h
  simp [hexV, hex2, h]
 | _ :: _ :: _ :: _, _, h2, _ => simp at h2
theorem hex2_bad {s : Bytes} (h2 : s.length ≤ 2) {k : Nat} {c : UInt8} (hc : s[k]? = some c) (hd : ¬ digP c < 16) : hex2 s = 0 := by
 match s, h2 with
 | [], _ => rfl
 | [a], _ =>
  match k with
  | 0 => cases hc; simp [hex2, hd]
  | k + 1 => simp at hc
 | [a, b], _ =>
  match k with
  | 0 => cases hc; simp [hex2, hd]
  | 1 => cases hc; simp [hex2, hd]
  | k + 2 => simp at hc
 | _ :: _ :: _ :: _, h2 => simp at h2
theorem hexV_lt {l : Bytes} (h : l.all (fun c => decide (digP c < 16)) = true) (hl : l.length ≤ 1) : hexV l < 16 := by
 match l, hl, h with
 | [], _, _ => decide
 | [a], _, h =>
  simp only [List.all_cons, List.all_nil, Bool.and_true, decide_eq_true_iff] at h
  simp [hexV, h]
 | _ :: _ :: _, hl, _ => simp at hl
theorem ofNat_self (c : UInt8) : UInt8.ofNat c.toNat = c := by simp
theorem allTake2 {α : Type} {p : α → Bool} {l : List α} {k : Nat} {x : α} (hx : l[k]? = some x) : (l.take (k + 1)).all p = ((l.take k).all p && p x) := by
 rw [List.take_add_one, hx, List.all_append]
 simp
def puE (e : Value) : Prop := e = .nilIface ∨ e = .iface 238 (.int .i64 2)
theorem puI_c (s : Bytes) (h : Heap) (hs : s.length ≤ 2) : ACalls Tryz.prog 202 [str s, .int .i64 16, .int .i64 8] h fun u h' => h' = h ∧ ∃ e, u = .tuple #[.int .u64 (hex2 s : Nat), e] ∧ puE e := by
 refine ACalls.wf fun wf => ?_
 refine ACalls.mono (Q := fun u h' => (∃ e, u = .tuple #[.int .u64 (hex2 s : Nat), e] ∧ puE e) ∧ h' = h) ?_ fun u h' ⟨a, b⟩ => ⟨b, a⟩
 refine ACalls.resetB ?_
 have hb : ∀ e, puE e → Bdd h.next (.tuple #[.int .u64 (hex2 s : Nat), e]) := by
  rintro e (rfl | rfl)
  ·
   exact Bdd.plain (by simp [plainV, scalar])
  ·
   refine ⟨fun _ => ⟨0, 0, 0⟩, _, VRel.tuple2 (.int _ _) (.iface _ _ _ (.int _ _))⟩
 refine ACalls.body Tryz.func202 rfl rfl ?_
 by_cases h0 : s = []
 ·
  subst h0
  repeat (first | refine W.w ?_ | refine AWp.c8 rfl ?_ | (refine zz rfl ?_; first | refine qai rfl ?_ | refine qad rfl ?_ | refine qaO (a := []) (b := []) rfl rfl rfl ?_ | refine qba rfl rfl ?_ | refine qaq (by conv => lhs; whnf) ?_))
  exact ⟨_, ResV.tmp2 rfl, hb _ (.inr rfl), Ext.refl h, ⟨_, rfl, .inr rfl⟩, rfl⟩
 ·
  have hpos : 1 ≤ s.length := List.length_pos_iff.2 h0
  have gp := Heap.alloc_new h ⟨bv s, 5, true⟩
  have xp := wf.ext ⟨bv s, 5, true⟩
  repeat (first | refine W.w ?_ | refine AWp.c8 rfl ?_ | refine AWp.c9 rfl ?_ | (refine zz rfl ?_; first | refine qac rfl ?_ | refine qae rfl ?_ | refine qai rfl ?_ | refine qad rfl ?_ | refine qaa rfl ?_ | refine qag rfl ?_ | refine qaK (a := s) (b := []) rfl rfl h0 ?_ | refine qam rfl rfl rfl (by omega) ?_ | refine qak rfl rfl rfl (by omega) ?_ | refine qah (v := .bool _) rfl rfl ?_ | refine qcd (c := 8) rfl rfl ?_ | refine qaX (v := .int .u64 256) rfl rfl rfl ?_ | refine qaX (v := .int .u64 255) rfl rfl rfl ?_ | refine qhW rfl (by simp only [maxLen]; omega) ?_ | refine qca rfl ?_ | refine qaq (by conv => lhs; whnf) ?_))
  generalize h.alloc ⟨bv s, 5, true⟩ = H at gp xp ⊢
  have rb : RB H (.slice (some ⟨h.next, 0, some 1⟩) s.length (s.length + 1)) s := RS.own gp (qaz s)
  skip
  refine AWp.loop (α := Nat) (fun k => [(0, str s), (1, .int .i64 16), (8, .bool false), (10, .int .u64 1152921504606846976), (11, .int .u64 255), (12, .bool false), (13, .int .u64 (hexV (s.take k) : Nat)), (99, .slice (some ⟨h.next, 0, some 1⟩) s.length (s.length + 1)), (100, .int .i64 (s.length : Nat)), (101, .int .i64 (k : Nat))]) (fun _ => H) (fun k => k ≤ s.length ∧ (s.take k).all (fun c => decide (digP c < 16)) = true) (fun k => s.length - k) 0 ⟨Nat.zero_le _, rfl⟩
   (Weak.same (EW.cons rfl (EW.cons rfl (EW.cons rfl (EW.cons rfl (EW.cons rfl (EW.cons rfl (EW.cons rfl (EW.cons rfl (EW.cons rfl (EW.cons rfl EW.nil))))))))))) ?_
  rintro k ⟨hk, ha⟩
  by_cases hlt : k < s.length
  ·
   obtain ⟨ch, hc⟩ : ∃ ch, s[k]? = some ch := ⟨_, List.getElem?_eq_getElem hlt⟩
   have hadd := hexV_add hc
   have hn := hexV_lt ha (by rw [List.length_take]; omega)
   have h256 := ch.toNat_lt
   obtain ⟨c1, c2, c3⟩ := dig_class ⟨ch.toNat, h256⟩
   simp only [ofNat_self] at c1 c2 c3
   have hlow := low_lt ⟨ch.toNat, h256⟩
   simp only at hlow
   have hst := allTake2 (p := fun c => decide (digP c < 16)) hc
   rw [ha, Bool.true_and] at hst
   have bad : ¬ digP ch < 16 → (hex2 s : Nat) = 0 := fun hd => hex2_bad hs hc hd
   generalize hexV (s.take k) = n at hadd hn ⊢
   have cl := lower_c ch H
   generalize lowN ch.toNat = lw at c2 c3 hlow cl
   have fin : ∀ d : Nat, d = digP ch → d < 16 → n * 16 + d = hexV (s.take (k + 1)) ∧ (k + 1 ≤ s.length ∧ (s.take (k + 1)).all (fun c => decide (digP c < 16)) = true) := fun d e e2 => ⟨by rw [hadd, e], hlt, by rw [hst]; exact decide_eq_true (e ▸ e2)⟩
   repeat (first | refine W.w ?_ | refine AWp.c8 rfl ?_ | refine zz rfl (qam rfl rfl rfl (by omega) ?_) | refine zz rfl (qbg rb rfl rfl (by omega) (bvAt hc rfl) ?_))
   intro p hp
   by_cases hdg : 48 ≤ ch.toNat ∧ ch.toNat ≤ 57
   ·
    have hd : digP ch = ch.toNat - 48 := c1 hdg
    obtain ⟨f1, f2⟩ := fin (ch.toNat - 48) hd.symm (by omega)
    repeat' (first | refine W.w ?_ | refine AL.skip rfl rfl ?_ | refine AWp.c8 rfl ?_ | refine AWp.c9 rfl ?_ | (refine zz rfl ?_; first | refine qac rfl ?_ | refine qae rfl ?_ | refine qad rfl ?_ | refine qaa rfl ?_ | refine qat hp rfl rfl ?_ | refine qgT (k := .u8) (c := ((ch.toNat - 48 : Nat) : Int)) rfl rfl (by show ((ch.toNat : Int) - 48) % 256 = _; omega) ?_ | refine qcd (c := 16) rfl rfl ?_ | refine op_mulK (c := ((n * 16 : Nat) : Int)) rfl rfl (by show ((n : Int) * 16) % 18446744073709551616 = _; omega) ?_ | refine qcd (c := ((ch.toNat - 48 : Nat) : Int)) rfl (by show _ % (18446744073709551616 : Int) = _; omega) ?_ | refine qfd (k := .u64) (c := ((n * 16 + (ch.toNat - 48) : Nat) : Int)) rfl rfl (by show _ % (18446744073709551616 : Int) = _; omega) ?_ | refine qas rfl rfl (by omega) ?_ | refine qam rfl rfl rfl (by omega) ?_ | refine qak rfl rfl rfl (by omega) ?_ | refine qah (v := .bool _) rfl rfl ?_))
    all_goals refine ⟨k + 1, f2, by omega, Weak.same (EW.cons rfl (EW.cons rfl (EW.cons rfl (EW.cons rfl (EW.cons rfl (EW.cons rfl (EW.cons (congrArg (fun z : Nat => Value.int .u64 (z : Int)) f1) (EW.cons rfl (EW.cons rfl (EW.cons rfl EW.nil))))))))))⟩
   ·
    by_cases hlr : 97 ≤ lw ∧ lw ≤ 122
    ·
     have c2' := c2 hdg hlr
     by_cases h16 : lw - 87 < 16
     ·
      rw [if_pos h16] at c2'
      obtain ⟨f1, f2⟩ := fin (lw - 87) c2'.symm h16
      repeat' (first | refine W.w ?_ | refine AL.skip rfl rfl ?_ | refine AWp.c8 rfl ?_ | refine AWp.c9 rfl ?_ | (refine zz rfl ?_; first | refine qac rfl ?_ | refine qae rfl ?_ | refine qad rfl ?_ | refine qaa rfl ?_ | refine qat hp rfl rfl ?_ | refine qab rfl rfl cl ?_ | refine qgT (k := .u8) (c := ((lw - 97 : Nat) : Int)) rfl rfl (by show ((lw : Int) - 97) % 256 = _; omega) ?_ | refine qfd (k := .u8) (c := ((lw - 87 : Nat) : Int)) rfl rfl (by show _ % (256 : Int) = _; omega) ?_ | refine qcd (c := 16) rfl rfl ?_ | refine op_mulK (c := ((n * 16 : Nat) : Int)) rfl rfl (by show ((n : Int) * 16) % 18446744073709551616 = _; omega) ?_ | refine qcd (c := ((lw - 87 : Nat) : Int)) rfl (by show _ % (18446744073709551616 : Int) = _; omega) ?_ | refine qfd (k := .u64) (c := ((n * 16 + (lw - 87) : Nat) : Int)) rfl rfl (by show _ % (18446744073709551616 : Int) = _; omega) ?_ | refine qas rfl rfl (by omega) ?_ | refine qam rfl rfl rfl (by omega) ?_ | refine qak rfl rfl rfl (by omega) ?_ | refine qaQ rfl rfl rfl (fun c => ?_) (fun c => ?_) | refine qah (v := .bool _) rfl rfl ?_))
      all_goals refine ⟨k + 1, f2, by omega, Weak.same (EW.cons rfl (EW.cons rfl (EW.cons rfl (EW.cons rfl (EW.cons rfl (EW.cons rfl (EW.cons (congrArg (fun z : Nat => Value.int .u64 (z : Int)) f1) (EW.cons rfl (EW.cons rfl (EW.cons rfl EW.nil))))))))))⟩
     ·
      rw [if_neg h16] at c2'
      have hz := bad c2'
      repeat' (first | refine W.w ?_ | refine AL.skip rfl rfl ?_ | refine AWp.c8 rfl ?_ | refine AWp.c9 rfl ?_ | (refine zz rfl ?_; first | refine qac rfl ?_ | refine qae rfl ?_ | refine qad rfl ?_ | refine qaa rfl ?_ | refine qat hp rfl rfl ?_ | refine qab rfl rfl cl ?_ | refine qgT (k := .u8) (c := ((lw - 97 : Nat) : Int)) rfl rfl (by show ((lw : Int) - 97) % 256 = _; omega) ?_ | refine qfd (k := .u8) (c := ((lw - 87 : Nat) : Int)) rfl rfl (by show _ % (256 : Int) = _; omega) ?_ | refine qcd (c := 16) rfl rfl ?_ | refine qba rfl rfl ?_ | refine qam rfl rfl rfl (by omega) ?_ | refine qak rfl rfl rfl (by omega) ?_ | refine qaQ rfl rfl rfl (fun c => ?_) (fun c => ?_) | refine qah (v := .bool _) rfl rfl ?_ | refine qaq (by conv => lhs; whnf) ?_))
      all_goals exact ⟨_, ResV.tmp2 rfl, (by rw [hz] at hb; exact hb _ (.inr rfl)), xp, ⟨_, by rw [hz]; rfl, .inr rfl⟩, rfl⟩
    ·
     have hz := bad (c3 hdg hlr)
     repeat' (first | refine W.w ?_ | refine AL.skip rfl rfl ?_ | refine AWp.c9 rfl ?_ | (refine zz rfl ?_; first | refine qac rfl ?_ | refine qae rfl ?_ | refine qad rfl ?_ | refine qaa rfl ?_ | refine qat hp rfl rfl ?_ | refine qab rfl rfl cl ?_ | refine qba rfl rfl ?_ | refine qam rfl rfl rfl (by omega) ?_ | refine qak rfl rfl rfl (by omega) ?_ | refine qaQ rfl rfl rfl (fun c => ?_) (fun c => ?_) | refine qah (v := .bool _) rfl rfl ?_ | refine qaq (by conv => lhs; whnf) ?_))
     all_goals exact ⟨_, ResV.tmp2 rfl, (by rw [hz] at hb; exact hb _ (.inr rfl)), xp, ⟨_, by rw [hz]; rfl, .inr rfl⟩, rfl⟩
  ·
   obtain rfl : k = s.length := by omega
   rw [List.take_length] at ha ⊢
   rw [hexV_ok hpos hs ha]
   repeat (first | refine AL.nil ?_ | refine AL.skip rfl rfl ?_ | refine AWp.seq ?_ | refine AWp.r9 ?_ | refine AWp.c9 rfl ?_ | refine AWp.ret ?_ | refine AWp.exit ?_ | refine AWp.k9 ?_ | (refine zz rfl ?_; first | refine qac rfl ?_ | refine qae rfl ?_ | refine qad rfl ?_ | refine qak rfl rfl rfl (by omega) ?_ | refine qah (v := .bool _) rfl rfl ?_ | refine qaq (by conv => lhs; whnf) ?_))
   exact ⟨_, ResV.tmp2 rfl, hb _ (.inl rfl), xp, ⟨_, rfl, .inl rfl⟩, rfl⟩
end Go.Proofs.YtigmojilaadbhaaGreatDoor
