/-
  Texts of one claim, merged: 7 parts.
-/
import Derived.Test.YtnioldkmckmajaaMnq
import Derived.Test.YtnioldkmckmajaaMnf
import Derived.Test.YtnioldkmckmajaaMnp
import Derived.Test.YtnioldkmckmajaaMnl
set_option maxHeartbeats 16000000
/-
  Logs: bytes behind their length; rows of bytes put together; records.
-/
namespace Go.Proofs.Ytnioldkmckmajaa
open Go Go.Eng Go.Pln
attribute [local irreducible] AWp AL DAL AOp TAL
def spelt (b : List UInt8) : List UInt8 := vnt b.length ++ b
set_option maxHeartbeats 1000000 in
theorem bytes_c (v : Value) (b : List UInt8) (h : Heap) (r : RB h v b) (hl : b.length ≤ 1000000) :
    ACalls Try.prog 55 [v] h fun u h' => OS h.next h' 5 u (bv (spelt b)) ∧ Ext h h' := by
  refine ACalls.wf fun wf => ?_
  refine ACalls.body Try.func55 rfl rfl ?_
  obtain ⟨a, c, hv⟩ := r.slice
  repeat (first | refine AL.nil ?_ | refine AWp.seq ?_ | refine AWp.region ?_ | refine AL.set rfl rfl (op_assignS rfl ?_) | refine AL.set rfl rfl (op_move (v := v) rfl ?_) | refine AL.set rfl rfl (op_lenRB r rfl ?_) | refine AL.set rfl rfl (op_add64 rfl rfl (by omega) ?_))
  refine AL.set rfl rfl (op_make (by_ := 1) (z := .int .u8 0) rfl rfl (by omega) (by omega) (by omega) (by omega) rfl ?_)
  have g1 := Heap.alloc_new h ⟨List.replicate (0 : Int).toNat (.int .u8 0), 5, true⟩
  have x1 := wf.ext ⟨List.replicate (0 : Int).toNat (.int .u8 0), 5, true⟩
  have w1 := wf.alloc ⟨List.replicate (0 : Int).toNat (.int .u8 0), 5, true⟩
  have n1 : (h.alloc ⟨List.replicate (0 : Int).toNat (.int .u8 0), 5, true⟩).next = h.next + 1 := rfl
  generalize h.alloc ⟨List.replicate (0 : Int).toNat (.int .u8 0), 5, true⟩ = H1 at g1 x1 w1 n1 ⊢
  have o1 : OS h.next H1 5 (.slice (some ⟨h.next, 0, some 1⟩) (0 : Int).toNat ((b.length : Int) + 10).toNat) (bv []) := .inr ⟨h.next, _, Nat.le_refl _, rfl, g1⟩
  repeat (first | refine AL.set rfl rfl (op_move (v := v) rfl ?_) | refine AL.set rfl rfl (op_lenRB (r.ext x1) rfl ?_) | refine AL.set rfl rfl (op_convU64 rfl (by omega) ?_))
  refine AL.set rfl rfl (op_call rfl rfl ((spell_c h.next _ [] b.length H1 o1 (by omega) (by omega) (by simp)).wf_post.mono ?_))
  rintro u H2 ⟨⟨o2, k2⟩, w2, n2⟩
  rw [List.nil_append] at o2
  have x2 := k2.ext wf (Nat.le_refl _) x1
  have h10 := vnt_len10 b.length (by omega)
  repeat (first | refine AL.set rfl rfl (op_move (v := v) rfl ?_))
  refine AL.set rfl rfl (op_appendO (by_ := 1) (z := .int .u8 0) (B := h.next) (e := 5) rfl w2 (by omega) o2 rfl rfl (r.ext x2).src (bv_length _) (bv_one _) (by rw [bv_length]; simp only [maxLen]; omega) (by rw [bv_length]; omega) ?_)
  intro u3 H3 o3 k3 w3 n3
  repeat (first | refine AL.nil ?_ | refine AWp.ret ?_ | refine AL.set rfl rfl (op_assign (v := u3) rfl ?_))
  rw [← bv_append] at o3
  exact ⟨_, ResV.tmp rfl, o3, k3.ext o2 wf (Nat.le_refl _) x2⟩
theorem flat_take {ll : List (List UInt8)} {k : Nat} {l : List UInt8} (h : ll[k]? = some l) : (ll.take (k + 1)).flatten = (ll.take k).flatten ++ l := by
  rw [List.take_add_one, h, List.flatten_append]; simp
theorem flat_le (ll : List (List UInt8)) (k : Nat) : (ll.take k).flatten.length ≤ ll.flatten.length := by
  have : ll.flatten = (ll.take k).flatten ++ (ll.drop k).flatten := by rw [← List.flatten_append, List.take_append_drop]
  rw [this, List.length_append]; omega
set_option maxHeartbeats 1000000 in
theorem join_c (v : Value) (ll : List (List UInt8)) (h : Heap) (r : RBB h v ll) (hn : ll.length ≤ 1000000) (hl : ll.flatten.length ≤ 5000000) :
    ACalls Try.prog 74 [v] h fun u h' => OS h.next h' 5 u (bv ll.flatten) ∧ Ext h h' := by
  refine ACalls.wf fun wf => ?_
  refine ACalls.body Try.func74 rfl rfl ?_
  obtain ⟨vs, r1, r2, r3⟩ := r
  obtain ⟨a, c, hv⟩ := r1.slice
  repeat (first | refine AL.nil ?_ | refine AWp.seq ?_ | refine AWp.region ?_ | refine AWp.block ?_ | refine AL.set rfl rfl (op_moveI rfl ?_) | refine AL.set rfl rfl (op_assignI rfl ?_) | refine AL.set rfl rfl (op_assignS rfl ?_) | refine AL.set rfl rfl (op_move (v := v) rfl ?_) | refine AL.set rfl rfl (op_lenR r1 rfl ?_))
  refine AWp.loop (α := Nat) (fun k => [(0, v), (3, .int .i64 ((ll.take k).flatten.length : Nat)), (9, v), (10, .int .i64 (vs.length : Nat)), (11, .int .i64 (k : Nat))]) (fun _ => h) (fun k => k ≤ ll.length) (fun k => ll.length - k) 0 (Nat.zero_le _) (Weak.same (EW.cons rfl (EW.cons rfl (EW.cons rfl (EW.cons rfl (EW.cons rfl EW.nil)))))) ?_
  intro k hk
  by_cases hlt : k < ll.length
  · obtain ⟨x, hx⟩ : ∃ x, vs[k]? = some x := ⟨_, List.getElem?_eq_getElem (by omega)⟩
    obtain ⟨l, hl2⟩ : ∃ l, ll[k]? = some l := ⟨_, List.getElem?_eq_getElem hlt⟩
    have rx := r3 k x l hx hl2
    have hx2 : vs[((k : Nat) : Int).toNat]? = some x := by simpa using hx
    obtain ⟨ax, cx, hvx⟩ := rx.slice
    have e1 := flat_take hl2
    have e2 := flat_le ll (k + 1)
    rw [e1, List.length_append] at e2
    repeat (first | refine AL.nil ?_ | refine AWp.seq ?_ | refine AWp.region ?_ | refine AWp.condT rfl ?_ | refine AWp.block ?_ | refine AWp.skip ?_ | refine AL.set rfl rfl (op_intT rfl rfl rfl (by omega) ?_))
    refine AL.set rfl rfl (op_indexR r1 rfl rfl (by omega) hx2 ?_)
    intro q hq
    repeat (first | refine AL.nil ?_ | refine AWp.region ?_ | refine AL.set rfl rfl (op_moveI rfl ?_) | refine AL.set rfl rfl (op_assignI rfl ?_) | refine AL.set rfl rfl (op_loadR hq rfl rfl ?_) | refine AL.set rfl rfl (op_assign (v := x) rfl ?_) | refine AL.set rfl rfl (op_move (v := x) rfl ?_) | refine AL.set rfl rfl (op_lenRB rx rfl ?_) | refine AL.set rfl rfl (op_add64 rfl rfl (by omega) ?_))
    refine ⟨k + 1, hlt, by omega, Weak.same (EW.cons rfl (EW.cons ?_ (EW.cons rfl (EW.cons rfl (EW.cons rfl EW.nil)))))⟩
    rw [e1, List.length_append]
    rfl
  · repeat (first | refine AL.nil ?_ | refine AWp.seq ?_ | refine AWp.region ?_ | refine AWp.condF rfl ?_ | refine AWp.exit ?_ | refine AL.set rfl rfl (op_moveI rfl ?_) | refine AL.set rfl rfl (op_intF rfl rfl rfl (by omega) ?_))
    have hk2 : k = ll.length := by omega
    subst hk2
    rw [List.take_length]
    refine AL.set rfl rfl (op_make (by_ := 1) (z := .int .u8 0) rfl rfl (by omega) (by omega) (by omega) (by omega) rfl ?_)
    have g1 := Heap.alloc_new h ⟨List.replicate (0 : Int).toNat (.int .u8 0), 5, true⟩
    have x1 := wf.ext ⟨List.replicate (0 : Int).toNat (.int .u8 0), 5, true⟩
    have w1 := wf.alloc ⟨List.replicate (0 : Int).toNat (.int .u8 0), 5, true⟩
    have n1 : (h.alloc ⟨List.replicate (0 : Int).toNat (.int .u8 0), 5, true⟩).next = h.next + 1 := rfl
    generalize h.alloc ⟨List.replicate (0 : Int).toNat (.int .u8 0), 5, true⟩ = H1 at g1 x1 w1 n1 ⊢
    obtain ⟨u0, hu0⟩ : ∃ u0 : Value, u0 = .slice (some ⟨h.next, 0, some 1⟩) (0 : Int).toNat ((ll.flatten.length : Int)).toNat := ⟨_, rfl⟩
    have o1 : OS h.next H1 5 u0 (bv []) := .inr ⟨h.next, _, Nat.le_refl _, hu0, g1⟩
    rw [← hu0]
    repeat (first | refine AL.nil ?_ | refine AWp.seq ?_ | refine AWp.region ?_ | refine AWp.block ?_ | refine AL.set rfl rfl (op_moveI rfl ?_) | refine AL.set rfl rfl (op_assign (v := u0) rfl ?_) | refine AL.set rfl rfl (op_move (v := v) rfl ?_) | refine AL.set rfl rfl (op_lenR (r1.ext x1) rfl ?_))
    refine AWp.loop (α := Nat × Value × Heap) (fun s => [(6, s.2.1), (22, v), (23, .int .i64 (vs.length : Nat)), (24, .int .i64 (s.1 : Nat))]) (fun s => s.2.2) (fun s => s.1 ≤ ll.length ∧ OS h.next s.2.2 5 s.2.1 (bv (ll.take s.1).flatten) ∧ Ext h s.2.2 ∧ WF s.2.2 ∧ h.next ≤ s.2.2.next) (fun s => ll.length - s.1) (0, u0, H1) ⟨Nat.zero_le _, o1, x1, w1, by show h.next ≤ H1.next; omega⟩ (Weak.same (EW.cons rfl (EW.cons rfl (EW.cons rfl (EW.cons rfl EW.nil))))) ?_
    rintro ⟨k, u, H⟩ ⟨q1, q2, q3, q4, q5⟩
    replace q1 : k ≤ ll.length := q1
    replace q2 : OS h.next H 5 u (bv (ll.take k).flatten) := q2
    replace q3 : Ext h H := q3
    replace q4 : WF H := q4
    replace q5 : h.next ≤ H.next := q5
    show AWp _ _ _ _ [(6, u), (22, v), (23, .int .i64 (vs.length : Nat)), (24, .int .i64 (k : Nat))] H
    by_cases hlt : k < ll.length
    · obtain ⟨x, hx⟩ : ∃ x, vs[k]? = some x := ⟨_, List.getElem?_eq_getElem (by omega)⟩
      obtain ⟨l, hl2⟩ : ∃ l, ll[k]? = some l := ⟨_, List.getElem?_eq_getElem hlt⟩
      have rx := (r3 k x l hx hl2).ext q3
      have hx2 : vs[((k : Nat) : Int).toNat]? = some x := by simpa using hx
      obtain ⟨ax, cx, hvx⟩ := rx.slice
      have e1 := flat_take hl2
      have e2 := flat_le ll (k + 1)
      rw [e1, List.length_append] at e2
      repeat (first | refine AL.nil ?_ | refine AWp.seq ?_ | refine AWp.region ?_ | refine AWp.condT rfl ?_ | refine AWp.block ?_ | refine AWp.skip ?_ | refine AL.set rfl rfl (op_intT rfl rfl rfl (by omega) ?_))
      refine AL.set rfl rfl (op_indexR (r1.ext q3) rfl rfl (by omega) hx2 ?_)
      intro q hq
      repeat (first | refine AL.nil ?_ | refine AWp.region ?_ | refine AL.set rfl rfl (op_loadR hq rfl rfl ?_) | refine AL.set rfl rfl (op_assign (v := x) rfl ?_) | refine AL.set rfl rfl (op_move (v := x) rfl ?_) | refine AL.set rfl rfl (op_move (v := u) rfl ?_))
      refine AL.set rfl rfl (op_appendO (by_ := 1) (z := .int .u8 0) (B := h.next) (e := 5) rfl q4 q5 q2 rfl rfl rx.src (bv_length _) (bv_one _) (by rw [bv_length]; simp only [maxLen]; omega) (by rw [bv_length]; omega) ?_)
      intro u3 H3 o3 k3 w3 n3
      rw [← bv_append, ← e1] at o3
      repeat (first | refine AL.nil ?_ | refine AWp.region ?_ | refine AL.set rfl rfl (op_moveI rfl ?_) | refine AL.set rfl rfl (op_assign (v := u3) rfl ?_) | refine AL.set rfl rfl (op_add64 rfl rfl (by omega) ?_))
      exact ⟨(k + 1, u3, H3), ⟨hlt, o3, k3.ext q2 wf (Nat.le_refl _) q3, w3, by show h.next ≤ H3.next; omega⟩, by show ll.length - (k + 1) < ll.length - k; omega, Weak.same (EW.cons rfl (EW.cons rfl (EW.cons rfl (EW.cons rfl EW.nil))))⟩
    · repeat (first | refine AL.nil ?_ | refine AWp.seq ?_ | refine AWp.region ?_ | refine AWp.condF rfl ?_ | refine AWp.ret ?_ | refine AWp.exit ?_ | refine AL.set rfl rfl (op_intF rfl rfl rfl (by omega) ?_) | refine AL.set rfl rfl (op_move (v := u) rfl ?_) | refine AL.set rfl rfl (op_assign (v := u) rfl ?_))
      have hk2 : k = ll.length := by omega
      subst hk2
      rw [List.take_length] at q2
      exact ⟨_, ResV.tmp rfl, q2, q3⟩
end Go.Proofs.Ytnioldkmckmajaa
/-
  The engine: two structs of plain cells, held one against the other.
-/
namespace Go.Eng
open Go
def eqV : Value → Value → Bool
  | .string a, .string b => a == b
  | .int _ a, .int _ b => a == b
  | .bool a, .bool b => a == b
  | _, _ => false
def eqOk : TypeDesc → Value → Value → Bool
  | .string, .string _, .string _ => true
  | .int _, .int k _, .int k' _ => decide (k = k')
  | .bool, .bool _, .bool _ => true
  | _, _, _ => false
class EqD (P : Program) (t : TypeId) (ds : outParam (List (Nat × TypeDesc))) : Prop where
  ex : ∃ fs : List Field, P.underlying t = some (.struct fs.toArray) ∧ P.stoodInHeld t = false ∧ P.eqGuardType P.depth t = false ∧ fs.map (fun f => (f.name != "_", f.offset, P.underlying f.type)) = ds.map fun d => (true, d.1, some d.2)
section
variable {P : Program} {ρ : Operand → Value} {h : Heap} {K : Value → Heap → Prop} {dst : Option Tmp} {ty : TypeId} {pos : String} {aft : Array Edge} {g : Option (Nat × Bool)}
theorem run_part1 {t : TypeId} {d : TypeDesc} (ht : P.underlying t = some d) (ha : aggB d = false) (w : World) {cs : Array Value} {o : Nat} {v : Value} (hv : cs[o]? = some v) : (part t cs o).run P w = .ok v w := by
  haveI : TyD P t d := ⟨ht⟩
  simp [part, TyD.isAgg (t := t) (d := d), ha, hv]
theorem run_eqCell {t : TypeId} {d : TypeDesc} (ht : P.underlying t = some d) (w : World) (n : Nat) {x y : Value} (hok : eqOk d x y = true) : (Op.equalIn (n + 1) t x y).run P w = .ok (eqV x y) w := by
  haveI : TyD P t d := ⟨ht⟩
  unfold eqOk at hok
  split at hok
  · simp [Op.equalIn, TyD.run (t := t), eqV]
  · have := of_decide_eq_true hok
    simp [Op.equalIn, TyD.run (t := t), eqV, this]
  · simp [Op.equalIn, TyD.run (t := t), eqV]
  · cases hok
theorem eqOk_agg {d : TypeDesc} {x y : Value} (hok : eqOk d x y = true) : aggB d = false := by
  unfold eqOk at hok
  split at hok <;> first | rfl | (cases hok)
theorem run_eqFields (w : World) (n : Nat) (xs ys : Array Value) : ∀ (fs : List Field) (ds : List (Nat × TypeDesc)), fs.map (fun f => (f.name != "_", f.offset, P.underlying f.type)) = (ds.map fun d => (true, d.1, some d.2)) →
    (∀ d ∈ ds, ∃ x y, xs[d.1]? = some x ∧ ys[d.1]? = some y ∧ eqOk d.2 x y = true) →
    ((forIn fs ((none, ()) : Option Bool × Unit) fun f _ => (do
        if f.name ≠ "_" then
          if !(← Op.equalIn (n + 1) f.type (← part f.type xs f.offset) (← part f.type ys f.offset)) then pure (ForInStep.done (some false, ()))
          else pure (ForInStep.yield (none, ()))
        else pure (ForInStep.yield (none, ())) : Sem (ForInStep (Option Bool × Unit)))) : Sem _).run P w = .ok ((if (ds.all fun d => eqV (xs.getD d.1 undef) (ys.getD d.1 undef)) = true then none else some false), ()) w
  | [], [], _, _ => by simp
  | [], _ :: _, h, _ => by simp at h
  | _ :: _, [], h, _ => by simp at h
  | f :: fs, d :: ds, h, hd => by
    simp only [List.map_cons, List.cons.injEq, Prod.mk.injEq] at h
    obtain ⟨⟨h1, h2, h3⟩, h4⟩ := h
    obtain ⟨x, y, q1, q2, q3⟩ := hd d (by simp)
    have ih := run_eqFields w n xs ys fs ds h4 fun d hd' => hd d (List.mem_cons_of_mem _ hd')
    have hag := eqOk_agg q3
    have p1 := run_part1 (P := P) h3 hag w (cs := xs) (o := f.offset) (by rw [h2]; exact q1)
    have p2 := run_part1 (P := P) h3 hag w (cs := ys) (o := f.offset) (by rw [h2]; exact q2)
    have p3 := run_eqCell (P := P) h3 w n q3
    have hn : f.name ≠ "_" := by simpa using h1
    have e1 : xs.getD d.1 undef = x := by rw [Array.getD_eq_getD_getElem?, q1]; rfl
    have e2 : ys.getD d.1 undef = y := by rw [Array.getD_eq_getD_getElem?, q2]; rfl
    rw [List.forIn_cons]
    simp only [hn, ne_eq, not_false_eq_true, if_true, Sem.run_bind, p1, p2, p3, Result.andThen_ok, List.all_cons, e1, e2]
    cases hb : eqV x y with
    | true =>
      simp only [Bool.not_true, Bool.false_eq_true, if_false, Sem.run_pure, Result.andThen_ok, Bool.true_and]
      exact ih
    | false => simp
theorem run_eqStruct {t : TypeId} {ds : List (Nat × TypeDesc)} [q : EqD P t ds] (w : World) (n : Nat) (xs ys : Array Value) (hd : ∀ d ∈ ds, ∃ x y, xs[d.1]? = some x ∧ ys[d.1]? = some y ∧ eqOk d.2 x y = true) :
    (Op.equalIn (n + 2) t (.agg xs) (.agg ys)).run P w = .ok (ds.all fun d => eqV (xs.getD d.1 undef) (ys.getD d.1 undef)) w := by
  obtain ⟨fs, h1, h2, _, h4⟩ := q.ex
  haveI : TyD P t (.struct fs.toArray) := ⟨h1⟩
  have key := run_eqFields (P := P) w n xs ys fs ds h4 hd
  unfold Op.equalIn
  simp only [Sem.run_bind, TyD.run (t := t), Result.andThen_ok, run_program, h2, Bool.false_eq_true, if_false, List.forIn_toArray]
  generalize (ds.all fun d => eqV (xs.getD d.1 undef) (ys.getD d.1 undef)) = b at key ⊢
  simp only [ne_eq, ite_not] at key ⊢
  rw [key]
  cases b <;> simp
theorem VRel.eqInv {φ : Ren} {n : Nat} {d : TypeDesc} {x y c e : Value} (hok : eqOk d x y = true) (h1 : VRel φ n x c) (h2 : VRel φ n y e) : c = x ∧ e = y := by
  unfold eqOk at hok
  split at hok
  · exact ⟨h1.string_inv, h2.string_inv⟩
  · exact ⟨h1.int_inv, h2.int_inv⟩
  · exact ⟨h1.bool_inv, h2.bool_inv⟩
  · cases hok
def eqRows (ds : List (Nat × TypeDesc)) (xs ys : List Value) : Bool := ds.all fun d => eqV (xs.getD d.1 undef) (ys.getD d.1 undef)
def okRows (ds : List (Nat × TypeDesc)) (xs ys : List Value) : Bool := ds.all fun d => Nat.blt d.1 xs.length && Nat.blt d.1 ys.length && eqOk d.2 (xs.getD d.1 undef) (ys.getD d.1 undef)
theorem eqSt_run {t : TypeId} {ds : List (Nat × TypeDesc)} [q : EqD P t ds] {φ : Ren} {n : Nat} {xs ys : List Value} {c e : Value} (hok : okRows ds xs ys = true) (h1 : VRel φ n (.agg xs.toArray) c) (h2 : VRel φ n (.agg ys.toArray) e) (w : World) (x y : Operand) :
    ∃ cs es, c = .agg cs ∧ e = .agg es ∧ (∀ op, (eqGuard op t x y c e).run P w = .ok () w) ∧ (Op.equal t c e).run P w = .ok (eqRows ds xs ys) w := by
  obtain ⟨cs, rfl, s1, r1⟩ := h1.agg_inv
  obtain ⟨es, rfl, s2, r2⟩ := h2.agg_inv
  obtain ⟨fs, q1, q2, q3, q4⟩ := q.ex
  have key : ∀ d ∈ ds, cs[d.1]? = some (xs.getD d.1 undef) ∧ es[d.1]? = some (ys.getD d.1 undef) ∧ eqOk d.2 (xs.getD d.1 undef) (ys.getD d.1 undef) = true := by
    intro d hd
    have h3 := List.all_eq_true.1 hok d hd
    simp only [Bool.and_eq_true, Nat.blt_eq] at h3
    obtain ⟨⟨l1, l2⟩, h4⟩ := h3
    simp only [List.size_toArray] at s1 s2
    have u1 : xs.toArray[d.1]? = some (xs.getD d.1 undef) := by simp [l1]
    have u2 : ys.toArray[d.1]? = some (ys.getD d.1 undef) := by simp [l2]
    have v1 := r1 d.1 _ _ u1 (Array.getElem?_eq_getElem (by omega))
    have v2 := r2 d.1 _ _ u2 (Array.getElem?_eq_getElem (by omega))
    obtain ⟨e1, e2⟩ := VRel.eqInv h4 v1 v2
    exact ⟨by rw [Array.getElem?_eq_getElem (by omega), e1], by rw [Array.getElem?_eq_getElem (by omega), e2], h4⟩
  refine ⟨cs, es, rfl, rfl, fun op => ?_, ?_⟩
  · simp [eqGuard, q3]
  · have h5 := run_eqStruct (P := P) (t := t) w 9998 cs es fun d hd => ⟨_, _, (key d hd).1, (key d hd).2.1, (key d hd).2.2⟩
    have h6 : (ds.all fun d => eqV (cs.getD d.1 undef) (es.getD d.1 undef)) = eqRows ds xs ys := by
      unfold eqRows
      rw [Bool.eq_iff_iff, List.all_eq_true, List.all_eq_true]
      constructor
      · intro h7 d hd
        have := h7 d hd
        rw [Array.getD_eq_getD_getElem?, Array.getD_eq_getD_getElem?, (key d hd).1, (key d hd).2.1] at this
        exact this
      · intro h7 d hd
        rw [Array.getD_eq_getD_getElem?, Array.getD_eq_getD_getElem?, (key d hd).1, (key d hd).2.1]
        exact h7 d hd
    rw [h6] at h5
    exact h5
theorem op_neSt {t t' : TypeId} {x y : Operand} {ds : List (Nat × TypeDesc)} {xs ys : List Value} [q : EqD P t ds] (hx : ρ x = .agg xs.toArray) (hy : ρ y = .agg ys.toArray) (hok : okRows ds xs ys = true) (kk : K (.bool (!eqRows ds xs ys)) h) : AOp P ⟨dst, .binOp .neq t x y t', ty, pos, aft, g⟩ ρ h K :=
  .of_pure kk fun φ ac w r => by
    obtain ⟨cs, es, e1, e2, e3, e4⟩ := eqSt_run (P := P) (t := t) hok (hx ▸ r.ev x (by simp [Op.operands])) (hy ▸ r.ev y (by simp [Op.operands])) w x y
    have e3 := e3 .neq
    rw [e1, e2] at e3 e4
    exact ⟨_, by simp [execOp, e1, e2, e3, binOp, e4], .bool _⟩
theorem op_neStB {t t' : TypeId} {x y : Operand} {ds : List (Nat × TypeDesc)} {xs ys : List Value} {b : Bool} [q : EqD P t ds] (hx : ρ x = .agg xs.toArray) (hy : ρ y = .agg ys.toArray) (hok : okRows ds xs ys = true) (hb : eqRows ds xs ys = b) (kk : K (.bool (!b)) h) : AOp P ⟨dst, .binOp .neq t x y t', ty, pos, aft, g⟩ ρ h K :=
  op_neSt hx hy hok (by rw [hb]; exact kk)
end
end Go.Eng
/-
  Logs: the types.
-/
namespace Go.Proofs.Ytnioldkmckmajaa
open Go Go.Eng Go.Pln
instance i_TyI_int64_LogT : TyI Try.prog 2 1 8 (.int .i64 0) := ⟨info_of (by kernel_rfl), rfl, rfl⟩
theorem OS.low {B B' : Nat} {h : Heap} {e : TypeId} {u : Value} {vs : List Value} (o : OS B h e u vs) (hb : B' ≤ B) : OS B' h e u vs := o.imp id fun ⟨j, c, h1, h2, h3⟩ => ⟨j, c, Nat.le_trans hb h1, h2, h3⟩
theorem OS.elem {B : Nat} {h h' : Heap} {e : TypeId} {u : Value} {vs : List Value} (o : OS B h e u vs) (hx : ∀ j b, h.get j = some b → b.elem = e → h'.get j = some b) : OS B h' e u vs := o.imp id fun ⟨j, c, h1, h2, h3⟩ => ⟨j, c, h1, h2, hx _ _ h3 rfl⟩
theorem rbb_ones {h : Heap} {vs : List Value} {ll : List (List UInt8)} (h1 : vs.length = ll.length) (h2 : ∀ (k : Nat) x l, vs[k]? = some x → ll[k]? = some l → RB h x l) : vs.all oneB = true := by
  refine List.all_eq_true.2 fun x hx => ?_
  obtain ⟨k, hk⟩ := List.getElem?_of_mem hx
  have hlt := (List.getElem?_eq_some_iff.1 hk).1
  exact (RS.one (h2 k x _ hk (List.getElem?_eq_getElem (by omega)))).1
abbrev fd (n : String) (t o : Nat) (p : String) (b : Nat) : Field := { name := n, type := t, offset := o, embedded := false, tag := "", pkgPath := p, byteOffset := b }
instance i_TyD_api_LogState_LogT : TyD Try.prog 25 (.struct #[fd "Term" 2 0 "" 0, fd "Vote" 3 1 "" 8]) := ⟨Try.underlying25⟩
instance i_TyI_api_LogState_LogT : TyI Try.prog 25 2 16 (.agg #[.int .i64 0, .int .i64 0]) := ⟨info_of (by kernel_rfl), rfl, rfl⟩
instance i_StD_api_LogState_LogT : StD Try.prog 25 [(0, 1), (1, 1)] := ⟨_, Try.underlying25, by kernel_rfl⟩
instance i_FAd_api_LogState_0_0_LogT : FAd Try.prog 25 0 0 := FAd.mk' (ft := 2) Try.underlying25 rfl rfl rfl rfl
instance i_FAd_api_LogState_1_1_LogT : FAd Try.prog 25 1 1 := FAd.mk' (ft := 3) Try.underlying25 rfl rfl rfl rfl
instance i_TyD_api_LogEntry_LogT : TyD Try.prog 51 (.struct #[fd "Term" 2 0 "" 0, fd "Data" 49 1 "" 8]) := ⟨Try.underlying51⟩
instance i_TyI_api_LogEntry_LogT : TyI Try.prog 51 2 32 (.agg #[.int .i64 0, .slice none 0 0]) := ⟨info_of (by kernel_rfl), rfl, rfl⟩
instance i_StD_api_LogEntry_LogT : StD Try.prog 51 [(0, 1), (1, 1)] := ⟨_, Try.underlying51, by kernel_rfl⟩
instance i_FAd_api_LogEntry_0_0_LogT : FAd Try.prog 51 0 0 := FAd.mk' (ft := 2) Try.underlying51 rfl rfl rfl rfl
instance i_FAd_api_LogEntry_1_1_LogT : FAd Try.prog 51 1 1 := FAd.mk' (ft := 49) Try.underlying51 rfl rfl rfl rfl
instance i_TyD_Sl_api_LogEntry_LogT : TyD Try.prog 26 (.slice 51) := ⟨Try.underlying26⟩
instance i_TyI_Sl_api_LogEntry_LogT : TyI Try.prog 26 1 24 (.slice none 0 0) := ⟨info_of (by kernel_rfl), rfl, rfl⟩
instance i_TyI_raftlog_Log_LogT : TyI Try.prog 28 8 88 (.agg #[.pointer none, .string ⟨#[]⟩, .int .i64 0, .int .i64 0, .int .i64 0, .int .i64 0, .slice none 0 0, .bool false]) := ⟨info_of (by kernel_rfl), rfl, rfl⟩
instance i_StD_raftlog_Log_LogT : StD Try.prog 28 [(0, 1), (1, 1), (2, 2), (4, 1), (5, 1), (6, 1), (7, 1)] := ⟨_, Try.underlying28, by kernel_rfl⟩
instance i_FAd_raftlog_Log_0_0_LogT : FAd Try.prog 28 0 0 := FAd.mk' (ft := 23) Try.underlying28 rfl rfl rfl rfl
instance i_FAd_raftlog_Log_1_1_LogT : FAd Try.prog 28 1 1 := FAd.mk' (ft := 9) Try.underlying28 rfl rfl rfl rfl
instance i_FAd_raftlog_Log_2_2_LogT : FAd Try.prog 28 2 2 := FAd.mk' (ft := 25) Try.underlying28 rfl rfl rfl rfl
instance i_FAd_raftlog_Log_3_4_LogT : FAd Try.prog 28 3 4 := FAd.mk' (ft := 2) Try.underlying28 rfl rfl rfl rfl
instance i_FAd_raftlog_Log_4_5_LogT : FAd Try.prog 28 4 5 := FAd.mk' (ft := 2) Try.underlying28 rfl rfl rfl rfl
instance i_FAd_raftlog_Log_5_6_LogT : FAd Try.prog 28 5 6 := FAd.mk' (ft := 26) Try.underlying28 rfl rfl rfl rfl
instance i_FAd_raftlog_Log_6_7_LogT : FAd Try.prog 28 6 7 := FAd.mk' (ft := 4) Try.underlying28 rfl rfl rfl rfl
instance i_TyD_hectarelaw18_state_LogT : TyD Try.prog 79 (.struct #[fd "term" 2 0 "hectare/hectarelaw18" 0, fd "vote" 3 1 "hectare/hectarelaw18" 8, fd "base" 2 2 "hectare/hectarelaw18" 16, fd "base0" 2 3 "hectare/hectarelaw18" 24, fd "l" 26 4 "hectare/hectarelaw18" 32]) := ⟨Try.underlying79⟩
instance i_TyI_hectarelaw18_state_LogT : TyI Try.prog 79 5 56 (.agg #[.int .i64 0, .int .i64 0, .int .i64 0, .int .i64 0, .slice none 0 0]) := ⟨info_of (by kernel_rfl), rfl, rfl⟩
instance i_StD_hectarelaw18_state_LogT : StD Try.prog 79 [(0, 1), (1, 1), (2, 1), (3, 1), (4, 1)] := ⟨_, Try.underlying79, by kernel_rfl⟩
instance i_FAd_hectarelaw18_state_0_0_LogT : FAd Try.prog 79 0 0 := FAd.mk' (ft := 2) Try.underlying79 rfl rfl rfl rfl
instance i_FAd_hectarelaw18_state_1_1_LogT : FAd Try.prog 79 1 1 := FAd.mk' (ft := 3) Try.underlying79 rfl rfl rfl rfl
instance i_FAd_hectarelaw18_state_2_2_LogT : FAd Try.prog 79 2 2 := FAd.mk' (ft := 2) Try.underlying79 rfl rfl rfl rfl
instance i_FAd_hectarelaw18_state_3_3_LogT : FAd Try.prog 79 3 3 := FAd.mk' (ft := 2) Try.underlying79 rfl rfl rfl rfl
instance i_FAd_hectarelaw18_state_4_4_LogT : FAd Try.prog 79 4 4 := FAd.mk' (ft := 26) Try.underlying79 rfl rfl rfl rfl
instance i_TyD_P_raftlog_Log_LogT : TyD Try.prog 22 (.pointer 28) := ⟨Try.underlying22⟩
instance i_TyI_P_raftlog_Log_LogT : TyI Try.prog 22 1 8 (.pointer none) := ⟨info_of (by kernel_rfl), rfl, rfl⟩
instance i_TyD_func_cd_api_Errno_LogT : TyD Try.prog 41 (.func #[] #[36] false) := ⟨Try.underlying41⟩
instance i_TyI_func_cd_api_Errno_LogT : TyI Try.prog 41 1 8 .nilFunc := ⟨info_of (by kernel_rfl), rfl, rfl⟩
instance i_TyD_Sl_func_cd_api_Errno_LogT : TyD Try.prog 91 (.slice 41) := ⟨Try.underlying91⟩
end Go.Proofs.Ytnioldkmckmajaa
/-
  Logs: records.
-/
namespace Go.Proofs.Ytnioldkmckmajaa
open Go Go.Eng Go.Pln
attribute [local irreducible] AWp AL DAL AOp TAL
instance i_record : FnC Try.prog 47 := ⟨Try.f47, Try.func47, by kernel_rfl, by kernel_rfl⟩
instance i_state : FnC Try.prog 25 := ⟨Try.f25, Try.func25, by kernel_rfl, by kernel_rfl⟩
instance i_base : FnC Try.prog 77 := ⟨Try.f77, Try.func77, by kernel_rfl, by kernel_rfl⟩
instance i_entry : FnC Try.prog 30 := ⟨Try.f30, Try.func30, by kernel_rfl, by kernel_rfl⟩
def recB (k : Nat) (ll : List (List UInt8)) : List UInt8 := Frm.putB (vnt k ++ ll.flatten)
theorem mixedT : Try.prog.follows .mixedOrders = true := by kernel_rfl
set_option maxHeartbeats 1000000 in
theorem record_c (k : Nat) (v : Value) (ll : List (List UInt8)) (h : Heap) (r : RBB h v ll) (hk : k ≤ 9) (hn : ll.length ≤ 1000) (hl : ll.flatten.length ≤ 2000000) :
    ACalls Try.prog 47 [.int .i64 (k : Nat), v] h fun u h' => OS h.next h' 5 u (bv (recB k ll)) ∧ Ext h h' := by
  refine ACalls.wf fun wf => ?_
  refine ACalls.body Try.func47 rfl rfl ?_
  obtain ⟨vs, r1, r2, r3⟩ := r
  obtain ⟨a, c, hv⟩ := r1.slice
  repeat (first | refine AL.nil ?_ | refine AWp.seq ?_ | refine AWp.region ?_ | refine AL.set rfl rfl (op_moveI rfl ?_) | refine AL.set rfl rfl (op_assignS rfl ?_))
  refine AL.set rfl rfl (op_call rfl rfl ((num_c k h (by omega)).wf_post.mono ?_))
  rintro u1 H1 ⟨⟨o1, x1⟩, w1, n1⟩
  have e1 : oneB u1 = true := (RS.one o1.rs).1
  skip
  refine AL.set rfl rfl (op_row [u1] rfl rfl rfl rfl (by intro w hw; rw [List.mem_singleton.1 hw]; exact e1) ?_)
  have g2 := Heap.alloc_new H1 ⟨[u1], 49, true⟩
  have x2 := w1.ext ⟨[u1], 49, true⟩
  have w2 := w1.alloc ⟨[u1], 49, true⟩
  have n2 : (H1.alloc ⟨[u1], 49, true⟩).next = H1.next + 1 := rfl
  generalize H1.alloc ⟨[u1], 49, true⟩ = H2 at g2 x2 w2 n2 ⊢
  have o2 : OS h.next H2 49 (.slice (some ⟨H1.next, 0, some 1⟩) 1 1) [u1] := .inr ⟨H1.next, 1, n1, rfl, g2⟩
  have x02 := x1.trans x2
  repeat (first | refine AL.set rfl rfl (op_move (v := v) rfl ?_))
  have hone : vs.all oneB = true := rbb_ones r2 r3
  refine AL.set rfl rfl (op_appendO (by_ := 24) (z := .slice none 0 0) (B := h.next) (e := 49) rfl w2 (by omega) o2 rfl rfl (r1.ext x02).src rfl hone (by simp only [maxLen, List.length_cons, List.length_nil]; omega) (by simp only [List.length_cons, List.length_nil]; omega) ?_)
  intro u3 H3 o3 k3 w3 n3
  have x3 : Ext h H3 := k3.ext o2 wf (Nat.le_refl _) x02
  have x23 : RB H3 u1 (vnt k) := by
    have q : OS h.next H3 5 u1 (bv (vnt k)) := OS.elem (o1.ext x2) fun j b hj he => by
      refine k3.c j b hj fun s n c' hu => ?_
      cases hu
      rw [g2] at hj
      cases hj
      cases he
    exact OS.rs q
  have rbb : RBB H3 u3 (vnt k :: ll) := by
    refine ⟨[u1] ++ vs, o3.rs, by simp [r2], fun j x l hx hl2 => ?_⟩
    cases j with
    | zero => simp at hx hl2; subst hx hl2; exact x23
    | succ j => exact (r3 j x l (by simpa using hx) (by simpa using hl2)).ext x3
  have h10 := vnt_len10 k (by omega)
  have hfl : (vnt k :: ll).flatten = vnt k ++ ll.flatten := by simp
  refine AL.set rfl rfl (op_call rfl rfl ((join_c u3 (vnt k :: ll) H3 rbb (by simp only [List.length_cons]; omega) (by rw [hfl, List.length_append]; omega)).wf_post.mono ?_))
  rintro u4 H4 ⟨⟨o4, x4⟩, w4, n4⟩
  rw [hfl] at o4
  refine AL.set rfl rfl (op_call rfl rfl ((Fr.put_c u4 (vnt k ++ ll.flatten) H4 o4.rs (by rw [List.length_append]; omega)).wf_post.mono ?_))
  rintro u5 H5 ⟨⟨w, rfl, o5, x5⟩, w5, n5⟩
  repeat (first | refine AL.nil ?_ | refine AWp.seq ?_ | refine AWp.region ?_ | refine AWp.ret ?_ | refine AL.set rfl rfl (op_moveT rfl ?_) | refine AL.set rfl rfl (op_assignI rfl ?_) | refine AL.set rfl rfl (op_extract rfl rfl ?_) | refine AL.set rfl rfl (op_assign (v := w) rfl ?_) | refine AL.set rfl rfl (op_move (v := w) rfl ?_))
  exact ⟨_, ResV.tmp rfl, OS.low o5 (by omega), x3.trans (x4.trans x5)⟩
set_option maxHeartbeats 1000000 in
theorem baseRecord_c (a b : Nat) (h : Heap) (ha : a ≤ 2147483647) (hb : b ≤ 2147483647) :
    ACalls Try.prog 77 [.int .i64 (a : Nat), .int .i64 (b : Nat)] h fun u h' => OS h.next h' 5 u (bv (recB 1 [vnt a, vnt b])) ∧ Ext h h' := by
  refine ACalls.wf fun wf => ?_
  refine ACalls.body Try.func77 rfl rfl ?_
  repeat (first | refine AL.nil ?_ | refine AWp.seq ?_ | refine AWp.region ?_ | refine AL.set rfl rfl (op_moveI rfl ?_) | refine AL.set rfl rfl (op_assignS rfl ?_))
  refine AL.set rfl rfl (op_call rfl rfl ((num_c a h (by omega)).wf_post.mono ?_))
  rintro u1 H1 ⟨⟨o1, x1⟩, w1, n1⟩
  repeat (first | refine AL.set rfl rfl (op_moveI rfl ?_))
  refine AL.set rfl rfl (op_call rfl rfl ((num_c b H1 (by omega)).wf_post.mono ?_))
  rintro u2 H2 ⟨⟨o2, x2⟩, w2, n2⟩
  have e1 : oneB u1 = true := (RS.one o1.rs).1
  have e2 : oneB u2 = true := (RS.one o2.rs).1
  skip
  refine AL.set rfl rfl (op_row [u1, u2] rfl rfl rfl rfl (by intro w hw; simp only [List.mem_cons, List.not_mem_nil, or_false] at hw; rcases hw with hw | hw <;> rw [hw] <;> assumption) ?_)
  have g3 := Heap.alloc_new H2 ⟨[u1, u2], 49, true⟩
  have x3 := w2.ext ⟨[u1, u2], 49, true⟩
  have w3 := w2.alloc ⟨[u1, u2], 49, true⟩
  have n3 : (H2.alloc ⟨[u1, u2], 49, true⟩).next = H2.next + 1 := rfl
  generalize H2.alloc ⟨[u1, u2], 49, true⟩ = H3 at g3 x3 w3 n3 ⊢
  have rbb : RBB H3 (.slice (some ⟨H2.next, 0, some 1⟩) 2 2) [vnt a, vnt b] := RBB.row g3 rfl ⟨RB.ext (OS.rs o1) (x2.trans x3), RB.ext (OS.rs o2) x3, trivial⟩
  have l1 := vnt_len10 a (by omega)
  have l2 := vnt_len10 b (by omega)
  refine AL.set rfl rfl (op_call rfl rfl ((record_c 1 _ [vnt a, vnt b] H3 rbb (by omega) (by simp) (by simp; omega)).wf_post.mono ?_))
  rintro u4 H4 ⟨⟨o4, x4⟩, w4, n4⟩
  repeat (first | refine AL.nil ?_ | refine AWp.ret ?_ | refine AL.set rfl rfl (op_assign (v := u4) rfl ?_))
  exact ⟨_, ResV.tmp rfl, OS.low o4 (by omega), (x1.trans (x2.trans x3)).trans x4⟩
set_option maxHeartbeats 1000000 in
theorem stateRecord_c (a b : Nat) (h : Heap) (ha : a ≤ 2147483647) (hb : b ≤ 2147483647) :
    ACalls Try.prog 25 [.agg #[.int .i64 (a : Nat), .int .i64 (b : Nat)]] h fun u h' => RB h' u (recB 2 [vnt a, vnt b]) ∧ Ext h h' := by
  refine ACalls.wf fun wf => ?_
  refine ACalls.body Try.func25 rfl rfl ?_
  have l1 := vnt_len10 a (by omega)
  have l2 := vnt_len10 b (by omega)
  repeat (first | refine AWp.seq ?_ | refine AWp.region ?_)
  refine AL.set rfl rfl (op_box (v := .agg #[.int .i64 (a : Nat), .int .i64 (b : Nat)]) rfl (by intro e; cases e) ?_)
  have g1 := Heap.alloc_new h ⟨[.int .i64 (a : Nat), .int .i64 (b : Nat)], 25, true⟩
  have x1 := wf.ext ⟨[.int .i64 (a : Nat), .int .i64 (b : Nat)], 25, true⟩
  have w1 := wf.alloc ⟨[.int .i64 (a : Nat), .int .i64 (b : Nat)], 25, true⟩
  refine AL.heap (h := h.alloc ⟨[.int .i64 (a : Nat), .int .i64 (b : Nat)], 25, true⟩) rfl ?_
  generalize h.next = p at g1 ⊢
  generalize h.alloc ⟨[.int .i64 (a : Nat), .int .i64 (b : Nat)], 25, true⟩ = H1 at g1 x1 w1 ⊢
  repeat (first | refine AL.nil ?_ | refine AWp.seq ?_ | refine AL.set rfl rfl (op_assignS rfl ?_))
  refine AWp.flow ([.eq (.pointer (some ⟨p, 0, none⟩)), .eq (.int .i64 (a : Nat)), .rb (vnt a), .eq (.pointer (some ⟨p, 1, none⟩)), .eq (.int .i64 (b : Nat)), .rb (vnt b), .rbb [vnt a, vnt b], .rb (recB 2 [vnt a, vnt b]), .rb (recB 2 [vnt a, vnt b])]) mixedT (by kernel_rfl) ?_ ?_
  · intro e h' hx wf' hn low hd
    have hres : RB h' (e.get 2) (recB 2 [vnt a, vnt b]) := hd 8 (by decide)
    repeat (first | refine AWp.ret ?_)
    exact ⟨_, ResV.tmp rfl, hres, x1.trans hx⟩
  refine FlowL.cons (fun e h' hx wf' hn low hd => .inl ⟨rfl, op_fa (off := 0) (low 1 rfl) ⟨Ext.refl _, rfl⟩⟩) ?_
  refine FlowL.cons (fun e h' hx wf' hn low hd => .inl ⟨rfl, op_load (hd 0 (by kernel_rfl)) rfl (hx.c _ _ g1) rfl ⟨Ext.refl _, rfl⟩⟩) ?_
  refine FlowL.cons (fun e h' hx wf' hn low hd => .inl ⟨rfl, op_call rfl (congrArg (fun z => [z]) (hd 1 (by kernel_rfl))) ((num_c a h' (by omega)).mono fun u H q => ⟨q.2, OS.rs q.1⟩)⟩) ?_
  refine FlowL.cons (fun e h' hx wf' hn low hd => .inl ⟨rfl, op_fa (off := 1) (low 1 rfl) ⟨Ext.refl _, rfl⟩⟩) ?_
  refine FlowL.cons (fun e h' hx wf' hn low hd => .inl ⟨rfl, op_load (hd 3 (by kernel_rfl)) rfl (hx.c _ _ g1) rfl ⟨Ext.refl _, rfl⟩⟩) ?_
  refine FlowL.cons (fun e h' hx wf' hn low hd => .inl ⟨rfl, op_call rfl (congrArg (fun z => [z]) (hd 4 (by kernel_rfl))) ((num_c b h' (by omega)).mono fun u H q => ⟨q.2, OS.rs q.1⟩)⟩) ?_
  refine FlowL.cons (fun e h' hx wf' hn low hd => ?_) ?_
  · have r1 : RB h' (e.get 5) (vnt a) := hd 2 (by kernel_rfl)
    have r2 : RB h' (e.get 8) (vnt b) := hd 5 (by kernel_rfl)
    exact .inl ⟨rfl, op_row [e.get 5, e.get 8] rfl rfl rfl rfl (by intro w hw; simp only [List.mem_cons, List.not_mem_nil, or_false] at hw; rcases hw with hw | hw <;> rw [hw]; exact (RS.one r1).1; exact (RS.one r2).1) ⟨wf'.ext _, RBB.row (Heap.alloc_new _ _) rfl ⟨r1.ext (wf'.ext _), r2.ext (wf'.ext _), trivial⟩⟩⟩
  refine FlowL.cons (fun e h' hx wf' hn low hd => .inl ⟨rfl, op_call rfl rfl ((record_c 2 _ [vnt a, vnt b] h' (hd 6 (by kernel_rfl)) (by omega) (by simp) (by simp; omega)).mono fun u H q => ⟨q.2, OS.rs q.1⟩)⟩) ?_
  refine FlowL.cons (fun e h' hx wf' hn low hd => .inl ⟨rfl, op_assign rfl ⟨Ext.refl _, hd 7 (by kernel_rfl)⟩⟩) ?_
  exact FlowL.nil
set_option maxHeartbeats 1000000 in
theorem entryRecord_c (i a : Nat) (v : Value) (d : List UInt8) (h : Heap) (r : RB h v d) (hi : i ≤ 2147483647) (ha : a ≤ 2147483647) (hd0 : d.length ≤ 1000000) :
    ACalls Try.prog 30 [.int .i64 (i : Nat), .agg #[.int .i64 (a : Nat), v]] h fun u h' => RB h' u (recB 3 [vnt i, vnt a, spelt d]) ∧ Ext h h' := by
  refine ACalls.wf fun wf => ?_
  refine ACalls.body Try.func30 rfl rfl ?_
  have l1 := vnt_len10 a (by omega)
  have l2 := vnt_len10 i (by omega)
  have l3 := vnt_len10 d.length (by omega)
  repeat (first | refine AWp.seq ?_ | refine AWp.region ?_)
  refine AL.set rfl rfl (op_box (v := .agg #[.int .i64 (a : Nat), v]) rfl (by intro e; cases e) ?_)
  have g1 := Heap.alloc_new h ⟨[.int .i64 (a : Nat), v], 51, true⟩
  have x1 := wf.ext ⟨[.int .i64 (a : Nat), v], 51, true⟩
  have w1 := wf.alloc ⟨[.int .i64 (a : Nat), v], 51, true⟩
  refine AL.heap (h := h.alloc ⟨[.int .i64 (a : Nat), v], 51, true⟩) rfl ?_
  generalize h.next = p at g1 ⊢
  generalize h.alloc ⟨[.int .i64 (a : Nat), v], 51, true⟩ = H1 at g1 x1 w1 ⊢
  have r1 := r.ext x1
  repeat (first | refine AL.nil ?_ | refine AWp.seq ?_ | refine AL.set rfl rfl (op_assignS rfl ?_))
  refine AWp.flow ([.eq (.int .i64 (i : Nat)), .rb (vnt i), .eq (.pointer (some ⟨p, 0, none⟩)), .eq (.int .i64 (a : Nat)), .rb (vnt a), .eq (.pointer (some ⟨p, 1, none⟩)), .eq v, .rb (spelt d), .rbb [vnt i, vnt a, spelt d], .rb (recB 3 [vnt i, vnt a, spelt d]), .rb (recB 3 [vnt i, vnt a, spelt d])]) mixedT (by kernel_rfl) ?_ ?_
  · intro e h' hx wf' hn low hd
    have hres : RB h' (e.get 4) (recB 3 [vnt i, vnt a, spelt d]) := hd 10 (by decide)
    repeat (first | refine AWp.ret ?_)
    exact ⟨_, ResV.tmp rfl, hres, x1.trans hx⟩
  refine FlowL.cons (fun e h' hx wf' hn low hd => .inl ⟨rfl, op_move (v := .int .i64 (i : Nat)) (low 0 rfl) ⟨Ext.refl _, rfl⟩⟩) ?_
  refine FlowL.cons (fun e h' hx wf' hn low hd => .inl ⟨rfl, op_call rfl (congrArg (fun z => [z]) (hd 0 (by kernel_rfl))) ((num_c i h' (by omega)).mono fun u H q => ⟨q.2, OS.rs q.1⟩)⟩) ?_
  refine FlowL.cons (fun e h' hx wf' hn low hd => .inl ⟨rfl, op_fa (off := 0) (low 3 rfl) ⟨Ext.refl _, rfl⟩⟩) ?_
  refine FlowL.cons (fun e h' hx wf' hn low hd => .inl ⟨rfl, op_load (hd 2 (by kernel_rfl)) rfl (hx.c _ _ g1) rfl ⟨Ext.refl _, rfl⟩⟩) ?_
  refine FlowL.cons (fun e h' hx wf' hn low hd => .inl ⟨rfl, op_call rfl (congrArg (fun z => [z]) (hd 3 (by kernel_rfl))) ((num_c a h' (by omega)).mono fun u H q => ⟨q.2, OS.rs q.1⟩)⟩) ?_
  refine FlowL.cons (fun e h' hx wf' hn low hd => .inl ⟨rfl, op_fa (off := 1) (low 3 rfl) ⟨Ext.refl _, rfl⟩⟩) ?_
  refine FlowL.cons (fun e h' hx wf' hn low hd => .inl ⟨rfl, op_load (hd 5 (by kernel_rfl)) rfl (hx.c _ _ g1) rfl ⟨Ext.refl _, rfl⟩⟩) ?_
  refine FlowL.cons (fun e h' hx wf' hn low hd => .inl ⟨rfl, op_call rfl (congrArg (fun z => [z]) (hd 6 (by kernel_rfl))) ((bytes_c v d h' (r1.ext hx) hd0).mono fun u H q => ⟨q.2, OS.rs q.1⟩)⟩) ?_
  refine FlowL.cons (fun e h' hx wf' hn low hd => ?_) ?_
  · have r2 : RB h' (e.get 6) (vnt i) := hd 1 (by kernel_rfl)
    have r3 : RB h' (e.get 9) (vnt a) := hd 4 (by kernel_rfl)
    have r4 : RB h' (e.get 12) (spelt d) := hd 7 (by kernel_rfl)
    exact .inl ⟨rfl, op_row [e.get 6, e.get 9, e.get 12] rfl rfl rfl rfl (by intro w hw; simp only [List.mem_cons, List.not_mem_nil, or_false] at hw; rcases hw with hw | hw | hw <;> rw [hw]; exact (RS.one r2).1; exact (RS.one r3).1; exact (RS.one r4).1) ⟨wf'.ext _, RBB.row (Heap.alloc_new _ _) rfl ⟨r2.ext (wf'.ext _), r3.ext (wf'.ext _), r4.ext (wf'.ext _), trivial⟩⟩⟩
  refine FlowL.cons (fun e h' hx wf' hn low hd => .inl ⟨rfl, op_call rfl rfl ((record_c 3 _ [vnt i, vnt a, spelt d] h' (hd 8 (by kernel_rfl)) (by omega) (by simp) (by simp [spelt]; omega)).mono fun u H q => ⟨q.2, OS.rs q.1⟩)⟩) ?_
  refine FlowL.cons (fun e h' hx wf' hn low hd => .inl ⟨rfl, op_assign rfl ⟨Ext.refl _, hd 9 (by kernel_rfl)⟩⟩) ?_
  exact FlowL.nil
end Go.Proofs.Ytnioldkmckmajaa
/-
  The engine: operations whose answer is yes or no, both ways walked at once.
-/
namespace Go.Eng
open Go
section
variable {P : Program} {ρ : Operand → Value} {h : Heap} {K : Value → Heap → Prop} {dst : Option Tmp} {ty : TypeId} {pos : String} {aft : Array Edge} {g : Option (Nat × Bool)}
theorem op_storeW {t e : TypeId} {x y : Operand} {H : Heap} {sz by_ : Nat} {z : Value} {s : Option Nat} {old vs : List Value} [ti : TyI P t sz by_ z] (hx : ρ x = .pointer (some ⟨H.next, 0, s⟩)) (hy : ρ y = .agg vs.toArray) (hsz : vs.length = sz) (ho : old.length = sz) (h1 : vs.all oneB = true)
    (kk : K undef (H.alloc ⟨vs, e, true⟩)) : AOp P ⟨dst, .store t x y, ty, pos, aft, g⟩ ρ (H.alloc ⟨old, e, true⟩) K := by
  refine op_storeA (vs := vs.toArray) hx hy (by simpa using h1) (by simpa using hsz) (Heap.alloc_new _ _) rfl (by show 0 + sz ≤ old.length; omega) ?_
  have e1 : splice old 0 vs = vs := by
    unfold splice
    rw [List.drop_of_length_le (by omega)]
    simp
  show K undef ((H.alloc ⟨old, e, true⟩).set H.next ⟨splice old 0 vs, e, true⟩)
  rw [e1, Heap.set_alloc]
  exact kk
end
end Go.Eng
/-
  The engine: regions that draw their order, walked both ways where a test is undecided.
-/
namespace Go.Eng
open Go
def allR : Nat → Nat → List (Nat × Kd)
  | _, 0 => []
  | k, n + 1 => (k, .R) :: allR (k + 1) n
section
variable {P : Program} {N : Nat} {ops : Array Oper} {Q : Exit → Env → Heap → Prop} {env : Env} {h : Heap}
theorem AWp.drawR {id : Nat} (hm : P.follows .mixedOrders = true) (hb : drawB ops (allR 0 ops.size) = true) (p : DAL P N ops Q (allR 0 ops.size) env h) : AWp P N (.region id ops true) Q env h := .draw hm hb p
variable {σ : List (Nat × Kd)} {i : Nat} {d : Tmp} {op : Op} {ty : TypeId} {pos : String} {aft : Array Edge} {g : Option (Nat × Bool)}
end
end Go.Eng
/-
  Logs: a log in memory; what is read of it.
-/
namespace Go.Proofs.Ytnioldkmckmajaa
open Go Go.Eng Go.Pln
attribute [local irreducible] AWp AL DAL AOp TAL
instance i_is : FnC Try.prog 18 := ⟨Try.f18, Try.func18, by kernel_rfl, by kernel_rfl⟩
instance i_last : FnC Try.prog 19 := ⟨Try.f19, Try.func19, by kernel_rfl, by kernel_rfl⟩
instance i_termAt : FnC Try.prog 20 := ⟨Try.f20, Try.func20, by kernel_rfl, by kernel_rfl⟩
instance i_ready : FnC Try.prog 22 := ⟨Try.f22, Try.func22, by kernel_rfl, by kernel_rfl⟩
instance i_State : FnC Try.prog 7 := ⟨Try.f7, Try.func7, by kernel_rfl, by kernel_rfl⟩
instance i_Base : FnC Try.prog 5 := ⟨Try.f5, Try.func5, by kernel_rfl, by kernel_rfl⟩
instance i_Last : FnC Try.prog 6 := ⟨Try.f6, Try.func6, by kernel_rfl, by kernel_rfl⟩
instance i_Term : FnC Try.prog 4 := ⟨Try.f4, Try.func4, by kernel_rfl, by kernel_rfl⟩
abbrev ptr (i : Nat) : Value := .pointer (some ⟨i, 0, none⟩)
abbrev nt (n : Nat) : Value := .int .i64 (n : Int)
structure LogM where
  term : Nat
  vote : Nat
  base : Nat
  base0 : Nat
  l : List (Nat × List UInt8)
def LogM.last (s : LogM) : Nat := s.base + s.l.length
def LogM.at (s : LogM) (i : Nat) : Nat := if i = s.base then s.base0 else (s.l.getD (i - s.base - 1) (0, [])).1
structure LogM.Ok (s : LogM) : Prop where
  t : s.term ≤ 2147483647
  v : s.vote ≤ 5
  b : s.base ≤ 2147483647
  b0 : s.base0 ≤ 2147483647
  n : s.l.length ≤ 1000
  e : ∀ x ∈ s.l, x.1 ≤ 2147483647 ∧ x.2.length ≤ 524288
abbrev logC (d : Value) (name : List UInt8) (s : LogM) (lv : Value) : List Value := [d, .string (bstr name), nt s.term, nt s.vote, nt s.base, nt s.base0, lv, .bool false]
abbrev logB (d : Value) (name : List UInt8) (s : LogM) (lv : Value) : Blk := ⟨logC d name s lv, 28, true⟩
structure Kd (h h' : Heap) : Prop where
  c : ∀ j b, h.get j = some b → b.elem ≠ 28 → b.elem ≠ 68 → h'.get j = some b
  n : h.next ≤ h'.next
theorem Kd.trans {a b c : Heap} (x : Kd a b) (y : Kd b c) : Kd a c := ⟨fun j q h1 h2 h3 => y.c j q (x.c j q h1 h2 h3) h2 h3, Nat.le_trans x.n y.n⟩
theorem Kd.ext {a b : Heap} (x : Ext a b) (n : a.next ≤ b.next) : Kd a b := ⟨fun j q h1 _ _ => x.c j q h1, n⟩
def RBE (h : Heap) (v : Value) (b : List UInt8) : Prop := RB h v b ∧ (b ≠ [] → ∃ q x, vblk v = some q ∧ h.get q = some x ∧ x.elem = 5)
def RNE (h : Heap) (v : Value) (rows : List (List Value)) : Prop := RN 2 h v rows ∧ (rows ≠ [] → ∃ q x, vblk v = some q ∧ h.get q = some x ∧ x.elem = 51)
theorem RS.keep2 {h h' : Heap} {v : Value} {vs : List Value} (r : RS h v vs) (hk : vs ≠ [] → ∀ i b, vblk v = some i → h.get i = some b → h'.get i = some b) : RS h' v vs := by
  rcases r with ⟨rfl, rfl⟩ | ⟨i, o, s, c, rfl, hs, hb⟩
  · exact RS.nil h'
  · refine .inr ⟨i, o, s, c, rfl, hs, fun hv => ?_⟩
    obtain ⟨b, q1, q2⟩ := hb hv
    exact ⟨b, hk hv i b rfl q1, q2⟩
theorem RBE.kd {h h' : Heap} {v : Value} {b : List UInt8} (r : RBE h v b) (k : Kd h h') : RBE h' v b := by
  have key : b ≠ [] → ∀ i x, vblk v = some i → h.get i = some x → h'.get i = some x ∧ x.elem = 5 := by
    intro hv i x hi hx
    obtain ⟨q, y, q1, q2, q3⟩ := r.2 hv
    rw [q1] at hi; cases hi
    rw [q2] at hx; cases hx
    exact ⟨k.c _ _ q2 (by rw [q3]; decide) (by rw [q3]; decide), q3⟩
  refine ⟨RS.keep2 r.1 fun hv i x hi hx => (key (by intro e; subst e; exact hv rfl) i x hi hx).1, fun hv => ?_⟩
  obtain ⟨q, y, q1, q2, q3⟩ := r.2 hv
  exact ⟨q, y, q1, (key hv q y q1 q2).1, q3⟩
theorem RNE.kd {h h' : Heap} {v : Value} {rows : List (List Value)} (r : RNE h v rows) (k : Kd h h') : RNE h' v rows := by
  have key : rows ≠ [] → ∀ i x, vblk v = some i → h.get i = some x → h'.get i = some x := by
    intro hv i x hi hx
    obtain ⟨q, y, q1, q2, q3⟩ := r.2 hv
    rw [q1] at hi; cases hi
    rw [q2] at hx; cases hx
    exact k.c _ _ q2 (by rw [q3]; decide) (by rw [q3]; decide)
  refine ⟨⟨r.1.len, r.1.at_.imp id fun ⟨i, o, s, cap, h1, h2, h3⟩ => ⟨i, o, s, cap, h1, h2, fun hv => by
    obtain ⟨b, h4, h5⟩ := h3 hv
    exact ⟨b, key hv i b (by rw [h1]; rfl) h4, h5⟩⟩⟩, fun hv => ?_⟩
  obtain ⟨q, y, q1, q2, q3⟩ := r.2 hv
  exact ⟨q, y, q1, key hv q y q1 q2, q3⟩
theorem RBE.os {B : Nat} {h : Heap} {v : Value} {b : List UInt8} (o : OS B h 5 v (bv b)) : RBE h v b :=
  ⟨OS.rs o, fun hb => by
    rcases o with ⟨_, h2⟩ | ⟨i, c, _, rfl, h2⟩
    · exact absurd (List.eq_nil_of_length_eq_zero (by rw [← bv_length, h2]; rfl)) hb
    · exact ⟨i, _, rfl, h2, rfl⟩⟩
theorem RNE.on {B : Nat} {h : Heap} {v : Value} {rows : List (List Value)} (o : ON B 2 h 51 v rows) : RNE h v rows :=
  ⟨o.rn, fun hb => by
    rcases o.at_ with ⟨_, h2⟩ | ⟨i, c, _, rfl, h2⟩
    · exact absurd h2 hb
    · exact ⟨i, _, rfl, h2, rfl⟩⟩
theorem RNE.nil (h : Heap) : RNE h (.slice none 0 0) [] := ⟨RN.nil _ _, fun e => absurd rfl e⟩
theorem vblk_full (v : Value) (m : Nat) (i : Nat) (h : vblk v = some i) : vblk (fullN v m) = some i := by
  unfold vblk at h
  split at h
  · cases h; rfl
  · cases h
theorem vblk_sub2 (c : Nat) (v : Value) (l m : Int) (i : Nat) (h : vblk v = some i) : vblk (subN c v l m) = some i := by
  unfold vblk at h
  split at h
  · cases h; rfl
  · cases h
theorem RNE.full {h : Heap} {v : Value} {rows : List (List Value)} (r : RNE h v rows) {m : Nat} (hm : m ≤ rows.length) : RNE h (fullN v m) (rows.take m) :=
  ⟨r.1.full hm, fun hb => by
    obtain ⟨q, x, q1, q2, q3⟩ := r.2 (by intro e; subst e; exact hb (by simp))
    exact ⟨q, x, vblk_full v m q q1, q2, q3⟩⟩
theorem RNE.sub {h : Heap} {v : Value} {rows : List (List Value)} (r : RNE h v rows) {l m : Int} (h0 : 0 ≤ l) (h1 : l ≤ m) (h2 : m ≤ rows.length) : RNE h (subN 2 v l m) ((rows.take m.toNat).drop l.toNat) :=
  ⟨r.1.sub h0 h1 h2, fun hb => by
    obtain ⟨q, x, q1, q2, q3⟩ := r.2 (by intro e; subst e; exact hb (by simp))
    exact ⟨q, x, vblk_sub2 2 v l m q q1, q2, q3⟩⟩
structure EntR (h : Heap) (rows : List (List Value)) (l : List (Nat × List UInt8)) : Prop where
  len : rows.length = l.length
  at_ : ∀ (k : Nat) row x, rows[k]? = some row → l[k]? = some x → ∃ v, row = [nt x.1, v] ∧ RBE h v x.2
theorem EntR.kd {h h' : Heap} {rows : List (List Value)} {l : List (Nat × List UInt8)} (r : EntR h rows l) (k : Kd h h') : EntR h' rows l :=
  ⟨r.len, fun j row x h1 h2 => by obtain ⟨v, e, q⟩ := r.at_ j row x h1 h2; exact ⟨v, e, q.kd k⟩⟩
theorem EntR.nil (h : Heap) : EntR h [] [] := ⟨rfl, fun k row x h1 => by simp at h1⟩
theorem EntR.take {h : Heap} {rows : List (List Value)} {l : List (Nat × List UInt8)} (r : EntR h rows l) (m : Nat) : EntR h (rows.take m) (l.take m) :=
  ⟨by rw [List.length_take, List.length_take, r.len], fun k row x h1 h2 => by
    rw [List.getElem?_take] at h1 h2
    split at h1
    · rename_i hk; rw [if_pos hk] at h2; exact r.at_ k row x h1 h2
    · cases h1⟩
theorem EntR.drop {h : Heap} {rows : List (List Value)} {l : List (Nat × List UInt8)} (r : EntR h rows l) (m : Nat) : EntR h (rows.drop m) (l.drop m) :=
  ⟨by rw [List.length_drop, List.length_drop, r.len], fun k row x h1 h2 => by
    rw [List.getElem?_drop] at h1 h2
    exact r.at_ _ row x h1 h2⟩
theorem EntR.push {h : Heap} {rows : List (List Value)} {l : List (Nat × List UInt8)} (r : EntR h rows l) {v : Value} {x : Nat × List UInt8} (q : RBE h v x.2) : EntR h (rows ++ [[nt x.1, v]]) (l ++ [x]) := by
  refine ⟨by simp [r.len], fun k row y h1 h2 => ?_⟩
  rcases Nat.lt_or_ge k rows.length with hk | hk
  · rw [List.getElem?_append_left hk] at h1
    rw [List.getElem?_append_left (by rw [← r.len]; exact hk)] at h2
    exact r.at_ k row y h1 h2
  · rw [List.getElem?_append_right hk] at h1
    rw [List.getElem?_append_right (by rw [← r.len]; exact hk)] at h2
    have hk0 : k - rows.length = 0 := by
      have := (List.getElem?_eq_some_iff.1 h1).1
      simp at this; omega
    rw [hk0] at h1
    rw [show k - l.length = 0 by rw [← r.len]; exact hk0] at h2
    simp at h1 h2
    subst h1 h2
    exact ⟨v, rfl, q⟩
theorem EntR.row {h : Heap} {rows : List (List Value)} {l : List (Nat × List UInt8)} (r : EntR h rows l) {k : Nat} (hk : k < l.length) : ∃ v, rows[k]? = some [nt (l[k]).1, v] ∧ RBE h v (l[k]).2 := by
  have h1 : k < rows.length := by rw [r.len]; exact hk
  obtain ⟨v, e, q⟩ := r.at_ k rows[k] l[k] (List.getElem?_eq_getElem h1) (List.getElem?_eq_getElem hk)
  exact ⟨v, by rw [List.getElem?_eq_getElem h1, e], q⟩
structure Lg (h : Heap) (g i m room : Nat) (fl : Dsk.FL) (c : Nat) (name : List UInt8) (s : LogM) : Prop where
  ex : ∃ lv rows, h.get g = some (logB (ptr i) name s lv) ∧ RNE h lv rows ∧ EntR h rows s.l
  dsk : Dk.At h i m room fl c
  ok : s.Ok
  nm : name.length ≤ 20
section
variable {h : Heap} {g : Nat} {i : Nat} {name : List UInt8} {s : LogM} {lv : Value}
theorem is_c (hg : h.get g = some (logB (ptr i) name s lv)) : ACalls Try.prog 18 [ptr g] h fun u h' => u = .bool true ∧ h' = h := by
  refine ACalls.body Try.func18 rfl rfl ?_
  repeat (first | refine AL.nil ?_ | refine AWp.seq ?_ | refine AWp.region ?_ | refine AWp.ret ?_ | refine AL.set rfl rfl (op_moveB rfl ?_) | refine AL.set rfl rfl (op_moveP rfl ?_) | refine AL.set rfl rfl (op_assignB rfl ?_) | refine AL.set rfl rfl (op_nePtrNil rfl rfl ?_) | refine AL.set rfl rfl (op_nilCheck rfl ?_) | refine AL.set rfl rfl (op_fa rfl ?_) | refine AL.set rfl rfl (op_load rfl rfl hg rfl ?_) | refine AL.set rfl rfl (op_pick (v := .bool _) rfl rfl ?_))
  exact ⟨_, ResV.tmp rfl, rfl, rfl⟩
theorem last_c (hg : h.get g = some (logB (ptr i) name s lv)) {rows : List (List Value)} (r : RNE h lv rows) (e : rows.length = s.l.length) (ok : s.Ok) : ACalls Try.prog 19 [ptr g] h fun u h' => u = nt s.last ∧ h' = h := by
  refine ACalls.body Try.func19 rfl rfl ?_
  have k1 := ok.b
  have k2 := ok.n
  repeat (first | refine AL.nil ?_ | refine AWp.seq ?_ | refine AWp.region ?_ | refine AL.set rfl rfl (op_assignI rfl ?_))
  refine AWp.drawR mixedT (by kernel_rfl) ?_
  repeat (first | refine DAL.r rfl rfl rfl (fun h' hx hn => op_moveP rfl ⟨rfl, rfl⟩) ?_ | refine DAL.r rfl rfl rfl (fun h' hx hn => op_assignI rfl ⟨rfl, rfl⟩) ?_ | refine DAL.r rfl rfl rfl (fun h' hx hn => op_nilCheck rfl ⟨rfl, rfl⟩) ?_ | refine DAL.r rfl rfl rfl (fun h' hx hn => op_fa rfl ⟨rfl, rfl⟩) ?_ | refine DAL.r rfl rfl rfl (fun h' hx hn => op_load rfl rfl (hx.c _ _ hg) rfl ⟨rfl, rfl⟩) ?_ | refine DAL.r rfl rfl rfl (fun h' hx hn => op_lenN (r.1.ext hx) rfl ⟨rfl, rfl⟩) ?_ | refine DAL.r rfl rfl rfl (fun h' hx hn => op_add64 rfl rfl (by omega) ⟨rfl, rfl⟩) ?_)
  refine DAL.nil ?_
  repeat (first | refine AWp.ret ?_)
  refine ⟨_, ResV.tmp rfl, ?_, rfl⟩
  show Value.int .i64 _ = nt s.last
  rw [e]
  unfold LogM.last
  push_cast
  rfl
theorem termAt_c (hg : h.get g = some (logB (ptr i) name s lv)) {rows : List (List Value)} (r : RNE h lv rows) (e : EntR h rows s.l) (ok : s.Ok) (k : Nat) (h1 : s.base ≤ k) (h2 : k ≤ s.last) : ACalls Try.prog 20 [ptr g, nt k] h fun u h' => u = nt (s.at k) ∧ h' = h := by
  refine ACalls.body Try.func20 rfl rfl ?_
  have k1 := ok.b
  have k2 := ok.n
  unfold LogM.last at h2
  by_cases hb : k = s.base
  · repeat (first | refine AL.nil ?_ | refine AWp.seq ?_ | refine AWp.region ?_ | refine AWp.condT rfl ?_ | refine AWp.ret ?_ | refine AL.set rfl rfl (op_moveI rfl ?_) | refine AL.set rfl rfl (op_moveP rfl ?_) | refine AL.set rfl rfl (op_assignI rfl ?_) | refine AL.set rfl rfl (op_nilCheck rfl ?_) | refine AL.set rfl rfl (op_fa rfl ?_) | refine AL.set rfl rfl (op_load rfl rfl hg rfl ?_) | refine AL.set rfl rfl (op_intT rfl rfl rfl (by omega) ?_))
    refine ⟨_, ResV.tmp rfl, ?_, rfl⟩
    unfold LogM.at
    rw [if_pos hb]
    rfl
  · repeat (first | refine AL.nil ?_ | refine AWp.seq ?_ | refine AWp.region ?_ | refine AWp.condF rfl ?_ | refine AWp.skip ?_ | refine AL.set rfl rfl (op_moveI rfl ?_) | refine AL.set rfl rfl (op_moveP rfl ?_) | refine AL.set rfl rfl (op_assignI rfl ?_) | refine AL.set rfl rfl (op_nilCheck rfl ?_) | refine AL.set rfl rfl (op_fa rfl ?_) | refine AL.set rfl rfl (op_load rfl rfl hg rfl ?_) | refine AL.set rfl rfl (op_intF rfl rfl rfl (by omega) ?_))
    refine AWp.drawR mixedT (by kernel_rfl) ?_
    have hk : k - s.base - 1 < s.l.length := by omega
    obtain ⟨v, hv, q⟩ := e.row hk
    have hv2 : rows[((k : Int) - (s.base : Int) - 1).toNat]? = some [nt (s.l[k - s.base - 1]).1, v] := by rw [show ((k : Int) - (s.base : Int) - 1).toNat = k - s.base - 1 by omega]; exact hv
    have rr := fun (h' : Heap) (hx : Ext h h') => r.1.ext hx
    have pr := fun (h' : Heap) (hx : Ext h h') => (rr h' hx).elt hv2
    repeat (first | refine DAL.r rfl rfl rfl (fun h' hx hn => op_moveI rfl ⟨rfl, rfl⟩) ?_ | refine DAL.r rfl rfl rfl (fun h' hx hn => op_moveP rfl ⟨rfl, rfl⟩) ?_ | refine DAL.r rfl rfl rfl (fun h' hx hn => op_assignI rfl ⟨rfl, rfl⟩) ?_ | refine DAL.r rfl rfl rfl (fun h' hx hn => op_nilCheck rfl ⟨rfl, rfl⟩) ?_ | refine DAL.r rfl rfl rfl (fun h' hx hn => op_fa rfl ⟨rfl, rfl⟩) ?_ | refine DAL.r rfl rfl rfl (fun h' hx hn => op_load rfl rfl (hx.c _ _ hg) rfl ⟨rfl, rfl⟩) ?_ | refine DAL.r rfl rfl rfl (fun h' hx hn => op_indexND (rr h' hx) rfl rfl (by omega) hv2 ⟨rfl, rfl⟩) ?_ | refine DAL.r rfl rfl rfl (fun h' hx hn => op_faN (pr h' hx) rfl ⟨rfl, rfl⟩) ?_ | refine DAL.r rfl rfl rfl (fun h' hx hn => op_loadF0 (off := 0) (pr h' hx) rfl rfl rfl ⟨rfl, rfl⟩) ?_ | refine DAL.r rfl rfl rfl (fun h' hx hn => op_sub64 rfl rfl (by omega) ⟨rfl, rfl⟩) ?_)
    refine DAL.nil ?_
    repeat (first | refine AWp.ret ?_)
    refine ⟨_, ResV.tmp rfl, ?_, rfl⟩
    unfold LogM.at
    rw [if_neg hb, List.getD_eq_getElem?_getD, List.getElem?_eq_getElem hk]
    rfl
theorem ready_c (hg : h.get g = some (logB (ptr i) name s lv)) (b : Bool) : ACalls Try.prog 22 [ptr g, .bool b] h fun u h' => u = .int .i64 (if b then 0 else 2) ∧ h' = h := by
  refine ACalls.body Try.func22 rfl rfl ?_
  cases b with
  | true =>
    repeat (first | refine AL.nil ?_ | refine AWp.seq ?_ | refine AWp.region ?_ | refine AWp.condF rfl ?_ | refine AWp.ret ?_ | refine AWp.block ?_ | refine AWp.skip ?_ | refine AL.set rfl rfl (op_moveB rfl ?_) | refine AL.set rfl rfl (op_moveP rfl ?_) | refine AL.set rfl rfl (op_assignI rfl ?_) | refine AL.set rfl rfl (op_assignB rfl ?_) | refine AL.set rfl rfl (op_callS rfl rfl (is_c hg) ?_) | refine AL.set rfl rfl (op_nilCheck rfl ?_) | refine AL.set rfl rfl (op_fa rfl ?_) | refine AL.set rfl rfl (op_load rfl rfl hg rfl ?_) | refine AL.set rfl rfl (op_not rfl ?_))
    exact ⟨_, ResV.tmp rfl, rfl, rfl⟩
  | false =>
    repeat (first | refine AL.nil ?_ | refine AWp.seq ?_ | refine AWp.region ?_ | refine AWp.condT rfl ?_ | refine AWp.condF rfl ?_ | refine AWp.ret ?_ | refine AWp.block ?_ | refine AL.set rfl rfl (op_moveB rfl ?_) | refine AL.set rfl rfl (op_moveP rfl ?_) | refine AL.set rfl rfl (op_assignI rfl ?_) | refine AL.set rfl rfl (op_assignB rfl ?_) | refine AL.set rfl rfl (op_callS rfl rfl (is_c hg) ?_) | refine AL.set rfl rfl (op_not rfl ?_))
    exact ⟨_, ResV.tmp rfl, rfl, rfl⟩
end
end Go.Proofs.Ytnioldkmckmajaa
