/-
  Texts of one claim, merged: 4 parts.
-/
import Derived.Test.YtnioldkmckmajaaMnr
import Derived.Test.YtnioldkmckmajaaMnp
set_option maxHeartbeats 16000000
/-
  Logs: entries that may be put; entries that are set.
-/
namespace Go.Proofs.Ytnioldkmckmajaa
open Go Go.Eng Go.Pln
attribute [local irreducible] AWp AL DAL AOp TAL
instance i_mayPut : FnC Try.prog 27 := ⟨Try.f27, Try.func27, by kernel_rfl, by kernel_rfl⟩
instance i_set : FnC Try.prog 28 := ⟨Try.f28, Try.func28, by kernel_rfl, by kernel_rfl⟩
instance i_Clone : FnC Try.prog 21 := ⟨Try.f21, Try.func21, by kernel_rfl, by kernel_rfl⟩
def mayE (most : Nat) : Nat → List (Nat × List UInt8) → Prop
  | _, [] => True
  | t, x :: l => max t 1 ≤ x.1 ∧ x.1 ≤ most ∧ x.2.length ≤ 524288 ∧ mayE most x.1 l
def ahead (t : Nat) (l : List (Nat × List UInt8)) (k : Nat) : Nat := if k = 0 then t else (l.getD (k - 1) (0, [])).1
theorem mayE_at : ∀ {l : List (Nat × List UInt8)} {most t : Nat} (_ : mayE most t l) (k : Nat) (x : Nat × List UInt8), l[k]? = some x → max (ahead t l k) 1 ≤ x.1 ∧ x.1 ≤ most ∧ x.2.length ≤ 524288 ∧ ahead t l (k + 1) = x.1
  | [], _, _, _, k, x, h => by simp at h
  | y :: l, most, t, m, 0, x, h => by
    simp at h; subst h
    exact ⟨by simpa [ahead] using m.1, m.2.1, m.2.2.1, by simp [ahead]⟩
  | y :: l, most, t, m, k + 1, x, h => by
    have h' : l[k]? = some x := by simpa using h
    obtain ⟨a, b, c, d⟩ := mayE_at m.2.2.2 k x h'
    refine ⟨?_, b, c, ?_⟩
    · cases k with
      | zero => simpa [ahead] using a
      | succ k => simpa [ahead] using a
    · cases k with
      | zero => simpa [ahead] using d
      | succ k => simpa [ahead] using d
section
variable {h : Heap} {g : Nat} {i : Nat} {name : List UInt8} {s : LogM} {lv : Value}
theorem mayPut_no (hg : h.get g = some (logB (ptr i) name s lv)) {rows : List (List Value)} (r : RNE h lv rows) (e : EntR h rows s.l) (ok : s.Ok) (k : Nat) (v : Value) (hk : s.last + 1 < k ∨ k ≤ s.base) (hk2 : k ≤ 2147483647) :
    ACalls Try.prog 27 [ptr g, nt k, v] h fun u h' => u = .bool false ∧ h' = h := by
  refine ACalls.body Try.func27 rfl rfl ?_
  have c1 := last_c hg r e.len ok
  have k1 := ok.b
  have k2 := ok.n
  unfold LogM.last at hk c1
  by_cases hb : k ≤ s.base
  · repeat (first | refine AL.nil ?_ | refine AL.skip rfl rfl ?_ | refine AWp.seq ?_ | refine AWp.region ?_ | refine AWp.condT rfl ?_ | refine AWp.ret ?_ | refine AL.set rfl rfl (op_moveI rfl ?_) | refine AL.set rfl rfl (op_moveB rfl ?_) | refine AL.set rfl rfl (op_moveP rfl ?_) | refine AL.set rfl rfl (op_assignB rfl ?_) | refine AL.set rfl rfl (op_nilCheck rfl ?_) | refine AL.set rfl rfl (op_fa rfl ?_) | refine AL.set rfl rfl (op_load rfl rfl hg rfl ?_) | refine AL.set rfl rfl (op_intT rfl rfl rfl (by omega) ?_) | refine AL.set rfl rfl (op_pick (v := .bool _) rfl rfl ?_))
    exact ⟨_, ResV.tmp rfl, rfl, rfl⟩
  · repeat (first | refine AL.nil ?_ | refine AL.skip rfl rfl ?_ | refine AWp.seq ?_ | refine AWp.region ?_ | refine AWp.condT rfl ?_ | refine AWp.ret ?_ | refine AL.set rfl rfl (op_moveI rfl ?_) | refine AL.set rfl rfl (op_moveB rfl ?_) | refine AL.set rfl rfl (op_moveP rfl ?_) | refine AL.set rfl rfl (op_assignB rfl ?_) | refine AL.set rfl rfl (op_nilCheck rfl ?_) | refine AL.set rfl rfl (op_fa rfl ?_) | refine AL.set rfl rfl (op_load rfl rfl hg rfl ?_) | refine AL.set rfl rfl (op_callS rfl rfl c1 ?_) | refine AL.set rfl rfl (op_intT rfl rfl rfl (by omega) ?_) | refine AL.set rfl rfl (op_intF rfl rfl rfl (by omega) ?_) | refine AL.set rfl rfl (op_pick (v := .bool _) rfl rfl ?_) | refine AL.set rfl rfl (op_add64 rfl rfl (by omega) ?_))
    exact ⟨_, ResV.tmp rfl, rfl, rfl⟩
set_option maxHeartbeats 2000000 in
theorem mayPut_c (hg : h.get g = some (logB (ptr i) name s lv)) {rows : List (List Value)} (r : RNE h lv rows) (e : EntR h rows s.l) (ok : s.Ok) (k : Nat) (v : Value) (xs : List (Nat × List UInt8)) {rx : List (List Value)} (rv : RNE h v rx) (ex : EntR h rx xs)
    (h1 : s.base < k) (h2 : k ≤ s.last + 1) (h3 : k + xs.length ≤ 2147483647) (hm : mayE s.term (s.at (k - 1)) xs) :
    ACalls Try.prog 27 [ptr g, nt k, v] h fun u h' => u = .bool true ∧ h' = h := by
  refine ACalls.wf fun wf => ACalls.reset ?_
  refine ACalls.body Try.func27 rfl rfl ?_
  have c1 := last_c hg r e.len ok
  have c2 := termAt_c hg r e ok (k - 1) (by omega) (by omega)
  have k1 := ok.b
  have k2 := ok.n
  have k3 := ok.t
  have hlen := ex.len
  unfold LogM.last at h2 c1
  have hk1 : nt (k - 1) = .int .i64 ((k : Int) - 1) := by show Value.int .i64 ((k - 1 : Nat) : Int) = _; congr 1; omega
  rw [hk1] at c2
  obtain ⟨av, cv, hv⟩ := rv.1.slice
  repeat (first | refine AL.nil ?_ | refine AWp.seq ?_ | refine AWp.region ?_ | refine AWp.condF rfl ?_ | refine AWp.block ?_ | refine AWp.skip ?_ | refine AL.set rfl rfl (op_moveI rfl ?_) | refine AL.set rfl rfl (op_moveB rfl ?_) | refine AL.set rfl rfl (op_moveP rfl ?_) | refine AL.set rfl rfl (op_assignI rfl ?_) | refine AL.set rfl rfl (op_assignB rfl ?_) | refine AL.set rfl rfl (op_nilCheck rfl ?_) | refine AL.set rfl rfl (op_fa rfl ?_) | refine AL.set rfl rfl (op_load rfl rfl hg rfl ?_) | refine AL.set rfl rfl (op_callS rfl rfl c1 ?_) | refine AL.set rfl rfl (op_intF rfl rfl rfl (by omega) ?_) | refine AL.set rfl rfl (op_pick (v := .bool _) rfl rfl ?_) | refine AL.set rfl rfl (op_move (v := v) rfl ?_) | refine AL.set rfl rfl (op_lenN rv.1 rfl ?_) | refine AL.set rfl rfl (op_callS rfl rfl c2 ?_) | refine AL.set rfl rfl (op_add64 rfl rfl (by omega) ?_) | refine AL.set rfl rfl (op_sub64 rfl rfl (by omega) ?_))
  refine AWp.loop (α := Nat × Heap) (fun z => [(0, ptr g), (7, nt (ahead (s.at (k - 1)) xs z.1)), (35, v), (36, .int .i64 (rx.length : Nat)), (37, nt z.1)]) (fun z => z.2) (fun z => z.1 ≤ xs.length ∧ Ext h z.2 ∧ WF z.2) (fun z => xs.length - z.1) (0, h) ⟨Nat.zero_le _, Ext.refl _, wf⟩ (Weak.same (EW.cons rfl (EW.cons rfl (EW.cons rfl (EW.cons rfl (EW.cons rfl EW.nil)))))) ?_
  rintro ⟨n, H⟩ ⟨q1, q2, q3⟩
  replace q1 : n ≤ xs.length := q1
  replace q2 : Ext h H := q2
  replace q3 : WF H := q3
  show AWp _ _ _ _ [(0, ptr g), (7, nt (ahead (s.at (k - 1)) xs n)), (35, v), (36, .int .i64 (rx.length : Nat)), (37, nt n)] H
  by_cases hlt : n < xs.length
  · obtain ⟨w, hw, qw⟩ := ex.row hlt
    obtain ⟨m1, m2, m3, m4⟩ := mayE_at hm n xs[n] (List.getElem?_eq_getElem hlt)
    have hw2 : rx[((n : Nat) : Int).toNat]? = some [nt (xs[n]).1, w] := by simpa using hw
    have rr := rv.1.ext q2
    have pr := rr.elt hw2
    obtain ⟨aw, cw, hvw⟩ := qw.1.slice
    have one1 : [nt (xs[n]).1, w].all oneB = true := by simp [oneB, hvw]
    repeat (first | refine AL.nil ?_ | refine AWp.seq ?_ | refine AWp.region ?_ | refine AWp.condT rfl ?_ | refine AWp.block ?_ | refine AWp.skip ?_ | refine AL.set rfl rfl (op_intT rfl rfl rfl (by omega) ?_) | refine AL.set rfl rfl (op_indexND rr rfl rfl (by omega) hw2 ?_) | refine AL.set rfl rfl (op_loadN (c := 2) pr rfl rfl rfl ?_) | refine AL.set rfl rfl (op_alloc ?_))
    refine AL.eff rfl (op_storeW (sz := 2) (vs := [nt (xs[n]).1, w]) rfl rfl rfl rfl one1 ?_)
    have g1 := Heap.alloc_new H ⟨[nt (xs[n]).1, w], 51, true⟩
    have x1 := q3.ext ⟨[nt (xs[n]).1, w], 51, true⟩
    have w1 := q3.alloc ⟨[nt (xs[n]).1, w], 51, true⟩
    refine AL.heap (h := H.alloc ⟨[nt (xs[n]).1, w], 51, true⟩) rfl ?_
    generalize H.next = p at g1 ⊢
    generalize H.alloc ⟨[nt (xs[n]).1, w], 51, true⟩ = H1 at g1 x1 w1 ⊢
    have x01 := q2.trans x1
    have hg1 := x01.c _ _ hg
    have rw1 := qw.1.ext x01
    repeat (first | refine AL.nil ?_ | refine AWp.seq ?_)
    refine AWp.drawR mixedT (by kernel_rfl) ?_
    repeat (first | refine DAL.r rfl rfl rfl (fun h' hx hn => op_moveI rfl ⟨rfl, rfl⟩) ?_ | refine DAL.r rfl rfl rfl (fun h' hx hn => op_moveB rfl ⟨rfl, rfl⟩) ?_ | refine DAL.r rfl rfl rfl (fun h' hx hn => op_moveP rfl ⟨rfl, rfl⟩) ?_ | refine DAL.r rfl rfl rfl (fun h' hx hn => op_nilCheck rfl ⟨rfl, rfl⟩) ?_ | refine DAL.r rfl rfl rfl (fun h' hx hn => op_fa rfl ⟨rfl, rfl⟩) ?_ | refine DAL.r rfl rfl rfl (fun h' hx hn => op_load rfl rfl (hx.c _ _ g1) rfl ⟨rfl, rfl⟩) ?_ | refine DAL.r rfl rfl rfl (fun h' hx hn => op_load rfl rfl (hx.c _ _ hg1) rfl ⟨rfl, rfl⟩) ?_ | refine DAL.r rfl rfl rfl (fun h' hx hn => op_max2 rfl rfl ⟨rfl, rfl⟩) ?_ | refine DAL.r rfl rfl rfl (fun h' hx hn => op_lenRB (rw1.ext hx) rfl ⟨rfl, rfl⟩) ?_ | refine DAL.r rfl rfl rfl (fun h' hx hn => op_intF rfl rfl rfl (by omega) ⟨rfl, rfl⟩) ?_ | refine DAL.r rfl rfl rfl (fun h' hx hn => op_pick (v := .bool _) rfl rfl ⟨rfl, rfl⟩) ?_)
    refine DAL.nil ?_
    repeat (first | refine AL.nil ?_ | refine AWp.region ?_ | refine AWp.condF rfl ?_ | refine AWp.skip ?_ | refine AL.set rfl rfl (op_moveI rfl ?_) | refine AL.set rfl rfl (op_assignI rfl ?_) | refine AL.set rfl rfl (op_fa rfl ?_) | refine AL.set rfl rfl (op_load rfl rfl g1 rfl ?_) | refine AL.set rfl rfl (op_add64 rfl rfl (by omega) ?_))
    exact ⟨(n + 1, H1), ⟨hlt, x01, w1⟩, by show xs.length - (n + 1) < xs.length - n; omega, Weak.same (EW.cons rfl (EW.cons (by show _ = nt (ahead (s.at (k - 1)) xs (n + 1)); rw [m4]; rfl) (EW.cons rfl (EW.cons rfl (EW.cons rfl EW.nil)))))⟩
  · repeat (first | refine AL.nil ?_ | refine AWp.seq ?_ | refine AWp.region ?_ | refine AWp.condF rfl ?_ | refine AWp.ret ?_ | refine AWp.exit ?_ | refine AL.set rfl rfl (op_assignB rfl ?_) | refine AL.set rfl rfl (op_intF rfl rfl rfl (by omega) ?_))
    exact ⟨_, ResV.tmp rfl, rfl, q2, rfl, rfl⟩
end
end Go.Proofs.Ytnioldkmckmajaa
/-
  Logs: entries that are read from a place on; entries that are set.
-/
namespace Go.Proofs.Ytnioldkmckmajaa
open Go Go.Eng Go.Pln
attribute [local irreducible] AWp AL DAL AOp TAL
instance i_From : FnC Try.prog 8 := ⟨Try.f8, Try.func8, by kernel_rfl, by kernel_rfl⟩
theorem keeps_el {B c : Nat} {h h' : Heap} {e : TypeId} {u : Value} {rows : List (List Value)} (k : Keeps u h h') (r : ON B c h e u rows) : ∀ j b, h.get j = some b → (j < B ∨ b.elem ≠ e) → h'.get j = some b := by
  intro j b hj hb
  refine k.c j b hj fun s n c' hu => ?_
  rcases r.at_ with ⟨h1, _⟩ | ⟨i, cap, h0, h1, h3⟩
  · rw [h1] at hu; cases hu
  · rw [h1] at hu
    cases hu
    rw [hj] at h3
    cases h3
    rcases hb with hb | hb
    · omega
    · exact hb rfl
theorem RBE.pres {h h' : Heap} {v : Value} {b : List UInt8} (r : RBE h v b) (p : ∀ j x, h.get j = some x → x.elem = 5 → h'.get j = some x) : RBE h' v b := by
  have key : b ≠ [] → ∀ i x, vblk v = some i → h.get i = some x → h'.get i = some x ∧ x.elem = 5 := by
    intro hv i x hi hx
    obtain ⟨q, y, q1, q2, q3⟩ := r.2 hv
    rw [q1] at hi; cases hi
    rw [q2] at hx; cases hx
    exact ⟨p _ _ q2 q3, q3⟩
  refine ⟨RS.keep2 r.1 fun hv i x hi hx => (key (by intro e; subst e; exact hv rfl) i x hi hx).1, fun hv => ?_⟩
  obtain ⟨q, y, q1, q2, q3⟩ := r.2 hv
  exact ⟨q, y, q1, (key hv q y q1 q2).1, q3⟩
theorem EntR.pres {h h' : Heap} {rows : List (List Value)} {l : List (Nat × List UInt8)} (r : EntR h rows l) (p : ∀ j x, h.get j = some x → x.elem = 5 → h'.get j = some x) : EntR h' rows l :=
  ⟨r.len, fun j row x h1 h2 => by obtain ⟨v, e, q⟩ := r.at_ j row x h1 h2; exact ⟨v, e, q.pres p⟩⟩
theorem EntR.ext {h h' : Heap} {rows : List (List Value)} {l : List (Nat × List UInt8)} (r : EntR h rows l) (x : Ext h h') : EntR h' rows l := r.pres fun j b hj _ => x.c j b hj
theorem RNE.ext {h h' : Heap} {v : Value} {rows : List (List Value)} (r : RNE h v rows) (x : Ext h h') : RNE h' v rows :=
  ⟨r.1.ext x, fun hv => by obtain ⟨q, y, q1, q2, q3⟩ := r.2 hv; exact ⟨q, y, q1, x.c _ _ q2, q3⟩⟩
section
variable {h : Heap} {g : Nat} {i : Nat} {name : List UInt8} {s : LogM} {lv : Value}
theorem from_no (hg : h.get g = some (logB (ptr i) name s lv)) {rows : List (List Value)} (r : RNE h lv rows) (e : EntR h rows s.l) (ok : s.Ok) (k n : Nat) (hk : k ≤ s.base ∨ s.last < k) (_hn : 1 ≤ n) :
    ACalls Try.prog 8 [ptr g, nt k, nt n] h fun u h' => u = .slice none 0 0 ∧ h' = h := by
  refine ACalls.body Try.func8 rfl rfl ?_
  have c1 := last_c hg r e.len ok
  unfold LogM.last at hk c1
  by_cases hb : k ≤ s.base
  · repeat (first | refine AL.nil ?_ | refine AL.skip rfl rfl ?_ | refine AWp.seq ?_ | refine AWp.region ?_ | refine AWp.condT rfl ?_ | refine AWp.ret ?_ | refine AL.set rfl rfl (op_moveI rfl ?_) | refine AL.set rfl rfl (op_moveB rfl ?_) | refine AL.set rfl rfl (op_moveP rfl ?_) | refine AL.set rfl rfl (op_assignS rfl ?_) | refine AL.set rfl rfl (op_callS rfl rfl (is_c hg) ?_) | refine AL.set rfl rfl (op_nilCheck rfl ?_) | refine AL.set rfl rfl (op_fa rfl ?_) | refine AL.set rfl rfl (op_load rfl rfl hg rfl ?_) | refine AL.set rfl rfl (op_intT rfl rfl rfl (by omega) ?_) | refine AL.set rfl rfl (op_pick (v := .bool _) rfl rfl ?_) | refine AL.set rfl rfl (op_not rfl ?_))
    exact ⟨_, ResV.tmp rfl, rfl, rfl⟩
  · repeat (first | refine AL.nil ?_ | refine AL.skip rfl rfl ?_ | refine AWp.seq ?_ | refine AWp.region ?_ | refine AWp.condT rfl ?_ | refine AWp.ret ?_ | refine AL.set rfl rfl (op_moveI rfl ?_) | refine AL.set rfl rfl (op_moveB rfl ?_) | refine AL.set rfl rfl (op_moveP rfl ?_) | refine AL.set rfl rfl (op_assignS rfl ?_) | refine AL.set rfl rfl (op_callS rfl rfl (is_c hg) ?_) | refine AL.set rfl rfl (op_nilCheck rfl ?_) | refine AL.set rfl rfl (op_fa rfl ?_) | refine AL.set rfl rfl (op_load rfl rfl hg rfl ?_) | refine AL.set rfl rfl (op_callS rfl rfl c1 ?_) | refine AL.set rfl rfl (op_intT rfl rfl rfl (by omega) ?_) | refine AL.set rfl rfl (op_intF rfl rfl rfl (by omega) ?_) | refine AL.set rfl rfl (op_pick (v := .bool _) rfl rfl ?_) | refine AL.set rfl rfl (op_not rfl ?_))
    exact ⟨_, ResV.tmp rfl, rfl, rfl⟩
set_option maxHeartbeats 4000000 in
theorem from_c (hg : h.get g = some (logB (ptr i) name s lv)) {rows : List (List Value)} (r : RNE h lv rows) (e : EntR h rows s.l) (ok : s.Ok) (k n : Nat) (hk : s.base < k) (hk2 : k ≤ s.last) (hn : s.l.length ≤ n) (hn2 : n ≤ 1000000) :
    ACalls Try.prog 8 [ptr g, nt k, nt n] h fun u h' => ∃ ru, RNE h' u ru ∧ EntR h' ru (s.l.drop (k - s.base - 1)) ∧ Ext h h' := by
  refine ACalls.wf fun wf => ?_
  refine ACalls.body Try.func8 rfl rfl ?_
  have c1 := last_c hg r e.len ok
  have k1 := ok.b
  have k2 := ok.n
  unfold LogM.last at hk2 c1
  repeat (first | refine AL.nil ?_ | refine AWp.seq ?_ | refine AWp.region ?_ | refine AWp.condF rfl ?_ | refine AWp.skip ?_ | refine AL.set rfl rfl (op_moveI rfl ?_) | refine AL.set rfl rfl (op_moveB rfl ?_) | refine AL.set rfl rfl (op_moveP rfl ?_) | refine AL.set rfl rfl (op_assignS rfl ?_) | refine AL.set rfl rfl (op_callS rfl rfl (is_c hg) ?_) | refine AL.set rfl rfl (op_nilCheck rfl ?_) | refine AL.set rfl rfl (op_fa rfl ?_) | refine AL.set rfl rfl (op_load rfl rfl hg rfl ?_) | refine AL.set rfl rfl (op_callS rfl rfl c1 ?_) | refine AL.set rfl rfl (op_intF rfl rfl rfl (by omega) ?_) | refine AL.set rfl rfl (op_pick (v := .bool _) rfl rfl ?_) | refine AL.set rfl rfl (op_not rfl ?_))
  have hl : ((k : Int) - (s.base : Int) - 1).toNat = k - s.base - 1 := by omega
  have hrl := e.len
  obtain ⟨vw, hvw⟩ : ∃ vw, vw = subN 2 lv ((k : Int) - (s.base : Int) - 1) (rows.length : Int) := ⟨_, rfl⟩
  have rw0 : RNE h vw (rows.drop (k - s.base - 1)) := by
    have := r.sub (l := (k : Int) - (s.base : Int) - 1) (m := (rows.length : Int)) (by omega) (by omega) (by omega)
    rw [hl, Int.toNat_natCast, List.take_length] at this
    rw [hvw]
    exact this
  have ew0 := e.drop (k - s.base - 1)
  have hlen : (rows.drop (k - s.base - 1)).length = (s.l.drop (k - s.base - 1)).length := ew0.len
  have hLn : (s.l.drop (k - s.base - 1)).length ≤ s.l.length := by rw [List.length_drop]; omega
  refine AWp.drawR mixedT (by kernel_rfl) ?_
  repeat (first | refine DAL.r rfl rfl rfl (fun h' hx hn => op_moveI rfl ⟨rfl, rfl⟩) ?_ | refine DAL.r rfl rfl rfl (fun h' hx hn => op_moveP rfl ⟨rfl, rfl⟩) ?_ | refine DAL.r rfl rfl rfl (fun h' hx hn => op_nilCheck rfl ⟨rfl, rfl⟩) ?_ | refine DAL.r rfl rfl rfl (fun h' hx hn => op_fa rfl ⟨rfl, rfl⟩) ?_ | refine DAL.r rfl rfl rfl (fun h' hx hn => op_load rfl rfl (hx.c _ _ hg) rfl ⟨rfl, rfl⟩) ?_ | refine DAL.r rfl rfl rfl (fun h' hx hn => op_sliceN (c := 2) (l := (k : Int) - (s.base : Int) - 1) (m := (rows.length : Int)) (r.1.ext hx) rfl rfl rfl (by omega) (by omega) (by omega) (by rw [← hvw]; exact ⟨rfl, rfl⟩)) ?_ | refine DAL.r rfl rfl rfl (fun h' hx hn => op_lenN (rw0.1.ext hx) rfl ⟨rfl, rfl⟩) ?_ | refine DAL.r rfl rfl rfl (fun h' hx hn => op_sub64 rfl rfl (by omega) ⟨rfl, rfl⟩) ?_)
  refine DAL.nil ?_
  have hLe : ∀ x ∈ s.l.drop (k - s.base - 1), x.2.length ≤ 524288 := fun x hx => (ok.e x (List.mem_of_mem_drop hx)).2
  generalize rows.drop (k - s.base - 1) = rw1 at rw0 ew0 hlen ⊢
  generalize s.l.drop (k - s.base - 1) = L at ew0 hlen hLn hLe ⊢
  have hn' : L.length ≤ n := by omega
  have hL1 : L.length ≤ 1000 := by omega
  obtain ⟨avw, cvw, hvws⟩ := rw0.1.slice
  repeat (first | refine AWp.block ?_)
  refine AWp.loop (α := Nat × Value × List (List Value) × Heap) (fun z => [(2, nt n), (7, z.2.1), (42, vw), (43, .int .i64 (rw1.length : Nat)), (44, nt z.1)]) (fun z => z.2.2.2) (fun z => z.1 ≤ L.length ∧ ON h.next 2 z.2.2.2 51 z.2.1 z.2.2.1 ∧ EntR z.2.2.2 z.2.2.1 (L.take z.1) ∧ Ext h z.2.2.2 ∧ WF z.2.2.2 ∧ h.next ≤ z.2.2.2.next) (fun z => L.length - z.1) (0, .slice none 0 0, [], h) ⟨Nat.zero_le _, ON.nil _ _ _ _, EntR.nil _, Ext.refl _, wf, Nat.le_refl _⟩ (Weak.same (EW.cons rfl (EW.cons rfl (EW.cons rfl (EW.cons rfl (EW.cons rfl EW.nil)))))) ?_
  rintro ⟨m, u, ru, H⟩ ⟨q1, q2, q3, q4, q5, q6⟩
  replace q1 : m ≤ L.length := q1
  replace q2 : ON h.next 2 H 51 u ru := q2
  replace q3 : EntR H ru (L.take m) := q3
  replace q4 : Ext h H := q4
  replace q5 : WF H := q5
  replace q6 : h.next ≤ H.next := q6
  show AWp _ _ _ _ [(2, nt n), (7, u), (42, vw), (43, .int .i64 (rw1.length : Nat)), (44, nt m)] H
  have hru : ru.length = m := by rw [q3.len, List.length_take]; omega
  by_cases hlt : m < L.length
  · obtain ⟨w, hw, qw⟩ := ew0.row hlt
    have hw2 : rw1[((m : Nat) : Int).toNat]? = some [nt (L[m]).1, w] := by simpa using hw
    have rr := rw0.1.ext q4
    have pr := rr.elt hw2
    obtain ⟨aw, cw, hvw2⟩ := qw.1.slice
    have one1 : [nt (L[m]).1, w].all oneB = true := by simp [oneB, hvw2]
    repeat (first | refine AL.nil ?_ | refine AWp.seq ?_ | refine AWp.region ?_ | refine AWp.condT rfl ?_ | refine AWp.block ?_ | refine AWp.skip ?_ | refine AL.set rfl rfl (op_intT rfl rfl rfl (by omega) ?_) | refine AL.set rfl rfl (op_indexND rr rfl rfl (by omega) hw2 ?_) | refine AL.set rfl rfl (op_loadN (c := 2) pr rfl rfl rfl ?_) | refine AL.set rfl rfl (op_alloc ?_))
    refine AL.eff rfl (op_storeW (sz := 2) (vs := [nt (L[m]).1, w]) rfl rfl rfl rfl one1 ?_)
    have g1 := Heap.alloc_new H ⟨[nt (L[m]).1, w], 51, true⟩
    have x1 := q5.ext ⟨[nt (L[m]).1, w], 51, true⟩
    have w1 := q5.alloc ⟨[nt (L[m]).1, w], 51, true⟩
    have n1 : (H.alloc ⟨[nt (L[m]).1, w], 51, true⟩).next = H.next + 1 := rfl
    refine AL.heap (h := H.alloc ⟨[nt (L[m]).1, w], 51, true⟩) rfl ?_
    generalize hp : H.next = p at g1 n1 ⊢
    generalize H.alloc ⟨[nt (L[m]).1, w], 51, true⟩ = H1 at g1 x1 w1 n1 ⊢
    have x01 := q4.trans x1
    have rw2 := qw.1.ext x01
    have on1 := q2.ext x1
    have hdata : (L[m]).2.length ≤ 524288 := hLe _ (List.getElem_mem hlt)
    repeat (first | refine AL.nil ?_ | refine AWp.seq ?_ | refine AWp.region ?_ | refine AWp.condT rfl ?_ | refine AL.set rfl rfl (op_moveI rfl ?_) | refine AL.set rfl rfl (op_move (v := u) rfl ?_) | refine AL.set rfl rfl (op_lenN on1.rn rfl ?_) | refine AL.set rfl rfl (op_intT rfl rfl rfl (by omega) ?_))
    refine AWp.tree (t := OT.seq [(0, .P), (1, .P), (2, .R), (3, .P), (4, .R), (5, .X), (6, .P), (7, .X), (8, .W), (9, .P)] .nil) mixedT (by kernel_rfl) ?_
    repeat (first | refine TAL.r rfl rfl rfl (fun h' hx hn => op_load rfl rfl (hx.c _ _ g1) rfl ⟨rfl, rfl⟩) ?_ | refine TAL.p rfl rfl rfl (fun h' hn => op_move (v := u) rfl ⟨rfl, rfl⟩) ?_ | refine TAL.p rfl rfl rfl (fun h' hn => op_fa rfl ⟨rfl, rfl⟩) ?_)
    refine TAL.x rfl rfl rfl (op_call rfl rfl ((Fr.clone_c w (L[m]).2 H1 rw2 (by omega)).wf_post.mono ?_))
    rintro d H2 ⟨⟨od, x2⟩, w2, n2⟩
    refine ⟨x2, ?_⟩
    have qd := RBE.os od
    obtain ⟨ad, cd, rfl⟩ := (OS.rs od).slice
    generalize hdv : Value.slice ad (bv (L[m]).2).length cd = d at od qd ⊢
    have one2 : [nt (L[m]).1, d].all oneB = true := by simp [oneB, ← hdv]
    refine TAL.p rfl rfl rfl (fun h' hn => op_buildS (out := [nt (L[m]).1, d]) (by rw [← hdv]; rfl) (by rw [← hdv]; rfl) ⟨rfl, rfl⟩) ?_
    refine TAL.x rfl rfl rfl (op_rowN1 (sz := 2) (row := [nt (L[m]).1, d]) (by decide) (by decide) rfl rfl ⟨w2.ext _, ?_⟩)
    have g3 := Heap.alloc_new H2 ⟨[nt (L[m]).1, d], 51, true⟩
    have x3 := w2.ext ⟨[nt (L[m]).1, d], 51, true⟩
    have w3 := w2.alloc ⟨[nt (L[m]).1, d], 51, true⟩
    have n3 : (H2.alloc ⟨[nt (L[m]).1, d], 51, true⟩).next = H2.next + 1 := rfl
    generalize H2.alloc ⟨[nt (L[m]).1, d], 51, true⟩ = H3 at g3 x3 w3 n3 ⊢
    have rb : RN 2 H3 (.slice (some ⟨H2.next, 0, some 2⟩) 1 1) [[nt (L[m]).1, d]] := RN.row1 rfl g3
    have on3 := on1.ext (x2.trans x3)
    refine TAL.w rfl rfl rfl (op_appendN (m := 1) (B := h.next) (e := 51) (news := [[nt (L[m]).1, d]]) rfl w3 (by omega) on3 rfl rfl rb.src rfl (by intro z hz; rw [List.mem_singleton.1 hz]; rfl) (by simpa using one2) (by simp only [maxLen]; omega) (by omega) ?_)
    intro u' H4 o4 _ k4 wf4 n4
    have p4 := keeps_el k4 on3
    have x4 : Ext h H4 := k4.extN on3 wf (Nat.le_refl _) (x01.trans (x2.trans x3))
    have e4 : EntR H4 (ru ++ [[nt (L[m]).1, d]]) (L.take (m + 1)) := by
      rw [List.take_add_one, List.getElem?_eq_getElem hlt]
      exact ((q3.ext (x1.trans (x2.trans x3))).pres fun j b hj he => p4 j b hj (.inr (by rw [he]; decide))).push ((qd.pres fun j b hj _ => x3.c j b hj).pres fun j b hj he => p4 j b hj (.inr (by rw [he]; decide)))
    repeat (first | refine TAL.p rfl rfl rfl (fun h' hn => op_assign (v := u') rfl ⟨rfl, rfl⟩) ?_)
    refine TAL.nil ?_
    repeat (first | refine AL.nil ?_ | refine AWp.region ?_ | refine AL.set rfl rfl (op_moveI rfl ?_) | refine AL.set rfl rfl (op_add64 rfl rfl (by omega) ?_))
    exact ⟨(m + 1, u', ru ++ [[nt (L[m]).1, d]], H4), ⟨hlt, o4, e4, x4, wf4, by show h.next ≤ H4.next; omega⟩, by show L.length - (m + 1) < L.length - m; omega, Weak.same (EW.cons rfl (EW.cons rfl (EW.cons rfl (EW.cons rfl (EW.cons rfl EW.nil)))))⟩
  · repeat (first | refine AL.nil ?_ | refine AWp.seq ?_ | refine AWp.region ?_ | refine AWp.condF rfl ?_ | refine AWp.ret ?_ | refine AWp.exit ?_ | refine AL.set rfl rfl (op_intF rfl rfl rfl (by omega) ?_) | refine AL.set rfl rfl (op_move (v := u) rfl ?_) | refine AL.set rfl rfl (op_assign (v := u) rfl ?_))
    have hm : m = L.length := by omega
    subst hm
    rw [List.take_length] at q3
    exact ⟨_, ResV.tmp rfl, ru, RNE.on q2, q3, q4⟩
end
end Go.Proofs.Ytnioldkmckmajaa
/-
  Logs: entries are set.
-/
namespace Go.Proofs.Ytnioldkmckmajaa
open Go Go.Eng Go.Pln
attribute [local irreducible] AWp AL DAL AOp TAL
structure Kg (g : Nat) (h h' : Heap) : Prop where
  c : ∀ j b, h.get j = some b → j ≠ g → h'.get j = some b
  o : ∀ j b, h.obj j = some b → h'.obj j = some b
  n : h.next ≤ h'.next
theorem Kg.trans {g : Nat} {a b c : Heap} (x : Kg g a b) (y : Kg g b c) : Kg g a c := ⟨fun j q h1 h2 => y.c j q (x.c j q h1 h2) h2, fun j q h1 => y.o j q (x.o j q h1), Nat.le_trans x.n y.n⟩
theorem Kg.set {g : Nat} (a : Heap) (b : Blk) : Kg g a (a.set g b) := ⟨fun _j _x h1 h2 => (Heap.set_other h2).trans h1, fun _j _x h1 => h1, Nat.le_refl _⟩
theorem Kg.kd {g : Nat} {a b : Heap} (x : Kg g a b) {q : Blk} (hq : a.get g = some q) (he : q.elem = 28) : Kd a b :=
  ⟨fun j y h1 h2 _ => x.c j y h1 fun e => by subst e; rw [hq] at h1; cases h1; exact h2 he, x.n⟩
def Gw (B : Nat) (H : Heap) (lw : Value) (rows : List (List Value)) : Prop :=
  (RNE H lw rows ∧ (lw = .slice none 0 0 ∨ ∃ a, lw = .slice (some a) rows.length rows.length)) ∨ ON B 2 H 51 lw rows
theorem Gw.rne {B : Nat} {H : Heap} {lw : Value} {rows : List (List Value)} (x : Gw B H lw rows) : RNE H lw rows := x.elim (fun a => a.1) RNE.on
theorem Gw.ext {B : Nat} {H H' : Heap} {lw : Value} {rows : List (List Value)} (x : Gw B H lw rows) (k : Ext H H') : Gw B H' lw rows := x.imp (fun a => ⟨a.1.ext k, a.2⟩) fun a => a.ext k
theorem op_appendGw {ρ : Operand → Value} {h : Heap} {K : Value → Heap → Prop} {dst : Option Tmp} {ty : TypeId} {pos : String} {aft : Array Edge} {gd : Option (Nat × Bool)} {x y : Operand} {B : Nat} {u v : Value} {rows : List (List Value)} {row : List Value} (wf : WF h) (hB : B ≤ h.next) (q : Gw B h u rows) (hx : ρ x = u) (hy : ρ y = v)
    (hs : Src h 2 v 1 row) (hl : row.length = 2) (hone : row.all oneB = true) (h1 : rows.length ≤ 100000)
    (kk : ∀ u' h', ON B 2 h' 51 u' (rows ++ [row]) → (∀ j b, h.get j = some b → (j < B ∨ b.elem ≠ 51) → h'.get j = some b) → (∀ j b, h.obj j = some b → h'.obj j = some b) → WF h' → h.next ≤ h'.next → K u' h') :
    AOp Try.prog ⟨dst, .call ⟨.builtin .append, #[x, y], #[26, 26]⟩, ty, pos, aft, gd⟩ ρ h K := by
  rcases q with ⟨q1, q2⟩ | q
  · have hlen : ∀ r ∈ rows ++ [row], r.length = 2 := fun r hr => (List.mem_append.1 hr).elim (q1.1.len r) fun e => by rw [List.mem_singleton.1 e]; exact hl
    refine op_appendFull (sz := 2) (by_ := 32) (z := .agg #[.int .i64 0, .slice none 0 0]) (e := 51) (m := 1) (n := rows.length) (olds := rows.flatten) (news := row) rfl hx hy q2 q1.1.src hs (by omega) (by simp only [maxLen]; omega) (by omega) ?_
    refine kk _ _ ⟨hlen, .inr ⟨h.next, rows.length + 1 + 1, hB, by simp, ?_⟩⟩ (fun j b hj _ => (wf.ext _).c j b hj) (fun j b hj => hj) (wf.alloc _) (by simp [Heap.alloc])
    rw [Heap.alloc_new]
    simp
  · exact op_appendN (m := 1) (B := B) (e := 51) (news := [row]) rfl wf hB q hx hy (by simpa using hs) rfl (by intro z hz; rw [List.mem_singleton.1 hz]; exact hl) (by simpa using hone) (by simp only [maxLen]; omega) (by omega) fun u' h' o _ k w n => kk u' h' o (keeps_el k q) k.o w n
section
variable {h : Heap} {g : Nat} {i : Nat} {name : List UInt8} {s : LogM} {lv : Value}
set_option maxHeartbeats 4000000 in
theorem set_c (hg : h.get g = some (logB (ptr i) name s lv)) {rows : List (List Value)} (r : RNE h lv rows) (e : EntR h rows s.l) (ok : s.Ok) (at_ : Nat) (hat : at_ ≤ s.l.length) (v : Value) (xs : List (Nat × List UInt8)) {rx : List (List Value)} (rv : RNE h v rx) (ex : EntR h rx xs) (hn : xs.length ≤ 1000) (hd : ∀ x ∈ xs, x.2.length ≤ 524288) :
    ACalls Try.prog 28 [ptr g, nt (s.base + 1 + at_), v] h fun u h' => u = .tuple #[] ∧ ∃ lw rw, h'.get g = some (logB (ptr i) name s lw) ∧ RNE h' lw rw ∧ EntR h' rw (s.l.take at_ ++ xs) ∧ Kg g h h' := by
  refine ACalls.wf fun wf => ?_
  refine ACalls.body Try.func28 rfl rfl ?_
  have k1 := ok.b
  have k2 := ok.n
  have hrl := e.len
  have hlt := wf.lt hg
  obtain ⟨av, cv, hv⟩ := rv.1.slice
  have hat2 : ((s.base + 1 + at_ : Nat) : Int) - (s.base : Int) - 1 = (at_ : Nat) := by omega
  repeat (first | refine AL.nil ?_ | refine AWp.seq ?_ | refine AWp.region ?_ | refine AL.set rfl rfl (op_moveI rfl ?_) | refine AL.set rfl rfl (op_moveP rfl ?_) | refine AL.set rfl rfl (op_assignI rfl ?_) | refine AL.set rfl rfl (op_nilCheck rfl ?_) | refine AL.set rfl rfl (op_fa rfl ?_) | refine AL.set rfl rfl (op_load rfl rfl hg rfl ?_) | refine AL.set rfl rfl (op_sliceMN r.1 rfl rfl rfl hat2 (by omega) ?_) | refine AL.set rfl rfl (op_sub64 rfl rfl (by omega) ?_))
  have rf := r.full (m := at_) (by omega)
  have hf1 : oneB (fullN lv at_) = true := rf.1.one
  have ef := e.take at_
  have hfl : (rows.take at_).length = at_ := by rw [List.length_take]; omega
  refine AL.eff rfl (op_store (b := logB (ptr i) name s lv) rfl rfl hf1 hg rfl (by exact Nat.le_of_ble_eq_true rfl) ?_)
  have g1 : (h.set g (logB (ptr i) name s (fullN lv at_))).get g = some (logB (ptr i) name s (fullN lv at_)) := Heap.set_at _ _ _
  have kg1 : Kg g h (h.set g (logB (ptr i) name s (fullN lv at_))) := Kg.set _ _
  have w1 : WF (h.set g (logB (ptr i) name s (fullN lv at_))) := wf.set hlt _
  have n1 : (h.set g (logB (ptr i) name s (fullN lv at_))).next = h.next := rfl
  refine AL.heap (h := h.set g (logB (ptr i) name s (fullN lv at_))) rfl ?_
  generalize h.set g (logB (ptr i) name s (fullN lv at_)) = H1 at g1 kg1 w1 n1 ⊢
  have gw1 : Gw h.next H1 (fullN lv at_) (rows.take at_) := by
    refine .inl ⟨rf.kd (kg1.kd hg rfl), ?_⟩
    rw [hfl]
    unfold fullN
    split
    · exact .inr ⟨_, rfl⟩
    · exact .inl rfl
  have e1 : EntR H1 (rows.take at_) (s.l.take at_) := ef.kd (kg1.kd hg rfl)
  obtain ⟨afn, hfn⟩ : ∃ z, z = fullN lv at_ := ⟨_, rfl⟩
  rw [← hfn] at g1 gw1
  obtain ⟨rt, hrt⟩ : ∃ z, z = rows.take at_ := ⟨_, rfl⟩
  rw [← hrt] at gw1 e1 hfl
  have rv1 := (rv.kd (kg1.kd hg rfl)).1
  repeat (first | refine AL.nil ?_ | refine AWp.seq ?_ | refine AWp.region ?_ | refine AWp.block ?_ | refine AL.set rfl rfl (op_moveI rfl ?_) | refine AL.set rfl rfl (op_move (v := v) rfl ?_) | refine AL.set rfl rfl (op_lenN rv1 rfl ?_))
  refine AWp.loop (α := Nat × Value × List (List Value) × Heap) (fun z => [(0, ptr g), (26, v), (27, .int .i64 (rx.length : Nat)), (28, nt z.1)]) (fun z => z.2.2.2) (fun z => z.1 ≤ xs.length ∧ z.2.2.2.get g = some (logB (ptr i) name s z.2.1) ∧ Gw h.next z.2.2.2 z.2.1 z.2.2.1 ∧ EntR z.2.2.2 z.2.2.1 (s.l.take at_ ++ xs.take z.1) ∧ Kg g h z.2.2.2 ∧ WF z.2.2.2) (fun z => xs.length - z.1) (0, afn, rt, H1) ⟨Nat.zero_le _, g1, gw1, by simpa using e1, kg1, w1⟩ (Weak.same (EW.cons rfl (EW.cons rfl (EW.cons rfl (EW.cons rfl EW.nil))))) ?_
  rintro ⟨m, u, ru, H⟩ ⟨q1, q2, q3, q4, q5, q6⟩
  replace q1 : m ≤ xs.length := q1
  replace q2 : H.get g = some (logB (ptr i) name s u) := q2
  replace q3 : Gw h.next H u ru := q3
  replace q4 : EntR H ru (s.l.take at_ ++ xs.take m) := q4
  replace q5 : Kg g h H := q5
  replace q6 : WF H := q6
  show AWp _ _ _ _ [(0, ptr g), (26, v), (27, .int .i64 (rx.length : Nat)), (28, nt m)] H
  have hlx := ex.len
  have hru : ru.length = at_ + m := by rw [q4.len, List.length_append, List.length_take, List.length_take]; omega
  by_cases hltm : m < xs.length
  · have kd := q5.kd hg rfl
    obtain ⟨w, hw, qw⟩ := (ex.kd kd).row hltm
    have hw2 : rx[((m : Nat) : Int).toNat]? = some [nt (xs[m]).1, w] := by simpa using hw
    have rr := (rv.kd kd).1
    have pr := rr.elt hw2
    obtain ⟨aw, cw, hvw2⟩ := qw.1.slice
    have one1 : [nt (xs[m]).1, w].all oneB = true := by simp [oneB, hvw2]
    have hdata : (xs[m]).2.length ≤ 524288 := hd _ (List.getElem_mem hltm)
    repeat (first | refine AL.nil ?_ | refine AWp.seq ?_ | refine AWp.region ?_ | refine AWp.condT rfl ?_ | refine AWp.block ?_ | refine AWp.skip ?_ | refine AL.set rfl rfl (op_intT rfl rfl rfl (by omega) ?_) | refine AL.set rfl rfl (op_indexND rr rfl rfl (by omega) hw2 ?_) | refine AL.set rfl rfl (op_loadN (c := 2) pr rfl rfl rfl ?_) | refine AL.set rfl rfl (op_alloc ?_))
    refine AL.eff rfl (op_storeW (sz := 2) (vs := [nt (xs[m]).1, w]) rfl rfl rfl rfl one1 ?_)
    have g2 := Heap.alloc_new H ⟨[nt (xs[m]).1, w], 51, true⟩
    have x2 := q6.ext ⟨[nt (xs[m]).1, w], 51, true⟩
    have w2 := q6.alloc ⟨[nt (xs[m]).1, w], 51, true⟩
    have n2 : (H.alloc ⟨[nt (xs[m]).1, w], 51, true⟩).next = H.next + 1 := rfl
    refine AL.heap (h := H.alloc ⟨[nt (xs[m]).1, w], 51, true⟩) rfl ?_
    have nH := q5.n
    generalize hp : H.next = p at g2 n2 ⊢
    generalize H.alloc ⟨[nt (xs[m]).1, w], 51, true⟩ = H2 at g2 x2 w2 n2 ⊢
    have hg2 := x2.c _ _ q2
    have rw2 := qw.1.ext x2
    repeat (first | refine AL.nil ?_)
    refine AWp.tree (t := OT.seq [(0, .P), (1, .P), (2, .P), (3, .P), (4, .R), (5, .P), (6, .R), (7, .P), (8, .R), (9, .X), (10, .P), (11, .X), (12, .W), (13, .P), (14, .P), (15, .W)] .nil) mixedT (by kernel_rfl) ?_
    repeat (first | refine TAL.r rfl rfl rfl (fun h' hx hn => op_load rfl rfl (hx.c _ _ g2) rfl ⟨rfl, rfl⟩) ?_ | refine TAL.r rfl rfl rfl (fun h' hx hn => op_load rfl rfl (hx.c _ _ hg2) rfl ⟨rfl, rfl⟩) ?_ | refine TAL.p rfl rfl rfl (fun h' hn => op_moveP rfl ⟨rfl, rfl⟩) ?_ | refine TAL.p rfl rfl rfl (fun h' hn => op_nilCheck rfl ⟨rfl, rfl⟩) ?_ | refine TAL.p rfl rfl rfl (fun h' hn => op_fa rfl ⟨rfl, rfl⟩) ?_)
    refine TAL.x rfl rfl rfl (op_call rfl rfl ((Fr.clone_c w (xs[m]).2 H2 rw2 (by omega)).wf_post.mono ?_))
    rintro d H3 ⟨⟨od, x3⟩, w3, n3⟩
    refine ⟨x3, ?_⟩
    have qd := RBE.os od
    obtain ⟨ad, cd, rfl⟩ := (OS.rs od).slice
    generalize hdv : Value.slice ad (bv (xs[m]).2).length cd = d at od qd ⊢
    have one2 : [nt (xs[m]).1, d].all oneB = true := by simp [oneB, ← hdv]
    refine TAL.p rfl rfl rfl (fun h' hn => op_buildS (out := [nt (xs[m]).1, d]) (by rw [← hdv]; rfl) (by rw [← hdv]; rfl) ⟨rfl, rfl⟩) ?_
    refine TAL.x rfl rfl rfl (op_rowN1 (sz := 2) (row := [nt (xs[m]).1, d]) (by decide) (by decide) rfl rfl ⟨w3.ext _, ?_⟩)
    have g4 := Heap.alloc_new H3 ⟨[nt (xs[m]).1, d], 51, true⟩
    have x4 := w3.ext ⟨[nt (xs[m]).1, d], 51, true⟩
    have w4 := w3.alloc ⟨[nt (xs[m]).1, d], 51, true⟩
    have n4 : (H3.alloc ⟨[nt (xs[m]).1, d], 51, true⟩).next = H3.next + 1 := rfl
    generalize H3.alloc ⟨[nt (xs[m]).1, d], 51, true⟩ = H4 at g4 x4 w4 n4 ⊢
    have rb : RN 2 H4 (.slice (some ⟨H3.next, 0, some 2⟩) 1 1) [[nt (xs[m]).1, d]] := RN.row1 rfl g4
    have sb : Src H4 2 (.slice (some ⟨H3.next, 0, some 2⟩) 1 1) 1 [nt (xs[m]).1, d] := by simpa using rb.src
    have x24 := x2.trans (x3.trans x4)
    refine TAL.w rfl rfl rfl (op_appendGw (B := h.next) (row := [nt (xs[m]).1, d]) w4 (by omega) (q3.ext x24) rfl rfl sb rfl one2 (by omega) ?_)
    intro u' H5 o5 p5 po5 wf5 n5
    have hg5 := p5 _ _ (x24.c _ _ q2) (.inr (by show (28 : TypeId) ≠ 51; decide))
    have e5 : EntR H5 (ru ++ [[nt (xs[m]).1, d]]) (s.l.take at_ ++ xs.take (m + 1)) := by
      rw [List.take_add_one, List.getElem?_eq_getElem hltm, Option.toList_some, ← List.append_assoc]
      exact ((q4.ext x24).pres fun j b hj he => p5 j b hj (.inr (by rw [he]; decide))).push ((qd.pres fun j b hj _ => x4.c j b hj).pres fun j b hj he => p5 j b hj (.inr (by rw [he]; decide)))
    have k5 : Kg g h H5 := ⟨fun j b hj hne => p5 j b (x24.c j b (q5.c j b hj hne)) (.inl (wf.lt hj)), fun j b hj => po5 j b (x24.o j b (q5.o j b hj)), by omega⟩
    repeat (first | refine TAL.p rfl rfl rfl (fun h' hn => op_nilCheck rfl ⟨rfl, rfl⟩) ?_ | refine TAL.p rfl rfl rfl (fun h' hn => op_fa rfl ⟨rfl, rfl⟩) ?_)
    refine TAL.w0 rfl rfl (op_store (b := logB (ptr i) name s u) rfl rfl o5.one hg5 rfl (by exact Nat.le_of_ble_eq_true rfl) ?_)
    refine TAL.nil ?_
    have kd6 : Kg g H5 (H5.set g (logB (ptr i) name s u')) := Kg.set _ _
    have kk6 := kd6.kd hg5 rfl
    repeat (first | refine AL.nil ?_ | refine AWp.region ?_ | refine AL.set rfl rfl (op_moveI rfl ?_) | refine AL.set rfl rfl (op_add64 rfl rfl (by omega) ?_))
    refine ⟨(m + 1, u', ru ++ [[nt (xs[m]).1, d]], H5.set g (logB (ptr i) name s u')), ⟨hltm, Heap.set_at _ _ _, .inr ⟨o5.len, ?_⟩, e5.kd kk6, k5.trans kd6, wf5.set (wf5.lt hg5) _⟩, by show xs.length - (m + 1) < xs.length - m; omega, Weak.same (EW.cons rfl (EW.cons rfl (EW.cons rfl (EW.cons rfl EW.nil))))⟩
    refine o5.at_.imp id fun ⟨j, cap, a1, a2, a3⟩ => ⟨j, cap, a1, a2, ?_⟩
    exact kk6.c _ _ a3 (by show (51 : TypeId) ≠ 28; decide) (by show (51 : TypeId) ≠ 68; decide)
  · have hm : m = xs.length := by omega
    subst hm
    rw [List.take_length] at q4
    repeat (first | refine AL.nil ?_ | refine AWp.seq ?_ | refine AWp.region ?_ | refine AWp.condF rfl ?_ | refine AWp.exit ?_ | refine AL.set rfl rfl (op_intF rfl rfl rfl (by omega) ?_))
    exact ⟨_, ResV.none rfl, rfl, u, ru, q2, q3.rne, q4, q5⟩
end
end Go.Proofs.Ytnioldkmckmajaa
/-
  Logs: the disk, avs far avs a log that finds room asks; all records.
-/
namespace Go.Proofs.Ytnioldkmckmajaa
open Go Go.Eng Go.Pln
attribute [local irreducible] AWp AL DAL AOp TAL
instance i_whole : FnC Try.prog 50 := ⟨Try.f50, Try.func50, by kernel_rfl, by kernel_rfl⟩
structure Dq (h : Heap) (i m room k n : Nat) (fl : Dsk.FL) (c : Nat) : Prop where
  at_ : Dk.At h i m room fl c
  k : fl.length ≤ k
  n : Dsk.used fl ≤ n
structure Ki (i : Nat) (h h' : Heap) : Prop where
  c : ∀ j b, h.get j = some b → j ≠ i → h'.get j = some b
  n : h.next ≤ h'.next
theorem Ki.st {i m room : Nat} {h : Heap} (l : Dsk.FL) (c : Nat) : Ki i h (Dk.stD h i m room l c) := ⟨fun j b h1 h2 => by
  show (h.set i (Dk.dskB room (Dsk.used l : Nat) (some m))).get j = some b
  exact (Heap.set_other h2).trans h1, Nat.le_refl _⟩
theorem Ki.trans {i : Nat} {a b c : Heap} (x : Ki i a b) (y : Ki i b c) : Ki i a c := ⟨fun j q h1 h2 => y.c j q (x.c j q h1 h2) h2, Nat.le_trans x.n y.n⟩
theorem Ki.ext {i : Nat} {a b : Heap} (x : Ext a b) (n : a.next ≤ b.next) : Ki i a b := ⟨fun j q h1 _ => x.c j q h1, n⟩
theorem Ki.kd {i m room : Nat} {l : Dsk.FL} {c : Nat} {a b : Heap} (x : Ki i a b) (d : Dk.At a i m room l c) : Kd a b := ⟨fun j q h1 _ h3 => x.c j q h1 fun e => by subst e; rw [d.box] at h1; cases h1; exact h3 rfl, x.n⟩
theorem at_ext {h h' : Heap} {i m room : Nat} {l : Dsk.FL} {c : Nat} (a : Dk.At h i m room l c) (x : Ext h h') : Dk.At h' i m room l c := ⟨x.c _ _ a.box, x.o _ _ a.map, a.ok, a.big⟩
theorem at_kg {h h' : Heap} {g i m room : Nat} {l : Dsk.FL} {c : Nat} (a : Dk.At h i m room l c) (x : Kg g h h') (hne : i ≠ g) : Dk.At h' i m room l c := ⟨x.c _ _ a.box hne, x.o _ _ a.map, a.ok, a.big⟩
theorem open_ok {l : Dsk.FL} {s : List UInt8} (hs : Dsk.goodN s = true) (hh : hasS l s = true) : Dsk.openE l s [] = 0 := by unfold Dsk.openE; rw [hs, hh]; rfl
theorem app_ok {room : Nat} {l : Dsk.FL} {s b : List UInt8} (hs : Dsk.goodN s = true) (h1 : l.length < 128) (h2 : Dsk.used l + b.length ≤ room) : Dsk.appE room l s b = 0 := by
  unfold Dsk.appE Dsk.fullB
  rw [hs, decide_eq_false (by omega), decide_eq_false (by omega)]
  simp
theorem used_putD (l : Dsk.FL) (s : List UInt8) (f : Dsk.File) (c : Nat) : Dsk.used (Dsk.putD l s f c) = Dsk.used (delS l s) + (Dsk.allF f).length := by unfold Dsk.putD; rw [Dsk.used_push]
theorem len_putD (l : Dsk.FL) (s : List UInt8) (f : Dsk.File) (c : Nat) : (Dsk.putD l s f c).length ≤ l.length + 1 := by
  unfold Dsk.putD
  have := (Dsk.del_sub l s).length_le
  simp; omega
theorem has_putD (l : Dsk.FL) (s : List UInt8) (f : Dsk.File) (c : Nat) : hasS (Dsk.putD l s f c) s = true := by
  rw [Dsk.has_mem]; unfold Dsk.putD; simp
theorem appD_c {i m room k n : Nat} {fl : Dsk.FL} {c : Nat} {h : Heap} (d : Dq h i m room k n fl c) (s : List UInt8) (v : Value) (b : List UInt8) (hs : Dsk.goodN s = true) (hl : s.length ≤ 100) (hr : RB h v b) (hb : b.length ≤ 10000000) (hk : k < 128) (hn : n + b.length ≤ room) :
    ACalls Try.prog 46 [ptr i, .string (bstr s), v] h fun u h' => u = .int .i64 0 ∧ ∃ fl' c', Dq h' i m room (k + 1) (n + b.length) fl' c' ∧ hasS fl' s = true ∧ Ki i h h' := by
  have d1 := d.k
  have d2 := d.n
  have he := app_ok (room := room) (l := fl) (b := b) hs (by omega) (by omega)
  refine (Dk.append_c i m room fl c s v b h d.at_ (by omega) hr (by omega)).mono ?_
  rintro u h' ⟨rfl, rfl⟩
  rw [he]
  have hL : Dsk.appL room fl c s b = Dsk.putD fl s ((Dsk.fileOf fl s).1, (Dsk.fileOf fl s).2 ++ b) c := by unfold Dsk.appL; rw [if_pos he]
  refine ⟨rfl, _, _, ⟨Dk.At.st (d.at_.ok.app s b) d.at_.big, ?_, ?_⟩, ?_, Ki.st _ _⟩
  · rw [hL]; have := len_putD fl s ((Dsk.fileOf fl s).1, (Dsk.fileOf fl s).2 ++ b) c; omega
  · rw [hL, used_putD]
    have h1 := Dsk.used_del fl s
    have h2 : (Dsk.allF ((Dsk.fileOf fl s).1, (Dsk.fileOf fl s).2 ++ b)).length = (Dsk.allF (Dsk.fileOf fl s)).length + b.length := by simp [Dsk.allF]; omega
    rw [h2]
    unfold Dsk.fileOf
    omega
  · rw [hL]; exact has_putD _ _ _ _
theorem syncD_c {i m room k n : Nat} {fl : Dsk.FL} {c : Nat} {h : Heap} (d : Dq h i m room k n fl c) (s : List UInt8) (hs : Dsk.goodN s = true) (hl : s.length ≤ 100) (hh : hasS fl s = true) (hk : k < 128) :
    ACalls Try.prog 35 [ptr i, .string (bstr s)] h fun u h' => u = .int .i64 0 ∧ ∃ fl' c', Dq h' i m room (k + 1) n fl' c' ∧ hasS fl' s = true ∧ Ki i h h' := by
  have d1 := d.k
  have d2 := d.n
  have he := open_ok hs hh
  refine (Dk.sync_c i m room fl c s h d.at_ (by omega)).mono ?_
  rintro u h' ⟨rfl, rfl⟩
  rw [he]
  have hL : Dk.syncL fl c s = Dsk.putD fl s (Dsk.allF (Dsk.fileOf fl s), []) c := by unfold Dk.syncL; rw [if_pos he]
  have hC : Dk.syncC fl c s = c + 1 := by unfold Dk.syncC; rw [if_pos he]
  have hu : Dsk.used (Dsk.putD fl s (Dsk.allF (Dsk.fileOf fl s), []) c) = Dsk.used fl := by
    rw [used_putD]
    have h1 := Dsk.used_del fl s
    have h2 : (Dsk.allF (Dsk.allF (Dsk.fileOf fl s), ([] : List UInt8))).length = (Dsk.allF (Dsk.fileOf fl s)).length := by simp [Dsk.allF]
    rw [h2]
    unfold Dsk.fileOf
    omega
  refine ⟨rfl, _, _, ⟨Dk.At.st ?_ d.at_.big, ?_, ?_⟩, ?_, Ki.st _ _⟩
  · rw [hL, hC]; exact d.at_.ok.put hs (by rw [← used_putD _ _ _ c, hu]; exact d.at_.ok.used) (by have := (Dsk.del_sub fl s).length_le; omega)
  · rw [hL]; have := len_putD fl s (Dsk.allF (Dsk.fileOf fl s), []) c; omega
  · rw [hL, hu]; exact d2
  · rw [hL]; exact has_putD _ _ _ _
theorem remD_c {i m room k n : Nat} {fl : Dsk.FL} {c : Nat} {h : Heap} (d : Dq h i m room k n fl c) (s : List UInt8) (hl : s.length ≤ 100) :
    ACalls Try.prog 49 [ptr i, .string (bstr s)] h fun u h' => scalar u = true ∧ ∃ fl' c', Dq h' i m room k n fl' c' ∧ Ki i h h' := by
  have d1 := d.k
  have d2 := d.n
  refine (Dk.remove_c i m room fl c s h d.at_ (by omega)).mono ?_
  rintro u h' ⟨rfl, rfl⟩
  refine ⟨rfl, _, _, ⟨Dk.At.st (d.at_.ok.del s) d.at_.big, ?_, ?_⟩, Ki.st _ _⟩
  · have := (Dsk.del_sub fl s).length_le; omega
  · have := Dsk.used_del fl s; omega
theorem renD_c {i m room k n : Nat} {fl : Dsk.FL} {c : Nat} {h : Heap} (d : Dq h i m room k n fl c) (s t : List UInt8) (hs : Dsk.goodN s = true) (ht : Dsk.goodN t = true) (hl : s.length ≤ 100) (hl2 : t.length ≤ 100) (hh : hasS fl s = true) (hk : k < 128) :
    ACalls Try.prog 54 [ptr i, .string (bstr s), .string (bstr t)] h fun u h' => u = .int .i64 0 ∧ ∃ fl' c', Dq h' i m room (k + 1) n fl' c' ∧ Ki i h h' := by
  have d1 := d.k
  have d2 := d.n
  have he : Dsk.openE fl s [t] = 0 := by unfold Dsk.openE; rw [hs, hh]; simp [ht]
  refine (Dk.rename_c i m room fl c s t h d.at_ (by omega) (by omega)).mono ?_
  rintro u h' ⟨rfl, rfl⟩
  rw [he]
  have hL : Dk.renL fl c s t = Dsk.putD (delS fl s) t (Dsk.fileOf fl s) c := by unfold Dk.renL; rw [if_pos he]
  have hC : Dk.renC fl c s t = c + 1 := by unfold Dk.renC; rw [if_pos he]
  have hd := (Dsk.del_sub fl s).length_le
  have hd2 := (Dsk.del_sub (delS fl s) t).length_le
  have hu : Dsk.used (Dsk.putD (delS fl s) t (Dsk.fileOf fl s) c) ≤ Dsk.used fl := by
    rw [used_putD]
    have h1 := Dsk.used_del fl s
    have h2 := Dsk.used_del (delS fl s) t
    unfold Dsk.fileOf
    omega
  refine ⟨rfl, _, _, ⟨Dk.At.st ?_ d.at_.big, ?_, ?_⟩, Ki.st _ _⟩
  · rw [hL, hC]; exact (d.at_.ok.del s).put ht (by rw [← used_putD _ _ _ c]; have := d.at_.ok.used; omega) (by omega)
  · rw [hL]; have := len_putD (delS fl s) t (Dsk.fileOf fl s) c; omega
  · rw [hL]; omega
theorem putB_le (p : List UInt8) : (Frm.putB p).length ≤ 8 + p.length := by
  unfold Frm.putB
  split
  · simp
  · split
    · simp
    · rw [Frm.frameB_length]; omega
theorem recB_le (k : Nat) (ll : List (List UInt8)) (hk : k ≤ 9) : (recB k ll).length ≤ 18 + ll.flatten.length := by
  unfold recB
  have := putB_le (vnt k ++ ll.flatten)
  have := vnt_len10 k (by omega)
  rw [List.length_append] at *
  omega
def entN (l : List (Nat × List UInt8)) : Nat := (l.map fun x => 60 + x.2.length).sum
theorem entN_take {l : List (Nat × List UInt8)} {k : Nat} {x : Nat × List UInt8} (h : l[k]? = some x) : entN (l.take (k + 1)) = entN (l.take k) + (60 + x.2.length) := by
  unfold entN
  rw [List.take_add_one, h, List.map_append, List.sum_append]; simp
theorem entN_le (l : List (Nat × List UInt8)) (k : Nat) : entN (l.take k) ≤ entN l := by
  have : entN l = entN (l.take k) + entN (l.drop k) := by unfold entN; rw [← List.sum_append, ← List.map_append, List.take_append_drop]
  omega
theorem entB_le (i a : Nat) (d : List UInt8) (hi : i ≤ 2147483647) (ha : a ≤ 2147483647) (hd : d.length ≤ 10000000) : (recB 3 [vnt i, vnt a, spelt d]).length ≤ 60 + d.length := by
  have h1 := recB_le 3 [vnt i, vnt a, spelt d] (by omega)
  have l1 := vnt_len10 a (by omega)
  have l2 := vnt_len10 i (by omega)
  have l3 := vnt_len10 d.length (by omega)
  have h2 : [vnt i, vnt a, spelt d].flatten.length = (vnt i).length + ((vnt a).length + ((vnt d.length).length + d.length)) := by simp [spelt]
  have h4 : (vnt i).length ≤ 5 := vnt_len 4 i (Nat.lt_of_le_of_lt hi (by decide))
  have h5 : (vnt a).length ≤ 5 := vnt_len 4 a (Nat.lt_of_le_of_lt ha (by decide))
  omega
theorem two_le (k a b : Nat) (hk : k ≤ 9) (ha : a ≤ 2147483647) (hb : b ≤ 2147483647) : (recB k [vnt a, vnt b]).length ≤ 40 := by
  have h1 := recB_le k [vnt a, vnt b] hk
  have l1 := vnt_len10 a (by omega)
  have l2 := vnt_len10 b (by omega)
  have h2 : [vnt a, vnt b].flatten.length = (vnt a).length + (vnt b).length := by simp
  omega
section
variable {h : Heap} {g : Nat} {i : Nat} {name : List UInt8} {s : LogM} {lv : Value}
set_option maxHeartbeats 4000000 in
theorem whole_c (hg : h.get g = some (logB (ptr i) name s lv)) {rows : List (List Value)} (r : RNE h lv rows) (e : EntR h rows s.l) (ok : s.Ok) (hb : s.last ≤ 2147483647) (hN : entN s.l ≤ 1000000) :
    ACalls Try.prog 50 [ptr g] h fun u h' => ∃ b, RB h' u b ∧ b.length ≤ 80 + entN s.l ∧ Ext h h' := by
  refine ACalls.wf fun wf => ?_
  refine ACalls.body Try.func50 rfl rfl ?_
  have k1 := ok.b
  have k2 := ok.n
  have k3 := ok.b0
  have k4 := ok.t
  have k5 := ok.v
  have l1 := two_le 1 s.base s.base0 (by omega) k1 k3
  have l2 := two_le 2 s.term s.vote (by omega) k4 (by omega)
  unfold LogM.last at hb
  repeat (first | refine AL.nil ?_ | refine AWp.seq ?_ | refine AWp.region ?_ | refine AL.set rfl rfl (op_assignS rfl ?_))
  refine AWp.cutI (α := Value × List UInt8 × Heap) (fun z => [(0, ptr g), (3, z.1)]) (fun z => z.2.2) (fun z => OS h.next z.2.2 5 z.1 (bv z.2.1) ∧ z.2.1.length ≤ 80 ∧ Ext h z.2.2 ∧ WF z.2.2 ∧ h.next ≤ z.2.2.next) ?_ ?_
  · have cB := fun (h' : Heap) => baseRecord_c s.base s.base0 h' k1 k3
    have cS := fun (h' : Heap) => stateRecord_c s.term s.vote h' k4 (by omega)
    refine AWp.tree (t := OT.seq [(0, .P), (1, .P), (2, .P), (3, .R), (4, .P), (5, .P), (6, .P), (7, .R), (9, .P), (10, .P), (11, .P), (12, .R), (8, .X), (13, .X), (14, .W), (15, .P)] .nil) mixedT (by kernel_rfl) ?_
    repeat (first | refine TAL.r rfl rfl rfl (fun h' hx hn => op_load rfl rfl (hx.c _ _ hg) rfl ⟨rfl, rfl⟩) ?_ | refine TAL.r rfl rfl rfl (fun h' hx hn => op_loadA (sz := 2) rfl rfl (hx.c _ _ hg) (by exact Nat.le_of_ble_eq_true rfl) ⟨rfl, rfl⟩) ?_ | refine TAL.p rfl rfl rfl (fun h' hn => op_moveP rfl ⟨rfl, rfl⟩) ?_ | refine TAL.p rfl rfl rfl (fun h' hn => op_nilCheck rfl ⟨rfl, rfl⟩) ?_ | refine TAL.p rfl rfl rfl (fun h' hn => op_fa rfl ⟨rfl, rfl⟩) ?_)
    refine TAL.x rfl rfl rfl (op_call rfl rfl ((cB h).wf_post.mono ?_))
    rintro u1 H1 ⟨⟨o1, x1⟩, w1, n1⟩
    refine ⟨x1, TAL.x rfl rfl rfl (op_call rfl rfl ((cS H1).wf_post.mono ?_))⟩
    rintro u2 H2 ⟨⟨r2, x2⟩, w2, n2⟩
    refine ⟨x2, TAL.w rfl rfl rfl (op_appendO (by_ := 1) (z := .int .u8 0) (B := h.next) (e := 5) rfl w2 (by omega) (o1.ext x2) rfl rfl r2.src (bv_length _) (bv_one _) (by rw [bv_length]; simp only [maxLen]; omega) (by rw [bv_length]; omega) ?_)⟩
    intro u3 H3 o3 k3' w3 n3
    rw [← bv_append] at o3
    repeat (first | refine TAL.p rfl rfl rfl (fun h' hn => op_assign (v := u3) rfl ⟨rfl, rfl⟩) ?_)
    refine TAL.nil ?_
    exact ⟨(u3, _, H3), ⟨o3, by show (_ ++ _ : List UInt8).length ≤ 80; rw [List.length_append]; omega, k3'.ext (o1.ext x2) wf (Nat.le_refl _) (x1.trans x2), w3, by show h.next ≤ H3.next; omega⟩, Weak.same (EW.cons rfl (EW.cons rfl EW.nil))⟩
  · rintro ⟨u0, b0, H0⟩ ⟨o0, lb0, x0, w0, n0⟩
    replace o0 : OS h.next H0 5 u0 (bv b0) := o0
    replace lb0 : b0.length ≤ 80 := lb0
    replace x0 : Ext h H0 := x0
    replace w0 : WF H0 := w0
    replace n0 : h.next ≤ H0.next := n0
    show AWp _ _ _ _ [(0, ptr g), (3, u0)] H0
    have hg0 := x0.c _ _ hg
    have r0 := r.ext x0
    have hlr := e.len
    obtain ⟨alv, clv, hlv⟩ := r.1.slice
    repeat (first | refine AL.nil ?_ | refine AWp.seq ?_ | refine AWp.region ?_ | refine AWp.block ?_ | refine AL.set rfl rfl (op_moveI rfl ?_) | refine AL.set rfl rfl (op_moveP rfl ?_) | refine AL.set rfl rfl (op_nilCheck rfl ?_) | refine AL.set rfl rfl (op_fa rfl ?_) | refine AL.set rfl rfl (op_load rfl rfl hg0 rfl ?_) | refine AL.set rfl rfl (op_lenN r0.1 rfl ?_))
    refine AWp.loop (α := Nat × Value × List UInt8 × Heap) (fun z => [(0, ptr g), (3, z.2.1), (24, lv), (25, .int .i64 (rows.length : Nat)), (26, nt z.1)]) (fun z => z.2.2.2) (fun z => z.1 ≤ s.l.length ∧ OS h.next z.2.2.2 5 z.2.1 (bv z.2.2.1) ∧ z.2.2.1.length ≤ 80 + entN (s.l.take z.1) ∧ Ext h z.2.2.2 ∧ WF z.2.2.2 ∧ h.next ≤ z.2.2.2.next) (fun z => s.l.length - z.1) (0, u0, b0, H0) ⟨Nat.zero_le _, o0, by show b0.length ≤ 80 + _; omega, x0, w0, n0⟩ (Weak.same (EW.cons rfl (EW.cons rfl (EW.cons rfl (EW.cons rfl (EW.cons rfl EW.nil)))))) ?_
    rintro ⟨m, u, b, H⟩ ⟨q1, q2, q3, q4, q5, q6⟩
    replace q1 : m ≤ s.l.length := q1
    replace q2 : OS h.next H 5 u (bv b) := q2
    replace q3 : b.length ≤ 80 + entN (s.l.take m) := q3
    replace q4 : Ext h H := q4
    replace q5 : WF H := q5
    replace q6 : h.next ≤ H.next := q6
    show AWp _ _ _ _ [(0, ptr g), (3, u), (24, lv), (25, .int .i64 (rows.length : Nat)), (26, nt m)] H
    by_cases hlt : m < s.l.length
    · obtain ⟨w, hw, qw⟩ := e.row hlt
      have hw2 : rows[((m : Nat) : Int).toNat]? = some [nt (s.l[m]).1, w] := by simpa using hw
      have rr := r.1.ext q4
      have pr := rr.elt hw2
      obtain ⟨aw, cw, hvw⟩ := qw.1.slice
      have one1 : [nt (s.l[m]).1, w].all oneB = true := by simp [oneB, hvw]
      have hx2 := ok.e _ (List.getElem_mem hlt)
      have hE := entN_take (List.getElem?_eq_getElem hlt)
      have hE2 := entN_le s.l (m + 1)
      repeat (first | refine AL.nil ?_ | refine AWp.seq ?_ | refine AWp.region ?_ | refine AWp.condT rfl ?_ | refine AWp.block ?_ | refine AWp.skip ?_ | refine AL.set rfl rfl (op_moveI rfl ?_) | refine AL.set rfl rfl (op_assignI rfl ?_) | refine AL.set rfl rfl (op_intT rfl rfl rfl (by omega) ?_) | refine AL.set rfl rfl (op_indexND rr rfl rfl (by omega) hw2 ?_) | refine AL.set rfl rfl (op_loadN (c := 2) pr rfl rfl rfl ?_) | refine AL.set rfl rfl (op_alloc ?_))
      refine AL.eff rfl (op_storeW (sz := 2) (vs := [nt (s.l[m]).1, w]) rfl rfl rfl rfl one1 ?_)
      have g1 := Heap.alloc_new H ⟨[nt (s.l[m]).1, w], 51, true⟩
      have x1 := q5.ext ⟨[nt (s.l[m]).1, w], 51, true⟩
      have w1 := q5.alloc ⟨[nt (s.l[m]).1, w], 51, true⟩
      have n1 : (H.alloc ⟨[nt (s.l[m]).1, w], 51, true⟩).next = H.next + 1 := rfl
      refine AL.heap (h := H.alloc ⟨[nt (s.l[m]).1, w], 51, true⟩) rfl ?_
      generalize hp : H.next = p at g1 n1 ⊢
      generalize H.alloc ⟨[nt (s.l[m]).1, w], 51, true⟩ = H1 at g1 x1 w1 n1 ⊢
      have x01 := q4.trans x1
      have hg1 := x01.c _ _ hg
      have rw1 := qw.1.ext x01
      have o1 := q2.ext x1
      have cE := entryRecord_c (s.base + m + 1) (s.l[m]).1 w (s.l[m]).2 H1 rw1 (by omega) hx2.1 (by omega)
      have lE := entB_le (s.base + m + 1) (s.l[m]).1 (s.l[m]).2 (by omega) hx2.1 (by omega)
      have hcast : ((s.base + m + 1 : Nat) : Int) = (s.base : Int) + (m : Int) + 1 := by omega
      rw [hcast] at cE
      repeat (first | refine AL.nil ?_)
      refine AWp.tree (t := OT.seq [(0, .P), (1, .P), (2, .P), (3, .P), (4, .R), (5, .P), (6, .P), (7, .P), (8, .R), (9, .X), (10, .W), (11, .P)] .nil) mixedT (by kernel_rfl) ?_
      repeat (first | refine TAL.r rfl rfl rfl (fun h' hx hn => op_load rfl rfl (hx.c _ _ hg1) rfl ⟨rfl, rfl⟩) ?_ | refine TAL.r rfl rfl rfl (fun h' hx hn => op_loadA (sz := 2) rfl rfl (hx.c _ _ g1) (by exact Nat.le_of_ble_eq_true rfl) ⟨rfl, rfl⟩) ?_ | refine TAL.p rfl rfl rfl (fun h' hn => op_moveI rfl ⟨rfl, rfl⟩) ?_ | refine TAL.p rfl rfl rfl (fun h' hn => op_moveP rfl ⟨rfl, rfl⟩) ?_ | refine TAL.p rfl rfl rfl (fun h' hn => op_move (v := u) rfl ⟨rfl, rfl⟩) ?_ | refine TAL.p rfl rfl rfl (fun h' hn => op_nilCheck rfl ⟨rfl, rfl⟩) ?_ | refine TAL.p rfl rfl rfl (fun h' hn => op_fa rfl ⟨rfl, rfl⟩) ?_ | refine TAL.p rfl rfl rfl (fun h' hn => op_add64 rfl rfl (by omega) ⟨rfl, rfl⟩) ?_)
      refine TAL.x rfl rfl rfl (op_call rfl rfl (cE.wf_post.mono ?_))
      rintro u2 H2 ⟨⟨r2, x2⟩, w2, n2⟩
      refine ⟨x2, TAL.w rfl rfl rfl (op_appendO (by_ := 1) (z := .int .u8 0) (B := h.next) (e := 5) rfl w2 (by omega) (o1.ext x2) rfl rfl r2.src (bv_length _) (bv_one _) (by rw [bv_length]; simp only [maxLen]; omega) (by rw [bv_length]; omega) ?_)⟩
      intro u3 H3 o3 k3' w3 n3
      rw [← bv_append] at o3
      repeat (first | refine TAL.p rfl rfl rfl (fun h' hn => op_assign (v := u3) rfl ⟨rfl, rfl⟩) ?_)
      refine TAL.nil ?_
      repeat (first | refine AL.nil ?_ | refine AWp.region ?_ | refine AL.set rfl rfl (op_moveI rfl ?_) | refine AL.set rfl rfl (op_add64 rfl rfl (by omega) ?_))
      exact ⟨(m + 1, u3, _, H3), ⟨hlt, o3, by show (_ ++ _ : List UInt8).length ≤ 80 + entN (s.l.take (m + 1)); rw [List.length_append, hE]; omega, k3'.ext (o1.ext x2) wf (Nat.le_refl _) (x01.trans x2), w3, by show h.next ≤ H3.next; omega⟩, by show s.l.length - (m + 1) < s.l.length - m; omega, Weak.same (EW.cons rfl (EW.cons rfl (EW.cons rfl (EW.cons rfl (EW.cons rfl EW.nil)))))⟩
    · repeat (first | refine AL.nil ?_ | refine AWp.seq ?_ | refine AWp.region ?_ | refine AWp.condF rfl ?_ | refine AWp.ret ?_ | refine AWp.exit ?_ | refine AL.set rfl rfl (op_intF rfl rfl rfl (by omega) ?_) | refine AL.set rfl rfl (op_move (v := u) rfl ?_) | refine AL.set rfl rfl (op_assign (v := u) rfl ?_))
      have hm : m = s.l.length := by omega
      subst hm
      rw [List.take_length] at q3
      exact ⟨_, ResV.tmp rfl, b, OS.rs q2, q3, q4⟩
end
end Go.Proofs.Ytnioldkmckmajaa
