/-
  Texts of one claim, merged: 6 parts.
-/
import Derived.Test.YtnioldkmckmajaaMnt
import Derived.Test.YtnioldkmckmajaaMnf
import Derived.Test.YtnioldkmckmajaaMnl
import Derived.Test.YtnioldkmckmajaaMnh
set_option maxHeartbeats 16000000
/-
  Logs: put and cut.
-/
namespace Go.Proofs.Ytnioldkmckmajaa
open Go Go.Eng Go.Pln
attribute [local irreducible] AWp AL DAL AOp TAL
section
variable {h : Heap} {g : Nat} {i : Nat} {name : List UInt8} {s : LogM} {lv : Value} {m room k n : Nat}
theorem put1_c (p q w : Nat) (at_ : Nat) (hat : at_ ≤ s.l.length) (v : Value) (xs : List (Nat × List UInt8)) {rows rx : List (List Value)} (rv : RNE h v rx) (ex : EntR h rx xs) (hn : xs.length ≤ 1000) (hd : ∀ x ∈ xs, x.2.length ≤ 524288)
    (hp : h.get p = some (lgB g)) (hq : h.get q = some ⟨[nt (s.base + 1 + at_)], 2, true⟩) (hw : h.get w = some ⟨[v], 26, true⟩) (hg : h.get g = some (logB (ptr i) name s lv)) (r : RNE h lv rows) (e : EntR h rows s.l) (ok : s.Ok) :
    ACalls Try.prog 31 [ptr p, ptr q, ptr w] h fun _ h' => ∃ lw rw, h'.get g = some (logB (ptr i) name s lw) ∧ RNE h' lw rw ∧ EntR h' rw (s.l.take at_ ++ xs) ∧ Kg g h h' := by
  refine ACalls.body Try.func31 rfl rfl ?_
  repeat (first | refine AWp.region ?_ | refine AL.set rfl rfl (op_load rfl rfl hp rfl ?_) | refine AL.set rfl rfl (op_load rfl rfl hq rfl ?_) | refine AL.set rfl rfl (op_load rfl rfl hw rfl ?_))
  refine AL.set rfl rfl (op_call rfl rfl ((set_c hg r e ok at_ hat v xs rv ex hn hd).mono ?_))
  rintro _ H ⟨rfl, q⟩
  repeat (first | refine AL.nil ?_)
  exact ⟨_, ResV.none rfl, q⟩
set_option maxHeartbeats 8000000 in
theorem put_ok (a : LgD h g i m room k n name s) (nm : Nm name) (at_ : Nat) (hat : at_ ≤ s.l.length) (v : Value) (xs : List (Nat × List UInt8)) {rx : List (List Value)} (rv : RNE h v rx) (ex : EntR h rx xs) (hx0 : 0 < xs.length) (hx1 : s.l.length + xs.length ≤ 1000)
    (hm : mayE s.term (s.at (s.base + at_)) xs) (hN : entN xs ≤ 1000000) (hk : k < 128) (hn : n + entN xs ≤ room) (hmax : s.base + 2000 ≤ 2147483647) :
    ACalls Try.prog 10 [ptr g, nt (s.base + 1 + at_), v] h fun u h' => u = .int .i64 0 ∧ LgD h' g i m room (k + 1) (n + entN xs) name { s with l := s.l.take at_ ++ xs } ∧ Kd h h' := by
  refine ACalls.wf fun wf => ?_
  obtain ⟨lv, rows, hg, r, e⟩ := a.ex
  obtain ⟨fl, c, d⟩ := a.dsk
  refine ACalls.body Try.func10 rfl rfl ?_
  have ok := a.ok
  have k1 := ok.b
  have k2 := ok.n
  have k3 := ok.t
  have hlx := ex.len
  have hdx : ∀ x ∈ xs, x.1 ≤ 2147483647 ∧ x.2.length ≤ 524288 := fun x hx => by
    obtain ⟨j, hj⟩ := List.getElem?_of_mem hx
    obtain ⟨_, q2, q3, _⟩ := mayE_at hm j x hj
    exact ⟨by omega, q3⟩
  obtain ⟨av, cv, hv⟩ := rv.1.slice
  have hvu : v ≠ undef := by rw [hv]; intro e; cases e
  have hvc : v.cells.toList = [v] := by rw [hv]; rfl
  repeat (first | refine AWp.seq ?_ | refine AWp.region ?_)
  refine AL.set rfl rfl (op_box (v := ptr g) rfl (by intro e; cases e) ?_)
  have g1 := Heap.alloc_new h (lgB g)
  have x1 := wf.ext (lgB g)
  have w1 := wf.alloc (lgB g)
  have n1 : h.next ≤ (h.alloc (lgB g)).next := Nat.le_succ _
  refine AL.heap (h := h.alloc (lgB g)) rfl ?_
  generalize h.next = p at g1 ⊢
  generalize h.alloc (lgB g) = H1 at g1 x1 w1 n1 ⊢
  refine AL.set rfl rfl (op_box (v := nt (s.base + 1 + at_)) rfl (by intro e; cases e) ?_)
  have g2 := Heap.alloc_new H1 ⟨[nt (s.base + 1 + at_)], 2, true⟩
  have x2 := w1.ext ⟨[nt (s.base + 1 + at_)], 2, true⟩
  have w2 := w1.alloc ⟨[nt (s.base + 1 + at_)], 2, true⟩
  have n2 : H1.next ≤ (H1.alloc ⟨[nt (s.base + 1 + at_)], 2, true⟩).next := Nat.le_succ _
  have n02 := Nat.le_trans n1 n2
  refine AL.heap (h := H1.alloc ⟨[nt (s.base + 1 + at_)], 2, true⟩) rfl ?_
  generalize H1.next = q at g2 ⊢
  generalize H1.alloc ⟨[nt (s.base + 1 + at_)], 2, true⟩ = H2 at g2 x2 w2 n02 ⊢
  refine AL.set rfl rfl (op_box (v := v) rfl hvu ?_)
  rw [hvc]
  have g3 := Heap.alloc_new H2 ⟨[v], 26, true⟩
  have x3 := w2.ext ⟨[v], 26, true⟩
  have w3 := w2.alloc ⟨[v], 26, true⟩
  have n3 : H2.next ≤ (H2.alloc ⟨[v], 26, true⟩).next := Nat.le_succ _
  have n03 := Nat.le_trans n02 n3
  generalize H2.next = w at g3 ⊢
  generalize H2.alloc ⟨[v], 26, true⟩ = H3 at g3 x3 w3 n03 ⊢
  have x03 := x1.trans (x2.trans x3)
  have hg3 := x03.c _ _ hg
  have gp3 := (x2.trans x3).c _ _ g1
  have gq3 := x3.c _ _ g2
  have ci := fun (h' : Heap) (hx : Ext H3 h') => is_c (hx.c _ _ hg3)
  have hk1 : s.base + 1 + at_ - 1 = s.base + at_ := by omega
  have cm := fun (h' : Heap) (hx : Ext H3 h') => mayPut_c (hx.c _ _ hg3) (r.ext (x03.trans hx)) (e.ext (x03.trans hx)) ok (s.base + 1 + at_) v xs (rv.ext (x03.trans hx)) (ex.ext (x03.trans hx)) (by omega) (by unfold LogM.last; omega) (by omega) (by rw [hk1]; exact hm)
  have cr := fun (h' : Heap) (hx : Ext H3 h') => ready_c (hx.c _ _ hg3) true
  repeat (first | refine AL.nil ?_ | refine AWp.seq ?_ | refine AL.set rfl rfl (op_assignI rfl ?_))
  refine AWp.drawR mixedT (by kernel_rfl) ?_
  repeat (first | refine DAL.r rfl rfl rfl (fun h' hx hn => op_moveB rfl ⟨rfl, rfl⟩) ?_ | refine DAL.r rfl rfl rfl (fun h' hx hn => op_assignI rfl ⟨rfl, rfl⟩) ?_ | refine DAL.r rfl rfl rfl (fun h' hx hn => op_load rfl rfl (hx.c _ _ gp3) rfl ⟨rfl, rfl⟩) ?_ | refine DAL.r rfl rfl rfl (fun h' hx hn => op_load rfl rfl (hx.c _ _ gq3) rfl ⟨rfl, rfl⟩) ?_ | refine DAL.r rfl rfl rfl (fun h' hx hn => op_load rfl rfl (hx.c _ _ g3) rfl ⟨rfl, rfl⟩) ?_ | refine DAL.r rfl rfl rfl (fun h' hx hn => op_callS rfl rfl (ci h' hx) ⟨rfl, rfl⟩) ?_ | refine DAL.r rfl rfl rfl (fun h' hx hn => op_callS rfl rfl (cm h' hx) ⟨rfl, rfl⟩) ?_ | refine DAL.r rfl rfl rfl (fun h' hx hn => op_callS rfl rfl (cr h' hx) ⟨rfl, rfl⟩) ?_ | refine DAL.r rfl rfl rfl (fun h' hx hn => op_pick (v := .bool _) rfl rfl ⟨rfl, rfl⟩) ?_)
  refine DAL.nil ?_
  have rv3 := fun (h' : Heap) (hx : Ext H3 h') => (rv.ext (x03.trans hx)).1
  repeat (first | refine AL.nil ?_ | refine AWp.seq ?_ | refine AWp.region ?_ | refine AWp.condF rfl ?_ | refine AWp.skip ?_ | refine AL.set rfl rfl (op_moveI rfl ?_) | refine AL.set rfl rfl (op_int rfl rfl rfl ?_))
  refine AWp.drawR mixedT (by kernel_rfl) ?_
  repeat (first | refine DAL.r rfl rfl rfl (fun h' hx hn => op_moveB rfl ⟨rfl, rfl⟩) ?_ | refine DAL.skip rfl rfl rfl ?_ | refine DAL.r rfl rfl rfl (fun h' hx hn => op_load rfl rfl (hx.c _ _ g3) rfl ⟨rfl, rfl⟩) ?_ | refine DAL.r rfl rfl rfl (fun h' hx hn => op_lenN (rv3 h' hx) rfl ⟨rfl, rfl⟩) ?_ | refine DAL.r rfl rfl rfl (fun h' hx hn => op_intF rfl rfl rfl (by omega) ⟨rfl, rfl⟩) ?_ | refine DAL.r rfl rfl rfl (fun h' hx hn => op_pick (v := .bool _) rfl rfl ⟨rfl, rfl⟩) ?_)
  refine DAL.nil ?_
  repeat (first | refine AL.nil ?_ | refine AWp.seq ?_ | refine AWp.region ?_ | refine AWp.condF rfl ?_ | refine AWp.block ?_ | refine AWp.skip ?_ | refine AL.set rfl rfl (op_moveI rfl ?_) | refine AL.set rfl rfl (op_assignS rfl ?_) | refine AL.set rfl rfl (op_load rfl rfl g3 rfl ?_) | refine AL.set rfl rfl (op_lenN (rv3 _ (Ext.refl _)) rfl ?_))
  refine AWp.loop (α := Nat × Value × List UInt8 × Heap) (fun z => [(3, ptr p), (4, ptr q), (5, ptr w), (8, z.2.1), (38, v), (39, .int .i64 (rx.length : Nat)), (40, nt z.1)]) (fun z => z.2.2.2) (fun z => z.1 ≤ xs.length ∧ OS H3.next z.2.2.2 5 z.2.1 (bv z.2.2.1) ∧ z.2.2.1.length ≤ entN (xs.take z.1) ∧ (0 < z.1 → 0 < z.2.2.1.length) ∧ Ext H3 z.2.2.2 ∧ WF z.2.2.2 ∧ H3.next ≤ z.2.2.2.next) (fun z => xs.length - z.1) (0, .slice none 0 0, [], H3) ⟨Nat.zero_le _, OS.nil _ _ _, Nat.zero_le _, fun e => absurd e (Nat.lt_irrefl 0), Ext.refl _, w3, Nat.le_refl _⟩ (Weak.same (EW.cons rfl (EW.cons rfl (EW.cons rfl (EW.cons rfl (EW.cons rfl (EW.cons rfl (EW.cons rfl EW.nil)))))))) ?_
  rintro ⟨j, u, b, H⟩ ⟨q1, q2, q3, q3p, q4, q5, q6⟩
  replace q1 : j ≤ xs.length := q1
  replace q2 : OS H3.next H 5 u (bv b) := q2
  replace q3 : b.length ≤ entN (xs.take j) := q3
  replace q3p : 0 < j → 0 < b.length := q3p
  replace q4 : Ext H3 H := q4
  replace q5 : WF H := q5
  replace q6 : H3.next ≤ H.next := q6
  show AWp _ _ _ _ [(3, ptr p), (4, ptr q), (5, ptr w), (8, u), (38, v), (39, .int .i64 (rx.length : Nat)), (40, nt j)] H
  have x0H := x03.trans q4
  by_cases hlt : j < xs.length
  · obtain ⟨y, hy, qy⟩ := ex.row hlt
    have hy2 : rx[((j : Nat) : Int).toNat]? = some [nt (xs[j]).1, y] := by simpa using hy
    have rr := (rv.ext x0H).1
    have pr := rr.elt hy2
    obtain ⟨aw, cw2, hvw⟩ := qy.1.slice
    have one1 : [nt (xs[j]).1, y].all oneB = true := by simp [oneB, hvw]
    have hx2 := hdx _ (List.getElem_mem hlt)
    have hE := entN_take (List.getElem?_eq_getElem hlt)
    have hE2 := entN_le xs (j + 1)
    repeat (first | refine AL.nil ?_ | refine AWp.seq ?_ | refine AWp.region ?_ | refine AWp.condT rfl ?_ | refine AWp.block ?_ | refine AWp.skip ?_ | refine AL.set rfl rfl (op_moveI rfl ?_) | refine AL.set rfl rfl (op_assignI rfl ?_) | refine AL.set rfl rfl (op_intT rfl rfl rfl (by omega) ?_) | refine AL.set rfl rfl (op_indexND rr rfl rfl (by omega) hy2 ?_) | refine AL.set rfl rfl (op_loadN (c := 2) pr rfl rfl rfl ?_) | refine AL.set rfl rfl (op_alloc ?_))
    refine AL.eff rfl (op_storeW (sz := 2) (vs := [nt (xs[j]).1, y]) rfl rfl rfl rfl one1 ?_)
    have g5 := Heap.alloc_new H ⟨[nt (xs[j]).1, y], 51, true⟩
    have x5 := q5.ext ⟨[nt (xs[j]).1, y], 51, true⟩
    have w5 := q5.alloc ⟨[nt (xs[j]).1, y], 51, true⟩
    have n5 : H.next ≤ (H.alloc ⟨[nt (xs[j]).1, y], 51, true⟩).next := Nat.le_succ _
    refine AL.heap (h := H.alloc ⟨[nt (xs[j]).1, y], 51, true⟩) rfl ?_
    have n35 := Nat.le_trans q6 n5
    generalize H.next = z at g5 ⊢
    generalize H.alloc ⟨[nt (xs[j]).1, y], 51, true⟩ = H5 at g5 x5 w5 n35 ⊢
    have x35 := q4.trans x5
    have gq5 := x35.c _ _ gq3
    have o5 := q2.ext x5
    have cE := entryRecord_c (s.base + 1 + at_ + j) (xs[j]).1 y (xs[j]).2 H5 (qy.1.ext (x03.trans x35)) (by omega) hx2.1 (by omega)
    have lE := entB_le (s.base + 1 + at_ + j) (xs[j]).1 (xs[j]).2 (by omega) hx2.1 (by omega)
    have hcast : ((s.base + 1 + at_ + j : Nat) : Int) = ((s.base + 1 + at_ : Nat) : Int) + (j : Int) := by omega
    have pE := recB_pos 3 [vnt (s.base + 1 + at_ + j), vnt (xs[j]).1, spelt (xs[j]).2] (by omega) (by
      have l1 := vnt_len10 (s.base + 1 + at_ + j) (by omega)
      have l2 := vnt_len10 (xs[j]).1 (by omega)
      have l3 := vnt_len10 (xs[j]).2.length (by omega)
      have h2 : [vnt (s.base + 1 + at_ + j), vnt (xs[j]).1, spelt (xs[j]).2].flatten.length = (vnt (s.base + 1 + at_ + j)).length + ((vnt (xs[j]).1).length + ((vnt (xs[j]).2.length).length + (xs[j]).2.length)) := by simp [spelt]
      omega)
    generalize recB 3 [vnt (s.base + 1 + at_ + j), vnt (xs[j]).1, spelt (xs[j]).2] = eb at cE lE pE
    rw [hcast] at cE
    repeat (first | refine AL.nil ?_ | refine AWp.region ?_ | refine AL.set rfl rfl (op_moveI rfl ?_) | refine AL.set rfl rfl (op_move (v := u) rfl ?_) | refine AL.set rfl rfl (op_load rfl rfl gq5 rfl ?_) | refine AL.set rfl rfl (op_loadA (sz := 2) rfl rfl g5 (by exact Nat.le_of_ble_eq_true rfl) ?_) | refine AL.set rfl rfl (op_add64 rfl rfl (by omega) ?_))
    refine AL.set rfl rfl (op_call rfl rfl (cE.wf_post.mono ?_))
    rintro u6 H6 ⟨⟨r6, x6⟩, w6, n6⟩
    refine AL.set rfl rfl (op_appendO (by_ := 1) (z := .int .u8 0) (B := H3.next) (e := 5) rfl w6 (by omega) (o5.ext x6) rfl rfl r6.src (bv_length _) (bv_one _) (by rw [bv_length]; simp only [maxLen]; omega) (by rw [bv_length]; omega) ?_)
    intro u7 H7 o7 k7 w7 n7
    rw [← bv_append] at o7
    repeat (first | refine AL.nil ?_ | refine AWp.region ?_ | refine AL.set rfl rfl (op_moveI rfl ?_) | refine AL.set rfl rfl (op_assign (v := u7) rfl ?_) | refine AL.set rfl rfl (op_add64 rfl rfl (by omega) ?_))
    exact ⟨(j + 1, u7, b ++ eb, H7), ⟨hlt, o7, by show (b ++ eb).length ≤ entN (xs.take (j + 1)); rw [List.length_append, hE]; omega, (fun _ => by show 0 < (b ++ eb).length; rw [List.length_append]; omega), k7.ext (o5.ext x6) w3 (Nat.le_refl _) (x35.trans x6), w7, by show H3.next ≤ H7.next; omega⟩, by show xs.length - (j + 1) < xs.length - j; omega, Weak.same (EW.cons rfl (EW.cons rfl (EW.cons rfl (EW.cons rfl (EW.cons rfl (EW.cons rfl (EW.cons rfl EW.nil)))))))⟩
  · have hj : j = xs.length := by omega
    subst hj
    rw [List.take_length] at q3
    have gpH := q4.c _ _ gp3
    repeat (first | refine AL.nil ?_ | refine AWp.seq ?_ | refine AWp.region ?_ | refine AWp.condF rfl ?_ | refine AWp.exit ?_ | refine AL.set rfl rfl (op_intF rfl rfl rfl (by omega) ?_) | refine AL.set rfl rfl (op_load rfl rfl gpH rfl ?_) | refine AL.set rfl rfl (op_move (v := u) rfl ?_) | refine AL.set rfl rfl (op_makeFunc rfl rfl ?_))
    have hgH := x0H.c _ _ hg
    have gqH := q4.c _ _ gq3
    have gwH := q4.c _ _ g3
    have dH := dq_ext d x0H
    have kdH := Kd.ext x0H (Nat.le_trans n03 q6)
    have cc := change_c (f := 31) (fi := #[]) (ca := #[ptr p, ptr q, ptr w]) hgH u b (OS.rs q2) dH nm.a nm.l hk (q3p hx0) (by omega) (by omega) (Q := fun H' => LgD H' g i m room (k + 1) (n + entN xs) name { s with l := s.l.take at_ ++ xs } ∧ Kd h H') (by
      intro H9 fl' c' k9 d9
      have hg9 := k9.get dH.at_ hgH log_ne
      have gp9 := k9.get dH.at_ gpH (by show (22 : TypeId) ≠ 68; decide)
      have gq9 := k9.get dH.at_ gqH (by show (2 : TypeId) ≠ 68; decide)
      have gw9 := k9.get dH.at_ gwH (by show (26 : TypeId) ≠ 68; decide)
      have kd9 := kdH.trans (k9.kd dH.at_)
      show ACalls _ _ [ptr p, ptr q, ptr w] _ _
      refine (put1_c p q w at_ hat v xs (rv.kd kd9) (ex.kd kd9) (by omega) (fun x hx => (hdx x hx).2) gp9 gq9 gw9 hg9 (r.kd kd9) (e.kd kd9) ok).mono ?_
      rintro _ H' ⟨lw, rw', b1, b2, b3, b4⟩
      have hne : i ≠ g := fun e => by subst e; rw [dH.at_.box] at hgH; cases hgH
      refine ⟨⟨⟨lw, rw', b1, b2, b3⟩, ⟨fl', c', at_kg d9.at_ b4 hne, d9.k, by have := d9.n; omega⟩, ?_⟩, kd9.trans (b4.kd hg9 rfl)⟩
      refine ⟨ok.t, ok.v, ok.b, ok.b0, ?_, fun x hx => ?_⟩
      · show (s.l.take at_ ++ xs).length ≤ 1000
        rw [List.length_append, List.length_take]; omega
      · rcases List.mem_append.1 hx with hx | hx
        · exact ok.e x (List.mem_of_mem_take hx)
        · exact hdx x hx)
    refine AL.set rfl rfl (op_call rfl rfl (cc.mono ?_))
    rintro _ H10 ⟨rfl, q10⟩
    repeat (first | refine AL.nil ?_ | refine AWp.ret ?_ | refine AL.set rfl rfl (op_assignI rfl ?_))
    exact ⟨_, ResV.tmp rfl, rfl, q10⟩
end
end Go.Proofs.Ytnioldkmckmajaa
/-
  Logs: what may not be put; cut.
-/
namespace Go.Proofs.Ytnioldkmckmajaa
open Go Go.Eng Go.Pln
attribute [local irreducible] AWp AL DAL AOp TAL
theorem at_le {s : LogM} (ok : s.Ok) (k : Nat) (_h1 : s.base ≤ k) (h2 : k ≤ s.last) : s.at k ≤ 2147483647 := by
  unfold LogM.at
  unfold LogM.last at h2
  split
  · exact ok.b0
  · rename_i hne
    have hlt : k - s.base - 1 < s.l.length := by omega
    rw [List.getD_eq_getElem?_getD, List.getElem?_eq_getElem hlt]
    exact (ok.e _ (List.getElem_mem hlt)).1
section
variable {h : Heap} {g : Nat} {i : Nat} {name : List UInt8} {s : LogM} {lv : Value} {m room k n : Nat}
set_option maxHeartbeats 4000000 in
theorem put_bad (a : LgD h g i m room k n name s) (idx : Nat) (hidx : s.last + 1 < idx ∨ idx ≤ s.base) (hi2 : idx ≤ 2147483647) (v : Value) {rx : List (List Value)} (rv : RNE h v rx) :
    ACalls Try.prog 10 [ptr g, nt idx, v] h fun u h' => u = .int .i64 2 ∧ h' = h := by
  refine ACalls.wf fun wf => ACalls.reset ?_
  obtain ⟨lv, rows, hg, r, e⟩ := a.ex
  refine ACalls.body Try.func10 rfl rfl ?_
  obtain ⟨av, cv, hv⟩ := rv.1.slice
  have hvu : v ≠ undef := by rw [hv]; intro e; cases e
  have hvc : v.cells.toList = [v] := by rw [hv]; rfl
  repeat (first | refine AWp.seq ?_ | refine AWp.region ?_)
  refine AL.set rfl rfl (op_box (v := ptr g) rfl (by intro e; cases e) ?_)
  have g1 := Heap.alloc_new h (lgB g)
  have x1 := wf.ext (lgB g)
  have w1 := wf.alloc (lgB g)
  refine AL.heap (h := h.alloc (lgB g)) rfl ?_
  generalize h.next = p at g1 ⊢
  generalize h.alloc (lgB g) = H1 at g1 x1 w1 ⊢
  refine AL.set rfl rfl (op_box (v := nt idx) rfl (by intro e; cases e) ?_)
  have g2 := Heap.alloc_new H1 ⟨[nt idx], 2, true⟩
  have x2 := w1.ext ⟨[nt idx], 2, true⟩
  have w2 := w1.alloc ⟨[nt idx], 2, true⟩
  refine AL.heap (h := H1.alloc ⟨[nt idx], 2, true⟩) rfl ?_
  generalize H1.next = q at g2 ⊢
  generalize H1.alloc ⟨[nt idx], 2, true⟩ = H2 at g2 x2 w2 ⊢
  refine AL.set rfl rfl (op_box (v := v) rfl hvu ?_)
  rw [hvc]
  have g3 := Heap.alloc_new H2 ⟨[v], 26, true⟩
  have x3 := w2.ext ⟨[v], 26, true⟩
  generalize H2.next = w at g3 ⊢
  generalize H2.alloc ⟨[v], 26, true⟩ = H3 at g3 x3 ⊢
  have x03 := x1.trans (x2.trans x3)
  have hg3 := x03.c _ _ hg
  have gp3 := (x2.trans x3).c _ _ g1
  have gq3 := x3.c _ _ g2
  have ci := fun (h' : Heap) (hx : Ext H3 h') => is_c (hx.c _ _ hg3)
  have cm := fun (h' : Heap) (hx : Ext H3 h') => mayPut_no (hx.c _ _ hg3) (r.ext (x03.trans hx)) (e.ext (x03.trans hx)) a.ok idx v hidx hi2
  have cr := fun (h' : Heap) (hx : Ext H3 h') => ready_c (hx.c _ _ hg3) false
  repeat (first | refine AL.nil ?_ | refine AWp.seq ?_ | refine AL.set rfl rfl (op_assignI rfl ?_))
  refine AWp.drawR mixedT (by kernel_rfl) ?_
  repeat (first | refine DAL.r rfl rfl rfl (fun h' hx hn => op_moveB rfl ⟨rfl, rfl⟩) ?_ | refine DAL.r rfl rfl rfl (fun h' hx hn => op_assignI rfl ⟨rfl, rfl⟩) ?_ | refine DAL.r rfl rfl rfl (fun h' hx hn => op_load rfl rfl (hx.c _ _ gp3) rfl ⟨rfl, rfl⟩) ?_ | refine DAL.r rfl rfl rfl (fun h' hx hn => op_load rfl rfl (hx.c _ _ gq3) rfl ⟨rfl, rfl⟩) ?_ | refine DAL.r rfl rfl rfl (fun h' hx hn => op_load rfl rfl (hx.c _ _ g3) rfl ⟨rfl, rfl⟩) ?_ | refine DAL.r rfl rfl rfl (fun h' hx hn => op_callS rfl rfl (ci h' hx) ⟨rfl, rfl⟩) ?_ | refine DAL.r rfl rfl rfl (fun h' hx hn => op_callS rfl rfl (cm h' hx) ⟨rfl, rfl⟩) ?_ | refine DAL.r rfl rfl rfl (fun h' hx hn => op_callS rfl rfl (cr h' hx) ⟨rfl, rfl⟩) ?_ | refine DAL.r rfl rfl rfl (fun h' hx hn => op_pick (v := .bool _) rfl rfl ⟨rfl, rfl⟩) ?_)
  refine DAL.nil ?_
  repeat (first | refine AL.nil ?_ | refine AWp.seq ?_ | refine AWp.region ?_ | refine AWp.condT rfl ?_ | refine AWp.ret ?_ | refine AL.set rfl rfl (op_moveI rfl ?_) | refine AL.set rfl rfl (op_assignI rfl ?_) | refine AL.set rfl rfl (op_int rfl rfl rfl ?_))
  exact ⟨_, ResV.tmp rfl, rfl, x03, rfl, rfl⟩
set_option maxHeartbeats 8000000 in
theorem cut_ok (a : LgD h g i m room k n name s) (nm : Nm name) (idx : Nat) (h1 : s.base ≤ idx) (h2 : idx ≤ s.last) (hmax : s.last ≤ 2147483647) (hN : entN (s.l.drop (idx - s.base)) ≤ 1000000) (hk : k + 3 < 128) (hn : n + 80 + entN (s.l.drop (idx - s.base)) ≤ room) :
    ACalls Try.prog 11 [ptr g, nt idx] h fun u h' => u = .int .i64 0 ∧ LgD h' g i m room (k + 3) (n + 80 + entN (s.l.drop (idx - s.base))) name { s with base := idx, base0 := s.at idx, l := s.l.drop (idx - s.base) } ∧ Kd h h' := by
  refine ACalls.wf fun wf => ?_
  obtain ⟨lv, rows, hg, r, e⟩ := a.ex
  obtain ⟨fl, c, d⟩ := a.dsk
  refine ACalls.body Try.func11 rfl rfl ?_
  have ok := a.ok
  have k1 := ok.b
  have k2 := ok.n
  have hlt := wf.lt hg
  have hrl := e.len
  have c1 := last_c hg r e.len ok
  have ci := is_c hg
  have cr := ready_c hg true
  have hlast : s.last = s.base + s.l.length := rfl
  repeat (first | refine AL.nil ?_ | refine AWp.seq ?_ | refine AWp.region ?_ | refine AWp.condF rfl ?_ | refine AWp.skip ?_ | refine AL.set rfl rfl (op_moveI rfl ?_) | refine AL.set rfl rfl (op_moveB rfl ?_) | refine AL.set rfl rfl (op_moveP rfl ?_) | refine AL.set rfl rfl (op_assignI rfl ?_) | refine AL.set rfl rfl (op_nilCheck rfl ?_) | refine AL.set rfl rfl (op_fa rfl ?_) | refine AL.set rfl rfl (op_load rfl rfl hg rfl ?_) | refine AL.set rfl rfl (op_callS rfl rfl ci ?_) | refine AL.set rfl rfl (op_callS rfl rfl c1 ?_) | refine AL.set rfl rfl (op_callS rfl rfl cr ?_) | refine AL.set rfl rfl (op_intT rfl rfl rfl (by omega) ?_) | refine AL.set rfl rfl (op_pick (v := .bool _) rfl rfl ?_) | refine AL.set rfl rfl (op_int rfl rfl rfl ?_))
  have ct := fun (h' : Heap) (hx : Ext h h') => termAt_c (hx.c _ _ hg) (r.ext hx) (e.ext hx) ok idx h1 h2
  have hl : ((idx : Int) - (s.base : Int)).toNat = idx - s.base := by omega
  obtain ⟨vw, hvw⟩ : ∃ vw, vw = subN 2 lv ((idx : Int) - (s.base : Int)) (rows.length : Int) := ⟨_, rfl⟩
  have rw0 : RNE h vw (rows.drop (idx - s.base)) := by
    have := r.sub (l := (idx : Int) - (s.base : Int)) (m := (rows.length : Int)) (by omega) (by omega) (by omega)
    rw [hl, Int.toNat_natCast, List.take_length] at this
    rw [hvw]
    exact this
  have ew0 := e.drop (idx - s.base)
  have ov : oneB vw = true := rw0.1.one
  refine AWp.tree (t := OT.seq [(0, .P), (1, .P), (2, .P), (3, .P), (4, .P), (5, .P), (6, .R), (7, .P), (8, .P), (9, .P), (10, .P), (11, .R), (12, .P), (13, .R), (14, .P), (15, .P), (16, .R), (17, .P), (18, .P), (19, .P), (20, .W), (21, .P), (22, .P), (23, .W), (24, .P), (25, .P), (26, .W)] .nil) mixedT (by kernel_rfl) ?_
  repeat (first | refine TAL.r rfl rfl rfl (fun h' hx hn => op_load rfl rfl (hx.c _ _ hg) rfl ⟨rfl, rfl⟩) ?_ | refine TAL.p rfl rfl rfl (fun h' hn => op_moveI rfl ⟨rfl, rfl⟩) ?_ | refine TAL.p rfl rfl rfl (fun h' hn => op_moveP rfl ⟨rfl, rfl⟩) ?_ | refine TAL.p rfl rfl rfl (fun h' hn => op_nilCheck rfl ⟨rfl, rfl⟩) ?_ | refine TAL.p rfl rfl rfl (fun h' hn => op_fa rfl ⟨rfl, rfl⟩) ?_ | refine TAL.p rfl rfl rfl (fun h' hn => op_sub64 rfl rfl (by omega) ⟨rfl, rfl⟩) ?_)
  refine TAL.r rfl rfl rfl (fun h' hx hn => op_sliceN (c := 2) (l := (idx : Int) - (s.base : Int)) (m := (rows.length : Int)) (r.1.ext hx) rfl rfl rfl (by omega) (by omega) (by omega) (by rw [← hvw]; exact ⟨rfl, rfl⟩)) ?_
  repeat (first | refine TAL.r rfl rfl rfl (fun h' hx hn => op_callS rfl rfl (ct h' hx) ⟨rfl, rfl⟩) ?_ | refine TAL.p rfl rfl rfl (fun h' hn => op_moveI rfl ⟨rfl, rfl⟩) ?_ | refine TAL.p rfl rfl rfl (fun h' hn => op_moveP rfl ⟨rfl, rfl⟩) ?_ | refine TAL.p rfl rfl rfl (fun h' hn => op_nilCheck rfl ⟨rfl, rfl⟩) ?_ | refine TAL.p rfl rfl rfl (fun h' hn => op_fa rfl ⟨rfl, rfl⟩) ?_)
  refine TAL.w0 rfl rfl (op_store (b := logB (ptr i) name s lv) rfl rfl ov hg rfl (by exact Nat.le_of_ble_eq_true rfl) ?_)
  have g1 : (h.set g (logB (ptr i) name s vw)).get g = some (logB (ptr i) name s vw) := Heap.set_at _ _ _
  have kg1 : Kg g h (h.set g (logB (ptr i) name s vw)) := Kg.set _ _
  refine TAL.heap (h := h.set g (logB (ptr i) name s vw)) rfl ?_
  generalize h.set g (logB (ptr i) name s vw) = H1 at g1 kg1 ⊢
  repeat (first | refine TAL.p rfl rfl rfl (fun h' hn => op_nilCheck rfl ⟨rfl, rfl⟩) ?_ | refine TAL.p rfl rfl rfl (fun h' hn => op_fa rfl ⟨rfl, rfl⟩) ?_)
  refine TAL.w0 rfl rfl (op_store (b := logB (ptr i) name s vw) rfl rfl rfl g1 rfl (by exact Nat.le_of_ble_eq_true rfl) ?_)
  have g2 : (H1.set g (logB (ptr i) name { s with base0 := s.at idx } vw)).get g = some (logB (ptr i) name { s with base0 := s.at idx } vw) := Heap.set_at _ _ _
  have kg2 : Kg g H1 (H1.set g (logB (ptr i) name { s with base0 := s.at idx } vw)) := Kg.set _ _
  refine TAL.heap (h := H1.set g (logB (ptr i) name { s with base0 := s.at idx } vw)) rfl ?_
  generalize H1.set g (logB (ptr i) name { s with base0 := s.at idx } vw) = H2 at g2 kg2 ⊢
  repeat (first | refine TAL.p rfl rfl rfl (fun h' hn => op_nilCheck rfl ⟨rfl, rfl⟩) ?_ | refine TAL.p rfl rfl rfl (fun h' hn => op_fa rfl ⟨rfl, rfl⟩) ?_)
  refine TAL.w0 rfl rfl (op_store (b := logB (ptr i) name { s with base0 := s.at idx } vw) rfl rfl rfl g2 rfl (by exact Nat.le_of_ble_eq_true rfl) ?_)
  obtain ⟨s', hs'⟩ : ∃ s' : LogM, s' = { s with base := idx, base0 := s.at idx, l := s.l.drop (idx - s.base) } := ⟨_, rfl⟩
  have g3 : (H2.set g (logB (ptr i) name s' vw)).get g = some (logB (ptr i) name s' vw) := Heap.set_at _ _ _
  have kg3 : Kg g H2 (H2.set g (logB (ptr i) name s' vw)) := Kg.set _ _
  refine TAL.heap (h := H2.set g (logB (ptr i) name s' vw)) (by rw [hs']; rfl) ?_
  generalize H2.set g (logB (ptr i) name s' vw) = H3 at g3 kg3 ⊢
  refine TAL.nil ?_
  have kg := kg1.trans (kg2.trans kg3)
  have kd := kg.kd hg rfl
  have hne : i ≠ g := fun e => by subst e; rw [d.at_.box] at hg; cases hg
  have d3 : Dq H3 i m room k n fl c := ⟨at_kg d.at_ kg hne, d.k, d.n⟩
  have hsl : s'.l = s.l.drop (idx - s.base) := by rw [hs']
  have ok' : s'.Ok := by
    rw [hs']
    exact ⟨ok.t, ok.v, (by show idx ≤ 2147483647; omega), at_le ok idx h1 h2, (by show (s.l.drop _).length ≤ 1000; rw [List.length_drop]; omega), fun x hx => ok.e x (List.mem_of_mem_drop hx)⟩
  have e3 : EntR H3 (rows.drop (idx - s.base)) s'.l := by rw [hsl]; exact ew0.kd kd
  have hl3 : s'.last ≤ 2147483647 := by
    rw [hs']
    show idx + (s.l.drop (idx - s.base)).length ≤ 2147483647
    rw [List.length_drop]; omega
  have cn := anew_c g3 (rw0.kd kd) e3 ok' hl3 (by rw [hsl]; exact hN) d3 nm.a nm.b nm.l hk (by rw [hsl]; exact hn)
  repeat (first | refine AWp.seq ?_ | refine AWp.region ?_ | refine AL.set rfl rfl (op_moveP rfl ?_))
  refine AL.set rfl rfl (op_call rfl rfl (cn.mono ?_))
  rintro _ H4 ⟨rfl, fl4, c4, d4, k4⟩
  have kd4 := kd.trans (k4.kd d3.at_)
  have g4 := k4.get d3.at_ g3 log_ne
  repeat (first | refine AL.nil ?_ | refine AWp.ret ?_ | refine AL.set rfl rfl (op_assignI rfl ?_))
  rw [← hs', ← hsl]
  exact ⟨_, ResV.tmp rfl, rfl, ⟨⟨vw, _, g4, rw0.kd kd4, by rw [hsl]; exact ew0.kd kd4⟩, ⟨fl4, c4, d4⟩, ok'⟩, kd4⟩
end
end Go.Proofs.Ytnioldkmckmajaa
/-
  The engine: two results that lie in memory.
-/
namespace Go.Eng
open Go
section
variable {P : Program} {h : Heap}
end
end Go.Eng
/-
  The engine: two results that lie in one cell each.
-/
namespace Go.Eng
open Go
theorem ResV.cellCC {P : Program} {h : Heap} {fn : Func} {env : Env} {a u : Tmp} {t t' : TypeId} {i o j p : Nat} {v w : Value} {s s' : Option Nat} {b b' : Blk} {d d' : TypeDesc} [td : TyD P t d] [td' : TyD P t' d'] (hr : fn.results = #[.cell a t, .cell u t']) (hx : env.get a = .pointer (some ⟨i, o, s⟩)) (ha : aggB d = false)
    (hi : h.get i = some b) (hv : b.cells[o]? = some v) (hy : env.get u = .pointer (some ⟨j, p, s'⟩)) (hb : aggB d' = false) (hj : h.get j = some b') (hw : b'.cells[p]? = some w) : ResV P fn env h (.tuple #[v, w]) := by
  intro N φ tmps wd r
  obtain ⟨_, _, e1⟩ := (hx ▸ r.env a).ptr_inv
  obtain ⟨_, _, e2⟩ := (hy ▸ r.env u).ptr_inv
  obtain ⟨c, hc, hr1⟩ := r.sim.cell hi hv
  obtain ⟨c', hc', hr2⟩ := r.sim.cell hj hw
  refine ⟨.tuple #[c, c'], ?_, .tuple2 hr1 hr2⟩
  simp only [results, hr]
  simp only [List.mapM_toArray, List.mapM_cons, List.mapM_nil, Sem.run_bind, Sem.run_map, Sem.run_pure, e1, e2]
  simp [asAddr, loadVar, td.isAgg, td'.isAgg, ha, hb, hc, hc']
end Go.Eng
/-
  Logs: which prefixes may be; a log that is opened.
-/
namespace Go.Proofs.Ytnioldkmckmajaa
open Go Go.Eng Go.Pln
attribute [local irreducible] AWp AL DAL AOp TAL XWp XL
instance i_may : FnC Try.prog 38 := ⟨Try.f38, Try.func38, by kernel_rfl, by kernel_rfl⟩
instance i_Open : FnC Try.prog 16 := ⟨Try.f16, Try.func16, by kernel_rfl, by kernel_rfl⟩
instance i_Read : FnC Try.prog 32 := ⟨Try.f32, Try.func32, by kernel_rfl, by kernel_rfl⟩
instance i_All1 : FnC Try.prog 63 := ⟨Try.f63, Try.func63, by kernel_rfl, by kernel_rfl⟩
theorem bstr_at (s : List UInt8) (k : Nat) : (bstr s)[((k : Nat) : Int).toNat]? = s[k]? := by
  show (bstr s).data[k]? = _
  simp [bstr]
def mayP (p : List UInt8) : Bool := decide (1 ≤ p.length ∧ p.length ≤ 8) && p.all Dsk.okByte
theorem may_c (p : List UInt8) (h : Heap) (hl : p.length ≤ 1000000) : ACalls Try.prog 38 [.string (bstr p)] h fun u h' => u = .bool (mayP p) ∧ h' = h := by
  refine ACalls.body Try.func38 rfl rfl ?_
  by_cases h1 : 1 ≤ p.length ∧ p.length ≤ 8
  · have hm : mayP p = p.all Dsk.okByte := by unfold mayP; rw [decide_eq_true h1]; rfl
    repeat (first | refine AL.nil ?_ | refine AWp.seq ?_ | refine AWp.region ?_ | refine AWp.condF rfl ?_ | refine AWp.block ?_ | refine AWp.skip ?_ | refine AL.set rfl rfl (op_moveI rfl ?_) | refine AL.set rfl rfl (op_moveB rfl ?_) | refine AL.set rfl rfl (op_moveStr rfl ?_) | refine AL.set rfl rfl (op_assignB rfl ?_) | refine AL.set rfl rfl (op_lenSB rfl ?_) | refine AL.set rfl rfl (op_intF rfl rfl rfl (by omega) ?_) | refine AL.set rfl rfl (op_pick (v := .bool _) rfl rfl ?_))
    refine AWp.loop (α := Nat) (fun k => [(0, .string (bstr p)), (13, .int .i64 (p.length : Nat)), (14, nt k)]) (fun _ => h) (fun k => k ≤ p.length ∧ (p.take k).all Dsk.okByte = true) (fun k => p.length - k) 0 ⟨Nat.zero_le _, by simp⟩ (Weak.same (EW.cons rfl (EW.cons rfl (EW.cons rfl EW.nil)))) ?_
    rintro k ⟨hk, ha⟩
    by_cases hlt : k < p.length
    · obtain ⟨b, hb⟩ : ∃ b, p[k]? = some b := ⟨_, List.getElem?_eq_getElem hlt⟩
      have hb2 : (bstr p)[((k : Nat) : Int).toNat]? = some b := (bstr_at p k).trans hb
      by_cases hk2 : Dsk.okByte b = true
      · have hk3 : 33 ≤ b.toNat ∧ b.toNat ≤ 126 := of_decide_eq_true hk2
        repeat (first | refine AL.nil ?_ | refine AWp.seq ?_ | refine AWp.region ?_ | refine AWp.condT rfl ?_ | refine AWp.condF rfl ?_ | refine AWp.block ?_ | refine AWp.skip ?_ | refine AL.set rfl rfl (op_moveI rfl ?_) | refine AL.set rfl rfl (op_moveB rfl ?_) | refine AL.set rfl rfl (op_moveStr rfl ?_) | refine AL.set rfl rfl (op_assignI rfl ?_) | refine AL.set rfl rfl (op_intT rfl rfl rfl (by omega) ?_) | refine AL.set rfl rfl (op_intF rfl rfl rfl (by omega) ?_) | refine AL.set rfl rfl (op_indexStr rfl rfl (by omega) hb2 ?_) | refine AL.set rfl rfl (op_pick (v := .bool _) rfl rfl ?_) | refine AL.set rfl rfl (op_add64 rfl rfl (by omega) ?_))
        refine ⟨k + 1, ⟨hlt, ?_⟩, by omega, Weak.same (EW.cons rfl (EW.cons rfl (EW.cons rfl EW.nil)))⟩
        exact Dk.okByte_take ha hb hk2
      · have hk3 : ¬ (33 ≤ b.toNat ∧ b.toNat ≤ 126) := fun e => hk2 (decide_eq_true e)
        have hall : mayP p = false := by rw [hm]; exact Dk.all_not hb (by simpa using hk2)
        by_cases h33 : b.toNat < 33
        · repeat (first | refine AL.nil ?_ | refine AL.skip rfl rfl ?_ | refine AWp.seq ?_ | refine AWp.region ?_ | refine AWp.condT rfl ?_ | refine AWp.ret ?_ | refine AWp.block ?_ | refine AWp.skip ?_ | refine AL.set rfl rfl (op_moveI rfl ?_) | refine AL.set rfl rfl (op_moveB rfl ?_) | refine AL.set rfl rfl (op_moveStr rfl ?_) | refine AL.set rfl rfl (op_assignI rfl ?_) | refine AL.set rfl rfl (op_assignB rfl ?_) | refine AL.set rfl rfl (op_intT rfl rfl rfl (by omega) ?_) | refine AL.set rfl rfl (op_indexStr rfl rfl (by omega) hb2 ?_) | refine AL.set rfl rfl (op_pick (v := .bool _) rfl rfl ?_))
          exact ⟨_, ResV.tmp rfl, by rw [hall]; rfl, rfl⟩
        · repeat (first | refine AL.nil ?_ | refine AWp.seq ?_ | refine AWp.region ?_ | refine AWp.condT rfl ?_ | refine AWp.ret ?_ | refine AWp.block ?_ | refine AWp.skip ?_ | refine AL.set rfl rfl (op_moveI rfl ?_) | refine AL.set rfl rfl (op_moveB rfl ?_) | refine AL.set rfl rfl (op_moveStr rfl ?_) | refine AL.set rfl rfl (op_assignI rfl ?_) | refine AL.set rfl rfl (op_assignB rfl ?_) | refine AL.set rfl rfl (op_intT rfl rfl rfl (by omega) ?_) | refine AL.set rfl rfl (op_intF rfl rfl rfl (by omega) ?_) | refine AL.set rfl rfl (op_indexStr rfl rfl (by omega) hb2 ?_) | refine AL.set rfl rfl (op_pick (v := .bool _) rfl rfl ?_))
          exact ⟨_, ResV.tmp rfl, by rw [hall]; rfl, rfl⟩
    · have hk2 : k = p.length := by omega
      subst hk2
      rw [List.take_length] at ha
      repeat (first | refine AL.nil ?_ | refine AWp.seq ?_ | refine AWp.region ?_ | refine AWp.condF rfl ?_ | refine AWp.ret ?_ | refine AWp.exit ?_ | refine AL.set rfl rfl (op_assignB rfl ?_) | refine AL.set rfl rfl (op_intF rfl rfl rfl (by omega) ?_))
      exact ⟨_, ResV.tmp rfl, by rw [hm, ha]; rfl, rfl⟩
  · have hm : mayP p = false := by unfold mayP; rw [decide_eq_false h1]; rfl
    by_cases h2 : p.length < 1
    · repeat (first | refine AL.nil ?_ | refine AL.skip rfl rfl ?_ | refine AWp.seq ?_ | refine AWp.region ?_ | refine AWp.condT rfl ?_ | refine AWp.ret ?_ | refine AL.set rfl rfl (op_moveB rfl ?_) | refine AL.set rfl rfl (op_moveStr rfl ?_) | refine AL.set rfl rfl (op_assignB rfl ?_) | refine AL.set rfl rfl (op_lenSB rfl ?_) | refine AL.set rfl rfl (op_intT rfl rfl rfl (by omega) ?_) | refine AL.set rfl rfl (op_pick (v := .bool _) rfl rfl ?_))
      exact ⟨_, ResV.tmp rfl, by rw [hm]; rfl, rfl⟩
    · repeat (first | refine AL.nil ?_ | refine AWp.seq ?_ | refine AWp.region ?_ | refine AWp.condT rfl ?_ | refine AWp.ret ?_ | refine AL.set rfl rfl (op_moveB rfl ?_) | refine AL.set rfl rfl (op_moveStr rfl ?_) | refine AL.set rfl rfl (op_assignB rfl ?_) | refine AL.set rfl rfl (op_lenSB rfl ?_) | refine AL.set rfl rfl (op_intT rfl rfl rfl (by omega) ?_) | refine AL.set rfl rfl (op_intF rfl rfl rfl (by omega) ?_) | refine AL.set rfl rfl (op_pick (v := .bool _) rfl rfl ?_))
      exact ⟨_, ResV.tmp rfl, by rw [hm]; rfl, rfl⟩
abbrev raftB : List UInt8 := [114, 97, 102, 116]
abbrev zeroM : LogM := ⟨0, 0, 0, 0, []⟩
abbrev cP (v : Value) : Blk := ⟨[v], 22, true⟩
abbrev cE (e : Int) : Blk := ⟨[.int .i64 e], 36, true⟩
theorem room_nil (h : Heap) : ACalls Try.prog 37 [.pointer none] h fun u h' => u = .int .i64 0 ∧ h' = h := by
  refine ACalls.body Try.func37 rfl rfl ?_
  repeat (first | refine AL.nil ?_ | refine AWp.seq ?_ | refine AWp.region ?_ | refine AWp.condT rfl ?_ | refine AWp.ret ?_ | refine AL.set rfl rfl (op_moveP rfl ?_) | refine AL.set rfl rfl (op_assignI rfl ?_) | refine AL.set rfl rfl (op_callS rfl rfl (Dk.on_nil h) ?_) | refine AL.set rfl rfl (op_not rfl ?_))
  exact ⟨_, ResV.tmp rfl, rfl, rfl⟩
set_option maxHeartbeats 8000000 in
theorem open_bad (ad : Option Addr) (p : List UInt8) (h : Heap) (hl : p.length ≤ 1000) (r : Int) (hc : ∀ h', Ext h h' → ACalls Try.prog 37 [.pointer ad] h' fun u h'' => u = .int .i64 r ∧ h'' = h') (hr : r = 0 ∨ mayP p = false) :
    ACalls Try.prog 16 [.pointer ad, .string (bstr p)] h fun u h' => u = .tuple #[.pointer none, .int .i64 2] ∧ Ext h h' := by
  refine ACalls.wf fun wf => ?_
  refine ACalls.bodyX Try.func16 rfl (Nat.le_of_ble_eq_true rfl) fun bb => ?_
  repeat (first | refine XL.nil ?_ | refine XWp.seq ?_ | refine XWp.region ?_ | refine XL.set rfl rfl rfl (op_moveP rfl ?_) | refine XL.set rfl rfl rfl (op_alloc (z := .pointer none) ?_) | refine XL.set rfl rfl rfl (op_alloc (z := .int .i64 0) ?_))
  have w1 := wf.alloc (cP (.pointer none))
  have x1 := wf.ext (cP (.pointer none))
  have x2 := w1.ext (cE 0)
  have w2 := w1.alloc (cE 0)
  have g1 : ((h.alloc (cP (.pointer none))).alloc (cE 0)).get h.next = some (cP (.pointer none)) := Heap.new1 _ _ _
  have g2 : ((h.alloc (cP (.pointer none))).alloc (cE 0)).get (h.next + 1) = some (cE 0) := Heap.alloc_new (h.alloc (cP (.pointer none))) _
  have x02 := x1.trans x2
  have hne : h.next ≠ h.next + 1 := by omega
  refine XL.heap (h := (h.alloc (cP (.pointer none))).alloc (cE 0)) rfl ?_
  generalize (h.alloc (cP (.pointer none))).alloc (cE 0) = H2 at g1 g2 x02 w2 ⊢
  have cr := hc H2 x02
  have cm := may_c p H2 (by omega)
  by_cases h0 : r = 0
  · subst h0
    repeat (first | refine XL.nil ?_ | refine XL.skip rfl rfl ?_ | refine XWp.seq ?_ | refine XWp.region ?_ | refine XWp.condT rfl ?_ | refine XL.set rfl rfl rfl (op_moveB rfl ?_) | refine XL.set rfl rfl rfl (op_callS rfl rfl cr ?_) | refine XL.set rfl rfl rfl (op_intT rfl rfl rfl (by omega) ?_) | refine XL.set rfl rfl rfl (op_pick (v := .bool _) rfl rfl ?_))
    refine XL.eff rfl rfl (op_store (v := .pointer none) rfl rfl rfl g1 rfl (by exact Nat.le_of_ble_eq_true rfl) ?_)
    refine XL.heap (h := H2.set h.next (cP (.pointer none))) rfl ?_
    have g3 : (H2.set h.next (cP (.pointer none))).get h.next = some (cP (.pointer none)) := Heap.set_at _ _ _
    have g4 : (H2.set h.next (cP (.pointer none))).get (h.next + 1) = some (cE 0) := by rw [Heap.set_other (by omega)]; exact g2
    have x3 : Ext h (H2.set h.next (cP (.pointer none))) := wf.ext_set x02 (Nat.le_refl _) _
    generalize H2.set h.next (cP (.pointer none)) = H3 at g3 g4 x3 ⊢
    refine XL.eff rfl rfl (op_store (v := .int .i64 2) rfl rfl rfl g4 rfl (by exact Nat.le_of_ble_eq_true rfl) ?_)
    refine XL.heap (h := H3.set (h.next + 1) (cE 2)) rfl ?_
    have g5 : (H3.set (h.next + 1) (cE 2)).get (h.next + 1) = some (cE 2) := Heap.set_at _ _ _
    have g6 : (H3.set (h.next + 1) (cE 2)).get h.next = some (cP (.pointer none)) := by rw [Heap.set_other hne]; exact g3
    have x4 : Ext h (H3.set (h.next + 1) (cE 2)) := wf.ext_set x3 (by omega) _
    repeat (first | refine XL.nil ?_ | refine XWp.ret ?_)
    exact ⟨_, ResV.cellCC rfl rfl rfl g6 rfl rfl rfl g5 rfl, rfl, x4⟩
  · have hm := hr.resolve_left h0
    rw [hm] at cm
    repeat (first | refine XL.nil ?_ | refine XWp.seq ?_ | refine XWp.region ?_ | refine XWp.condT rfl ?_ | refine XL.set rfl rfl rfl (op_moveB rfl ?_) | refine XL.set rfl rfl rfl (op_moveStr rfl ?_) | refine XL.set rfl rfl rfl (op_callS rfl rfl cr ?_) | refine XL.set rfl rfl rfl (op_callS rfl rfl cm ?_) | refine XL.set rfl rfl rfl (op_intF rfl rfl rfl (by omega) ?_) | refine XL.set rfl rfl rfl (op_pick (v := .bool _) rfl rfl ?_) | refine XL.set rfl rfl rfl (op_not rfl ?_))
    refine XL.eff rfl rfl (op_store (v := .pointer none) rfl rfl rfl g1 rfl (by exact Nat.le_of_ble_eq_true rfl) ?_)
    refine XL.heap (h := H2.set h.next (cP (.pointer none))) rfl ?_
    have g3 : (H2.set h.next (cP (.pointer none))).get h.next = some (cP (.pointer none)) := Heap.set_at _ _ _
    have g4 : (H2.set h.next (cP (.pointer none))).get (h.next + 1) = some (cE 0) := by rw [Heap.set_other (by omega)]; exact g2
    have x3 : Ext h (H2.set h.next (cP (.pointer none))) := wf.ext_set x02 (Nat.le_refl _) _
    generalize H2.set h.next (cP (.pointer none)) = H3 at g3 g4 x3 ⊢
    refine XL.eff rfl rfl (op_store (v := .int .i64 2) rfl rfl rfl g4 rfl (by exact Nat.le_of_ble_eq_true rfl) ?_)
    refine XL.heap (h := H3.set (h.next + 1) (cE 2)) rfl ?_
    have g5 : (H3.set (h.next + 1) (cE 2)).get (h.next + 1) = some (cE 2) := Heap.set_at _ _ _
    have g6 : (H3.set (h.next + 1) (cE 2)).get h.next = some (cP (.pointer none)) := by rw [Heap.set_other hne]; exact g3
    have x4 : Ext h (H3.set (h.next + 1) (cE 2)) := wf.ext_set x3 (by omega) _
    repeat (first | refine XL.nil ?_ | refine XWp.ret ?_)
    exact ⟨_, ResV.cellCC rfl rfl rfl g6 rfl rfl rfl g5 rfl, rfl, x4⟩
end Go.Proofs.Ytnioldkmckmajaa
/-
  Logs: a log that is opened where there is no file.
-/
namespace Go.Proofs.Ytnioldkmckmajaa
open Go Go.Eng Go.Pln
attribute [local irreducible] AWp AL DAL AOp TAL XWp XL
theorem first_nil (k : Nat) : Frm.first (([] : List UInt8).drop k) = none := by
  cases hf : Frm.first (([] : List UInt8).drop k) with
  | none => rfl
  | some n => have := Frm.first_room hf; simp at this
theorem fr_nil : Frm.fr [] 0 = [] := Frm.fr_none (first_nil 0)
theorem endW_nil : Frm.endW [] = 0 := by unfold Frm.endW; rw [fr_nil]; rfl
theorem odd_nil : Frm.odd [] = false := by unfold Frm.odd; rw [endW_nil]; rfl
set_option maxHeartbeats 8000000 in
theorem open_new {i m room k n : Nat} {fl : Dsk.FL} {c : Nat} (p : List UInt8) (h : Heap) (d : Dq h i m room k n fl c) (hm : mayP p = true) (hr : 1 ≤ room) (hno : hasS fl (p ++ raftB) = false) :
    ACalls Try.prog 16 [ptr i, .string (bstr p)] h fun u h' => ∃ g, u = .tuple #[ptr g, .int .i64 0] ∧ LgD h' g i m room k n (p ++ raftB) zeroM ∧ Ext h h' := by
  refine ACalls.wf fun wf => ?_
  refine ACalls.bodyX Try.func16 rfl (Nat.le_of_ble_eq_true rfl) fun bb => ?_
  have hp8 : 1 ≤ p.length ∧ p.length ≤ 8 := by
    unfold mayP at hm
    rw [Bool.and_eq_true] at hm
    exact of_decide_eq_true hm.1
  have hl : (p ++ raftB).length ≤ 20 := by rw [List.length_append]; show p.length + 4 ≤ 20; omega
  repeat (first | refine XL.nil ?_ | refine XWp.seq ?_ | refine XWp.region ?_ | refine XL.set rfl rfl rfl (op_moveP rfl ?_) | refine XL.set rfl rfl rfl (op_alloc (z := .pointer none) ?_) | refine XL.set rfl rfl rfl (op_alloc (z := .int .i64 0) ?_))
  have w1 := wf.alloc (cP (.pointer none))
  have x1 := wf.ext (cP (.pointer none))
  have x2 := w1.ext (cE 0)
  have w2 := w1.alloc (cE 0)
  have g1 : ((h.alloc (cP (.pointer none))).alloc (cE 0)).get h.next = some (cP (.pointer none)) := Heap.new1 _ _ _
  have g2 : ((h.alloc (cP (.pointer none))).alloc (cE 0)).get (h.next + 1) = some (cE 0) := Heap.alloc_new (h.alloc (cP (.pointer none))) _
  have n2 : ((h.alloc (cP (.pointer none))).alloc (cE 0)).next = h.next + 2 := rfl
  have x02 := x1.trans x2
  refine XL.heap (h := (h.alloc (cP (.pointer none))).alloc (cE 0)) rfl ?_
  generalize (h.alloc (cP (.pointer none))).alloc (cE 0) = H2 at g1 g2 x02 w2 n2 ⊢
  have cr := Dk.room_c i m room fl c H2 (at_ext d.at_ x02)
  have cm := may_c p H2 (by omega)
  rw [hm] at cm
  repeat (first | refine XL.nil ?_ | refine XWp.seq ?_ | refine XWp.region ?_ | refine XWp.condF rfl ?_ | refine XWp.skip ?_ | refine XL.set rfl rfl rfl (op_moveB rfl ?_) | refine XL.set rfl rfl rfl (op_moveP rfl ?_) | refine XL.set rfl rfl rfl (op_moveStr rfl ?_) | refine XL.set rfl rfl rfl (op_callS rfl rfl cr ?_) | refine XL.set rfl rfl rfl (op_callS rfl rfl cm ?_) | refine XL.set rfl rfl rfl (op_intF rfl rfl rfl (by omega) ?_) | refine XL.set rfl rfl rfl (op_pick (v := .bool _) rfl rfl ?_) | refine XL.set rfl rfl rfl (op_sCat (a := p) (b := raftB) rfl rfl (by simp only [maxLen, List.length_cons, List.length_nil]; omega) ?_) | refine XL.set rfl rfl rfl (op_not rfl ?_))
  obtain ⟨name, hname⟩ : ∃ name, name = p ++ raftB := ⟨_, rfl⟩
  rw [← hname] at hl hno ⊢
  refine XL.set rfl rfl rfl (op_buildS (out := logC (ptr i) name zeroM (.slice none 0 0)) rfl rfl ?_)
  refine XL.set rfl rfl rfl (op_box (v := .agg (logC (ptr i) name zeroM (.slice none 0 0)).toArray) rfl (by intro e; cases e) ?_)
  have g3 := Heap.alloc_new H2 (logB (ptr i) name zeroM (.slice none 0 0))
  have x3 := w2.ext (logB (ptr i) name zeroM (.slice none 0 0))
  have w3 := w2.alloc (logB (ptr i) name zeroM (.slice none 0 0))
  have n3 : (H2.alloc (logB (ptr i) name zeroM (.slice none 0 0))).next = H2.next + 1 := rfl
  refine XL.heap (h := H2.alloc (logB (ptr i) name zeroM (.slice none 0 0))) rfl ?_
  generalize hgn : H2.next = g at g3 n2 n3 ⊢
  generalize H2.alloc (logB (ptr i) name zeroM (.slice none 0 0)) = H3 at g3 x3 w3 n3 ⊢
  repeat (first | refine XL.set rfl rfl rfl (op_alloc (z := .pointer none) ?_))
  refine XL.eff rfl rfl (op_store (v := ptr g) rfl rfl rfl (Heap.alloc_new _ _) rfl (by exact Nat.le_of_ble_eq_true rfl) ?_)
  refine XL.heap (Heap.set_alloc _ _ _) ?_
  refine XL.heap (h := H3.alloc (lgB g)) rfl ?_
  have g4 := Heap.alloc_new H3 (lgB g)
  have x4 := w3.ext (lgB g)
  have w4 := w3.alloc (lgB g)
  have n4 : (H3.alloc (lgB g)).next = H3.next + 1 := rfl
  generalize hqn : H3.next = q at g4 n3 n4 ⊢
  generalize H3.alloc (lgB g) = H4 at g4 x4 w4 n4 ⊢
  have x04 := x02.trans (x3.trans x4)
  have gg4 := x4.c _ _ g3
  repeat (first | refine XL.nil ?_ | refine XWp.seq ?_ | refine XWp.region ?_ | refine XL.set rfl rfl rfl (op_moveP rfl ?_) | refine XL.set rfl rfl rfl (op_load rfl rfl g4 rfl ?_) | refine XL.set rfl rfl rfl (op_nilCheck rfl ?_) | refine XL.set rfl rfl rfl (op_fa rfl ?_) | refine XL.set rfl rfl rfl (op_load rfl rfl gg4 rfl ?_))
  refine XL.set rfl rfl rfl (op_call rfl rfl ((Dk.read_c i m room fl c name H4 (at_ext d.at_ x04) (by omega)).wf_post.mono ?_))
  rintro _ H5 ⟨⟨w, rfl, ow, x5⟩, w5, n5⟩
  have hne : Dsk.openE fl name [] ≠ 0 := by
    unfold Dsk.openE
    rw [hno]
    simp
    split <;> simp
  have hf : Dsk.allF (Dk.openF fl name []) = [] := by unfold Dk.openF; rw [if_neg hne]; rfl
  rw [hf] at ow
  have rb := OS.rs ow
  obtain ⟨aw, cw, hw⟩ := rb.slice
  have co := Fr.odd_c w [] H5 rb (by simp)
  rw [odd_nil] at co
  generalize Dsk.openE fl name [] = oe
  repeat (first | refine XL.nil ?_ | refine XWp.seq ?_ | refine XWp.region ?_ | refine XWp.condF rfl ?_ | refine XWp.skip ?_ | refine XL.set rfl rfl rfl (op_moveT rfl ?_) | refine XL.set rfl rfl rfl (op_assignI rfl ?_) | refine XL.set rfl rfl rfl (op_extract rfl rfl ?_) | refine XL.set rfl rfl rfl (op_assign (v := w) rfl ?_) | refine XL.set rfl rfl rfl (op_move (v := w) rfl ?_) | refine XL.set rfl rfl rfl (op_callS rfl rfl co ?_))
  refine XL.set rfl rfl rfl (op_call rfl rfl ((Fr.allF_c w [] H5 rb).wf_post.mono ?_))
  rintro _ H6 ⟨⟨rfl, x6, hbox⟩, w6, n6⟩
  generalize hzn : H5.next = z at hbox ⊢
  have rb6 : RB H6 w [] := RB.ext rb x6
  repeat (first | refine XL.nil ?_ | refine XWp.block ?_)
  refine XWp.rangeFunc (ι := Fr.FI) (fi := []) (ca := [.pointer (some ⟨z, 0, none⟩)]) (Fr.PreF [] fun _ H => Ext H6 H ∧ H6.next ≤ H.next) (Fr.TF [] fun _ H => Ext H6 H ∧ H6.next ≤ H.next) (fun _ _ _ => False) (fun H => Ext H6 H ∧ H6.next ≤ H.next) (fun _ _ => False)
    rfl (fun k e => e) (fun _ _ l => l) rfl ?_ ?_ ?_ ?_ ?_
  · rintro i H args ⟨pv, rfl, _⟩; rfl
  · intro C1 l hq ys
    exact Fr.all1_x C1 hq l z w [] H6 (by simp) (fun _ H => Ext H6 H ∧ H6.next ≤ H.next) _ (fun i H hY => ⟨hY.1.c _ _ hbox, RB.ext rb6 hY.1⟩) (fun i H H' hY hx hn => ⟨hY.1.trans hx, Nat.le_trans hY.2 hn⟩) ys ⟨Ext.refl _, Nat.le_refl _⟩
  · rintro Ca Cb l ⟨done, k, n⟩ H args ⟨pv, rfl, hc, hf, hpv, hY⟩
    replace hf : Frm.first (([] : List UInt8).drop k) = some n := hf
    rw [first_nil] at hf
    cases hf
  · rintro H7 _ ⟨x7, n7⟩
    refine XWp.wf fun w7 => ?_
    have rb7 : RB H7 w [] := RB.ext rb6 x7
    have cwh := Fr.whole_c w [] H7 rb7 (by simp)
    rw [fr_nil, endW_nil] at cwh
    have x27 := x3.trans (x4.trans (x5.trans (x6.trans x7)))
    have g17 := x27.c _ _ g1
    have g27 := x27.c _ _ g2
    have gg7 := (x5.trans (x6.trans x7)).c _ _ gg4
    have gq7 := (x5.trans (x6.trans x7)).c _ _ g4
    have x07 := x02.trans x27
    repeat (first | refine XL.nil ?_ | refine XWp.seq ?_ | refine XWp.region ?_ | refine XWp.condF rfl ?_ | refine XWp.skip ?_ | refine XL.set rfl rfl rfl (op_moveI rfl ?_) | refine XL.set rfl rfl rfl (op_moveT rfl ?_) | refine XL.set rfl rfl rfl (op_assignI rfl ?_) | refine XL.set rfl rfl rfl (op_move (v := w) rfl ?_) | refine XL.set rfl rfl rfl (op_callS rfl rfl cwh ?_) | refine XL.set rfl rfl rfl (op_extract rfl rfl ?_) | refine XL.set rfl rfl rfl (op_lenRB rb7 rfl ?_) | refine XL.set rfl rfl rfl (op_load rfl rfl gq7 rfl ?_) | refine XL.set rfl rfl rfl (op_int rfl rfl rfl ?_))
    refine XL.eff rfl rfl (op_store (v := ptr g) rfl rfl rfl g17 rfl (by exact Nat.le_of_ble_eq_true rfl) ?_)
    refine XL.heap (h := H7.set h.next (cP (ptr g))) rfl ?_
    have g18 : (H7.set h.next (cP (ptr g))).get h.next = some (cP (ptr g)) := Heap.set_at _ _ _
    have g28 : (H7.set h.next (cP (ptr g))).get (h.next + 1) = some (cE 0) := by rw [Heap.set_other (by omega)]; exact g27
    have gg8 : (H7.set h.next (cP (ptr g))).get g = some (logB (ptr i) name zeroM (.slice none 0 0)) := by rw [Heap.set_other (by omega)]; exact gg7
    have x08 : Ext h (H7.set h.next (cP (ptr g))) := wf.ext_set x07 (Nat.le_refl _) _
    generalize H7.set h.next (cP (ptr g)) = H8 at g18 g28 gg8 x08 ⊢
    refine XL.eff rfl rfl (op_store (v := .int .i64 0) rfl rfl rfl g28 rfl (by exact Nat.le_of_ble_eq_true rfl) ?_)
    refine XL.heap (h := H8.set (h.next + 1) (cE 0)) rfl ?_
    have g29 : (H8.set (h.next + 1) (cE 0)).get (h.next + 1) = some (cE 0) := Heap.set_at _ _ _
    have g19 : (H8.set (h.next + 1) (cE 0)).get h.next = some (cP (ptr g)) := by rw [Heap.set_other (by omega)]; exact g18
    have gg9 : (H8.set (h.next + 1) (cE 0)).get g = some (logB (ptr i) name zeroM (.slice none 0 0)) := by rw [Heap.set_other (by omega)]; exact gg8
    have x09 : Ext h (H8.set (h.next + 1) (cE 0)) := wf.ext_set x08 (by omega) _
    repeat (first | refine XL.nil ?_ | refine XWp.ret ?_)
    exact ⟨_, ResV.cellCC rfl rfl rfl g19 rfl rfl rfl g29 rfl, g, rfl, ⟨⟨_, [], gg9, RNE.nil _, EntR.nil _⟩, ⟨fl, c, dq_ext d x09⟩, ⟨by decide, by decide, by decide, by decide, by decide, fun x hx => by cases hx⟩⟩, x09⟩
  · intro h' j _ e; exact e.elim
end Go.Proofs.Ytnioldkmckmajaa
