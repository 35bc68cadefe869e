/-
  Texts of one claim, merged: 4 parts.
-/
import Derived.Test.YtnioldkmckmajaaMns
import Derived.Test.YtnioldkmckmajaaMnr
set_option maxHeartbeats 16000000
/-
  Logs: what the disk is asked; the file written anew; records appended.
-/
namespace Go.Proofs.Ytnioldkmckmajaa
open Go Go.Eng Go.Pln
attribute [local irreducible] AWp AL DAL AOp TAL
instance i_asked : FnC Try.prog 33 := ⟨Try.f33, Try.func33, by kernel_rfl, by kernel_rfl⟩
instance i_anew : FnC Try.prog 29 := ⟨Try.f29, Try.func29, by kernel_rfl, by kernel_rfl⟩
instance i_anew1 : FnC Try.prog 51 := ⟨Try.f51, Try.func51, by kernel_rfl, by kernel_rfl⟩
instance i_anew2 : FnC Try.prog 52 := ⟨Try.f52, Try.func52, by kernel_rfl, by kernel_rfl⟩
instance i_anew3 : FnC Try.prog 53 := ⟨Try.f53, Try.func53, by kernel_rfl, by kernel_rfl⟩
instance i_change : FnC Try.prog 24 := ⟨Try.f24, Try.func24, by kernel_rfl, by kernel_rfl⟩
instance i_change1 : FnC Try.prog 45 := ⟨Try.f45, Try.func45, by kernel_rfl, by kernel_rfl⟩
theorem Ki.get {h h' : Heap} {i m room : Nat} {l : Dsk.FL} {c : Nat} (x : Ki i h h') (d : Dk.At h i m room l c) {j : Nat} {b : Blk} (hj : h.get j = some b) (he : b.elem ≠ 68) : h'.get j = some b :=
  x.c j b hj fun e => by subst e; rw [d.box] at hj; cases hj; exact he rfl
theorem Ki.refl (i : Nat) (h : Heap) : Ki i h h := ⟨fun _ _ a _ => a, Nat.le_refl _⟩
theorem dq_ext {h h' : Heap} {i m room k n : Nat} {fl : Dsk.FL} {c : Nat} (d : Dq h i m room k n fl c) (x : Ext h h') : Dq h' i m room k n fl c := ⟨at_ext d.at_ x, d.k, d.n⟩
theorem dq_low {h : Heap} {i m room k k' n n' : Nat} {fl : Dsk.FL} {c : Nat} (d : Dq h i m room k n fl c) (hk : k ≤ k') (hn : n ≤ n') : Dq h i m room k' n' fl c := ⟨d.at_, Nat.le_trans d.k hk, Nat.le_trans d.n hn⟩
theorem asked_c (g r : Nat) (fs : List Value) (Inv : Nat → Heap → Prop) (hr : ∀ k H, Inv k H → H.get r = some ⟨fs, 41, true⟩)
    (hc : ∀ k, k < fs.length → ∃ f fi ca, fs[k]? = some (.func (.func f) fi ca) ∧ FnC Try.prog f ∧ ∀ H, Inv k H → ACalls Try.prog f (fi.toList ++ ca.toList) H fun u H' => u = .int .i64 0 ∧ Inv (k + 1) H') (h : Heap) (h0 : Inv 0 h) (hn : fs.length ≤ 10) :
    ACalls Try.prog 33 [ptr g, .slice (some ⟨r, 0, some 1⟩) fs.length fs.length] h fun u h' => u = .int .i64 0 ∧ Inv fs.length h' := by
  refine ACalls.body Try.func33 rfl rfl ?_
  repeat (first | refine AL.nil ?_ | refine AWp.seq ?_ | refine AWp.region ?_ | refine AWp.block ?_ | refine AL.set rfl rfl (op_moveI rfl ?_) | refine AL.set rfl rfl (op_moveS rfl ?_) | refine AL.set rfl rfl (op_assignI rfl ?_) | refine AL.set rfl rfl (op_lenS rfl ?_))
  refine AWp.loop (α := Nat × Heap) (fun z => [(0, ptr g), (7, .slice (some ⟨r, 0, some 1⟩) fs.length fs.length), (8, .int .i64 (fs.length : Nat)), (9, nt z.1)]) (fun z => z.2) (fun z => z.1 ≤ fs.length ∧ Inv z.1 z.2) (fun z => fs.length - z.1) (0, h) ⟨Nat.zero_le _, h0⟩ (Weak.same (EW.cons rfl (EW.cons rfl (EW.cons rfl (EW.cons rfl EW.nil))))) ?_
  rintro ⟨k, H⟩ ⟨q1, q2⟩
  replace q1 : k ≤ fs.length := q1
  replace q2 : Inv k H := q2
  show AWp _ _ _ _ [(0, ptr g), (7, .slice (some ⟨r, 0, some 1⟩) fs.length fs.length), (8, .int .i64 (fs.length : Nat)), (9, nt k)] H
  by_cases hlt : k < fs.length
  · obtain ⟨f, fi, ca, e1, e2, e3⟩ := hc k hlt
    have rs : RS H (.slice (some ⟨r, 0, some 1⟩) fs.length fs.length) fs := RS.own (hr k H q2) rfl
    have e4 : fs[((k : Nat) : Int).toNat]? = some (.func (.func f) fi ca) := by simpa using e1
    repeat (first | refine AL.nil ?_ | refine AWp.seq ?_ | refine AWp.region ?_ | refine AWp.condT rfl ?_ | refine AWp.block ?_ | refine AWp.skip ?_ | refine AL.set rfl rfl (op_intT rfl rfl rfl (by omega) ?_))
    refine AL.set rfl rfl (op_indexR rs rfl rfl (by omega) e4 ?_)
    intro q hq
    repeat (first | refine AL.nil ?_ | refine AWp.seq ?_ | refine AWp.region ?_ | refine AL.set rfl rfl (op_moveF rfl ?_) | refine AL.set rfl rfl (op_assignF rfl ?_) | refine AL.set rfl rfl (op_loadR hq rfl rfl ?_))
    refine AL.set rfl rfl (op_call rfl rfl ((e3 H q2).mono ?_))
    rintro _ H' ⟨rfl, i2⟩
    repeat (first | refine AL.nil ?_ | refine AWp.region ?_ | refine AWp.condF rfl ?_ | refine AWp.skip ?_ | refine AL.set rfl rfl (op_moveI rfl ?_) | refine AL.set rfl rfl (op_intF rfl rfl rfl (by omega) ?_) | refine AL.set rfl rfl (op_add64 rfl rfl (by omega) ?_))
    exact ⟨(k + 1, H'), ⟨hlt, i2⟩, by show fs.length - (k + 1) < fs.length - k; omega, Weak.same (EW.cons rfl (EW.cons rfl (EW.cons rfl (EW.cons rfl EW.nil))))⟩
  · have hk : k = fs.length := by omega
    subst hk
    repeat (first | refine AL.nil ?_ | refine AWp.seq ?_ | refine AWp.region ?_ | refine AWp.condF rfl ?_ | refine AWp.ret ?_ | refine AWp.exit ?_ | refine AL.set rfl rfl (op_assignI rfl ?_) | refine AL.set rfl rfl (op_intF rfl rfl rfl (by omega) ?_))
    exact ⟨_, ResV.tmp rfl, rfl, q2⟩
section
variable {h : Heap} {g : Nat} {i : Nat} {name : List UInt8} {s : LogM} {lv : Value} {m room k n : Nat} {fl : Dsk.FL} {c : Nat}
theorem anew1_c (p q w : Nat) (t : List UInt8) (v : Value) (b : List UInt8) (hp : h.get p = some ⟨[ptr g], 22, true⟩) (hq : h.get q = some ⟨[.string (bstr t)], 9, true⟩) (hw : h.get w = some ⟨[v], 49, true⟩) (hg : h.get g = some (logB (ptr i) name s lv))
    (r : RB h v b) (d : Dq h i m room k n fl c) (ht : Dsk.goodN t = true) (hl : t.length ≤ 100) (hb : b.length ≤ 10000000) (hk : k < 128) (hn : n + b.length ≤ room) :
    ACalls Try.prog 51 [ptr p, ptr q, ptr w] h fun u h' => u = .int .i64 0 ∧ ∃ fl' c', Dq h' i m room (k + 1) (n + b.length) fl' c' ∧ hasS fl' t = true ∧ Ki i h h' := by
  refine ACalls.body Try.func51 rfl rfl ?_
  obtain ⟨av, cv, hv⟩ := r.slice
  repeat (first | refine AL.nil ?_ | refine AWp.seq ?_ | refine AWp.region ?_ | refine AL.set rfl rfl (op_assignI rfl ?_))
  refine AWp.tree (t := OT.seq [(0, .R), (1, .P), (2, .P), (3, .R), (4, .R), (5, .R), (6, .W), (7, .P)] .nil) mixedT (by kernel_rfl) ?_
  repeat (first | refine TAL.r rfl rfl rfl (fun h' hx hn => op_load rfl rfl (hx.c _ _ hp) rfl ⟨rfl, rfl⟩) ?_ | refine TAL.r rfl rfl rfl (fun h' hx hn => op_load rfl rfl (hx.c _ _ hg) rfl ⟨rfl, rfl⟩) ?_ | refine TAL.r rfl rfl rfl (fun h' hx hn => op_load rfl rfl (hx.c _ _ hq) rfl ⟨rfl, rfl⟩) ?_ | refine TAL.r rfl rfl rfl (fun h' hx hn => op_load rfl rfl (hx.c _ _ hw) rfl ⟨rfl, rfl⟩) ?_ | refine TAL.p rfl rfl rfl (fun h' hn => op_nilCheck rfl ⟨rfl, rfl⟩) ?_ | refine TAL.p rfl rfl rfl (fun h' hn => op_fa rfl ⟨rfl, rfl⟩) ?_)
  refine TAL.w rfl rfl rfl (op_call rfl rfl ((appD_c d t v b ht hl r hb hk hn).mono ?_))
  rintro _ H ⟨rfl, q⟩
  repeat (first | refine TAL.p rfl rfl rfl (fun h' hn => op_assignI rfl ⟨rfl, rfl⟩) ?_)
  refine TAL.nil ?_
  repeat (first | refine AWp.ret ?_)
  exact ⟨_, ResV.tmp rfl, rfl, q⟩
theorem anew2_c (p q : Nat) (t : List UInt8) (hp : h.get p = some ⟨[ptr g], 22, true⟩) (hq : h.get q = some ⟨[.string (bstr t)], 9, true⟩) (hg : h.get g = some (logB (ptr i) name s lv))
    (d : Dq h i m room k n fl c) (ht : Dsk.goodN t = true) (hl : t.length ≤ 100) (hk : k < 128) (hh : hasS fl t = true) :
    ACalls Try.prog 52 [ptr p, ptr q] h fun u h' => u = .int .i64 0 ∧ ∃ fl' c', Dq h' i m room (k + 1) n fl' c' ∧ hasS fl' t = true ∧ Ki i h h' := by
  refine ACalls.body Try.func52 rfl rfl ?_
  repeat (first | refine AL.nil ?_ | refine AWp.seq ?_ | refine AWp.region ?_ | refine AL.set rfl rfl (op_assignI rfl ?_))
  refine AWp.tree (t := OT.seq [(0, .R), (1, .P), (2, .P), (3, .R), (4, .R), (5, .W), (6, .P)] .nil) mixedT (by kernel_rfl) ?_
  repeat (first | refine TAL.r rfl rfl rfl (fun h' hx hn => op_load rfl rfl (hx.c _ _ hp) rfl ⟨rfl, rfl⟩) ?_ | refine TAL.r rfl rfl rfl (fun h' hx hn => op_load rfl rfl (hx.c _ _ hg) rfl ⟨rfl, rfl⟩) ?_ | refine TAL.r rfl rfl rfl (fun h' hx hn => op_load rfl rfl (hx.c _ _ hq) rfl ⟨rfl, rfl⟩) ?_ | refine TAL.p rfl rfl rfl (fun h' hn => op_nilCheck rfl ⟨rfl, rfl⟩) ?_ | refine TAL.p rfl rfl rfl (fun h' hn => op_fa rfl ⟨rfl, rfl⟩) ?_)
  refine TAL.w rfl rfl rfl (op_call rfl rfl ((syncD_c d t ht hl hh hk).mono ?_))
  rintro _ H ⟨rfl, q⟩
  repeat (first | refine TAL.p rfl rfl rfl (fun h' hn => op_assignI rfl ⟨rfl, rfl⟩) ?_)
  refine TAL.nil ?_
  repeat (first | refine AWp.ret ?_)
  exact ⟨_, ResV.tmp rfl, rfl, q⟩
theorem anew3_c (p q : Nat) (t : List UInt8) (hp : h.get p = some ⟨[ptr g], 22, true⟩) (hq : h.get q = some ⟨[.string (bstr t)], 9, true⟩) (hg : h.get g = some (logB (ptr i) name s lv))
    (d : Dq h i m room k n fl c) (ht : Dsk.goodN t = true) (hnm : Dsk.goodN name = true) (hl : t.length ≤ 100) (hl2 : name.length ≤ 100) (hk : k < 128) (hh : hasS fl t = true) :
    ACalls Try.prog 53 [ptr p, ptr q] h fun u h' => u = .int .i64 0 ∧ ∃ fl' c', Dq h' i m room (k + 1) n fl' c' ∧ Ki i h h' := by
  refine ACalls.body Try.func53 rfl rfl ?_
  repeat (first | refine AL.nil ?_ | refine AWp.seq ?_ | refine AWp.region ?_ | refine AL.set rfl rfl (op_assignI rfl ?_))
  refine AWp.tree (t := OT.seq [(0, .R), (1, .P), (2, .P), (3, .R), (4, .R), (5, .R), (6, .P), (7, .P), (8, .R), (9, .W), (10, .P)] .nil) mixedT (by kernel_rfl) ?_
  repeat (first | refine TAL.r rfl rfl rfl (fun h' hx hn => op_load rfl rfl (hx.c _ _ hp) rfl ⟨rfl, rfl⟩) ?_ | refine TAL.r rfl rfl rfl (fun h' hx hn => op_load rfl rfl (hx.c _ _ hg) rfl ⟨rfl, rfl⟩) ?_ | refine TAL.r rfl rfl rfl (fun h' hx hn => op_load rfl rfl (hx.c _ _ hq) rfl ⟨rfl, rfl⟩) ?_ | refine TAL.p rfl rfl rfl (fun h' hn => op_nilCheck rfl ⟨rfl, rfl⟩) ?_ | refine TAL.p rfl rfl rfl (fun h' hn => op_fa rfl ⟨rfl, rfl⟩) ?_)
  refine TAL.w rfl rfl rfl (op_call rfl rfl ((renD_c d t name ht hnm hl hl2 hh hk).mono ?_))
  rintro _ H ⟨rfl, q⟩
  repeat (first | refine TAL.p rfl rfl rfl (fun h' hn => op_assignI rfl ⟨rfl, rfl⟩) ?_)
  refine TAL.nil ?_
  repeat (first | refine AWp.ret ?_)
  exact ⟨_, ResV.tmp rfl, rfl, q⟩
theorem change1_c (p w : Nat) (v : Value) (b : List UInt8) (hp : h.get p = some ⟨[ptr g], 22, true⟩) (hw : h.get w = some ⟨[v], 49, true⟩) (hg : h.get g = some (logB (ptr i) name s lv))
    (r : RB h v b) (d : Dq h i m room k n fl c) (ht : Dsk.goodN name = true) (hl : name.length ≤ 100) (hb : b.length ≤ 10000000) (hk : k < 128) (hn : n + b.length ≤ room) :
    ACalls Try.prog 45 [ptr p, ptr w] h fun u h' => u = .int .i64 0 ∧ ∃ fl' c', Dq h' i m room (k + 1) (n + b.length) fl' c' ∧ hasS fl' name = true ∧ Ki i h h' := by
  refine ACalls.body Try.func45 rfl rfl ?_
  obtain ⟨av, cv, hv⟩ := r.slice
  repeat (first | refine AL.nil ?_ | refine AWp.seq ?_ | refine AWp.region ?_ | refine AL.set rfl rfl (op_assignI rfl ?_))
  refine AWp.tree (t := OT.seq [(0, .R), (1, .P), (2, .P), (3, .R), (4, .R), (5, .P), (6, .P), (7, .R), (8, .R), (9, .W), (10, .P)] .nil) mixedT (by kernel_rfl) ?_
  repeat (first | refine TAL.r rfl rfl rfl (fun h' hx hn => op_load rfl rfl (hx.c _ _ hp) rfl ⟨rfl, rfl⟩) ?_ | refine TAL.r rfl rfl rfl (fun h' hx hn => op_load rfl rfl (hx.c _ _ hg) rfl ⟨rfl, rfl⟩) ?_ | refine TAL.r rfl rfl rfl (fun h' hx hn => op_load rfl rfl (hx.c _ _ hw) rfl ⟨rfl, rfl⟩) ?_ | refine TAL.p rfl rfl rfl (fun h' hn => op_nilCheck rfl ⟨rfl, rfl⟩) ?_ | refine TAL.p rfl rfl rfl (fun h' hn => op_fa rfl ⟨rfl, rfl⟩) ?_)
  refine TAL.w rfl rfl rfl (op_call rfl rfl ((appD_c d name v b ht hl r hb hk hn).mono ?_))
  rintro _ H ⟨rfl, q⟩
  repeat (first | refine TAL.p rfl rfl rfl (fun h' hn => op_assignI rfl ⟨rfl, rfl⟩) ?_)
  refine TAL.nil ?_
  repeat (first | refine AWp.ret ?_)
  exact ⟨_, ResV.tmp rfl, rfl, q⟩
end
end Go.Proofs.Ytnioldkmckmajaa
/-
  Logs: the file written anew; records appended.
-/
namespace Go.Proofs.Ytnioldkmckmajaa
open Go Go.Eng Go.Pln
attribute [local irreducible] AWp AL DAL AOp TAL
abbrev newB : List UInt8 := [46, 110, 101, 119]
abbrev lgB (g : Nat) : Blk := ⟨[ptr g], 22, true⟩
section
variable {h : Heap} {g : Nat} {i : Nat} {name : List UInt8} {s : LogM} {lv : Value} {m room k n : Nat} {fl : Dsk.FL} {c : Nat}
set_option maxHeartbeats 4000000 in
theorem anew_c (hg : h.get g = some (logB (ptr i) name s lv)) {rows : List (List Value)} (r : RNE h lv rows) (e : EntR h rows s.l) (ok : s.Ok) (hb : s.last ≤ 2147483647) (hN : entN s.l ≤ 1000000) (d : Dq h i m room k n fl c)
    (hnm : Dsk.goodN name = true) (hnw : Dsk.goodN (name ++ newB) = true) (hl : name.length ≤ 20) (hk : k + 3 < 128) (hn : n + 80 + entN s.l ≤ room) :
    ACalls Try.prog 29 [ptr g] h fun u h' => u = .int .i64 0 ∧ ∃ fl' c', Dq h' i m room (k + 3) (n + 80 + entN s.l) fl' c' ∧ Ki i h h' := by
  refine ACalls.wf fun wf => ?_
  refine ACalls.body Try.func29 rfl rfl ?_
  have hl2 : (name ++ newB).length ≤ 100 := by rw [List.length_append]; show name.length + 4 ≤ 100; omega
  repeat (first | refine AWp.seq ?_ | refine AWp.region ?_)
  refine AL.set rfl rfl (op_box (v := ptr g) rfl (by intro e; cases e) ?_)
  have g1 := Heap.alloc_new h (lgB g)
  have x1 := wf.ext (lgB g)
  have w1 := wf.alloc (lgB g)
  have n1 : h.next ≤ (h.alloc (lgB g)).next := Nat.le_succ _
  refine AL.heap (h := h.alloc (lgB g)) rfl ?_
  generalize h.next = p at g1 ⊢
  generalize h.alloc (lgB g) = H1 at g1 x1 w1 n1 ⊢
  have hg1 := x1.c _ _ hg
  repeat (first | refine AL.nil ?_ | refine AWp.seq ?_ | refine AWp.region ?_ | refine AL.set rfl rfl (op_assignI rfl ?_) | refine AL.set rfl rfl (op_load rfl rfl g1 rfl ?_) | refine AL.set rfl rfl (op_nilCheck rfl ?_) | refine AL.set rfl rfl (op_fa rfl ?_) | refine AL.set rfl rfl (op_load rfl rfl hg1 rfl ?_) | refine AL.set rfl rfl (op_sCat (a := name) (b := newB) rfl rfl (by simp only [maxLen, List.length_cons, List.length_nil]; omega) ?_) | refine AL.set rfl rfl (op_alloc (z := .string ⟨#[]⟩) ?_))
  refine AL.eff rfl (op_store (v := .string (bstr (name ++ newB))) rfl rfl rfl (Heap.alloc_new _ _) rfl (by exact Nat.le_of_ble_eq_true rfl) ?_)
  refine AL.heap (Heap.set_alloc _ _ _) ?_
  refine AL.heap (h := H1.alloc ⟨[.string (bstr (name ++ newB))], 9, true⟩) rfl ?_
  have g2 := Heap.alloc_new H1 ⟨[.string (bstr (name ++ newB))], 9, true⟩
  have x2 := w1.ext ⟨[.string (bstr (name ++ newB))], 9, true⟩
  have w2 := w1.alloc ⟨[.string (bstr (name ++ newB))], 9, true⟩
  have n2 : H1.next ≤ (H1.alloc ⟨[.string (bstr (name ++ newB))], 9, true⟩).next := Nat.le_succ _
  have n02 := Nat.le_trans n1 n2
  generalize H1.next = q at g2 ⊢
  generalize H1.alloc ⟨[.string (bstr (name ++ newB))], 9, true⟩ = H2 at g2 x2 w2 n2 n02 ⊢
  generalize name ++ newB = t at hnw hl2 g2
  have x02 := x1.trans x2
  have hg2 := x02.c _ _ hg
  have gp2 := x2.c _ _ g1
  repeat (first | refine AL.nil ?_ | refine AWp.seq ?_)
  refine AWp.tree (t := OT.seq [(0, .R), (1, .P), (2, .P), (3, .R), (4, .R), (5, .W)] .nil) mixedT (by kernel_rfl) ?_
  repeat (first | refine TAL.r rfl rfl rfl (fun h' hx hn => op_load rfl rfl (hx.c _ _ gp2) rfl ⟨rfl, rfl⟩) ?_ | refine TAL.r rfl rfl rfl (fun h' hx hn => op_load rfl rfl (hx.c _ _ hg2) rfl ⟨rfl, rfl⟩) ?_ | refine TAL.r rfl rfl rfl (fun h' hx hn => op_load rfl rfl (hx.c _ _ g2) rfl ⟨rfl, rfl⟩) ?_ | refine TAL.p rfl rfl rfl (fun h' hn => op_nilCheck rfl ⟨rfl, rfl⟩) ?_ | refine TAL.p rfl rfl rfl (fun h' hn => op_fa rfl ⟨rfl, rfl⟩) ?_)
  refine TAL.w rfl rfl rfl (op_call rfl rfl ((remD_c (dq_ext d x02) t hl2).wf_post.mono ?_))
  rintro u3 H3 ⟨⟨_, fl3, c3, d3, k3⟩, w3, n3⟩
  refine TAL.nil ?_
  have d2 := (dq_ext d x02).at_
  have hg3 := k3.get d2 hg2 (by show (28 : TypeId) ≠ 68; decide)
  have gp3 := k3.get d2 gp2 (by show (22 : TypeId) ≠ 68; decide)
  have gq3 := k3.get d2 g2 (by show (9 : TypeId) ≠ 68; decide)
  have kd3 := (Kd.ext x02 n02).trans (k3.kd d2)
  have cw := whole_c hg3 (r.kd kd3) (e.kd kd3) ok hb hN
  repeat (first | refine AWp.seq ?_ | refine AWp.region ?_ | refine AL.set rfl rfl (op_load rfl rfl gp3 rfl ?_))
  refine AL.set rfl rfl (op_call rfl rfl (cw.wf_post.mono ?_))
  rintro v H4 ⟨⟨b, rb, lb, x4⟩, w4, n4⟩
  obtain ⟨av, cv, hv⟩ := rb.slice
  have ov : oneB v = true := (RS.one rb).1
  repeat (first | refine AL.set rfl rfl (op_alloc (z := .slice none 0 0) ?_))
  refine AL.eff rfl (op_store (v := v) rfl rfl ov (Heap.alloc_new _ _) rfl (by exact Nat.le_of_ble_eq_true rfl) ?_)
  refine AL.heap (Heap.set_alloc _ _ _) ?_
  refine AL.heap (h := H4.alloc ⟨[v], 49, true⟩) rfl ?_
  have g5 := Heap.alloc_new H4 ⟨[v], 49, true⟩
  have x5 := w4.ext ⟨[v], 49, true⟩
  have w5 := w4.alloc ⟨[v], 49, true⟩
  have n5 : H4.next ≤ (H4.alloc ⟨[v], 49, true⟩).next := Nat.le_succ _
  generalize H4.next = w at g5 ⊢
  generalize H4.alloc ⟨[v], 49, true⟩ = H5 at g5 x5 w5 n5 ⊢
  have x35 := x4.trans x5
  have gp5 := x35.c _ _ gp3
  repeat (first | refine AL.nil ?_ | refine AWp.seq ?_ | refine AWp.region ?_ | refine AL.set rfl rfl (op_load rfl rfl gp5 rfl ?_) | refine AL.set rfl rfl (op_makeFunc rfl rfl ?_))
  obtain ⟨fs, hfs⟩ : ∃ fs : List Value, fs = [.func (.func 51) #[] #[ptr p, ptr q, ptr w], .func (.func 52) #[] #[ptr p, ptr q], .func (.func 53) #[] #[ptr p, ptr q]] := ⟨_, rfl⟩
  refine AL.set rfl rfl (op_row fs rfl rfl (by rw [hfs]; rfl) (by rw [hfs]; rfl) (by rw [hfs]; intro z hz; simp only [List.mem_cons, List.not_mem_nil, or_false] at hz; rcases hz with hz | hz | hz <;> rw [hz] <;> rfl) ?_)
  have g6 := Heap.alloc_new H5 ⟨fs, 41, true⟩
  have x6 := w5.ext ⟨fs, 41, true⟩
  have w6 := w5.alloc ⟨fs, 41, true⟩
  have n6 : H5.next ≤ (H5.alloc ⟨fs, 41, true⟩).next := Nat.le_succ _
  generalize H5.next = z at g6 ⊢
  generalize H5.alloc ⟨fs, 41, true⟩ = H6 at g6 x6 w6 n6 ⊢
  have hlen : fs.length = 3 := by rw [hfs]; rfl
  have x36 := x35.trans x6
  have d6 := dq_ext d3 x36
  have hg6 := x36.c _ _ hg3
  have gp6 := x36.c _ _ gp3
  have gq6 := x36.c _ _ gq3
  have gw6 := x6.c _ _ g5
  have rb6 := rb.ext (x5.trans x6)
  have getP : ∀ {H : Heap}, Ki i H6 H → H.get p = some (lgB g) := fun a => a.get d6.at_ gp6 (by show (22 : TypeId) ≠ 68; decide)
  have getQ : ∀ {H : Heap}, Ki i H6 H → H.get q = some ⟨[.string (bstr t)], 9, true⟩ := fun a => a.get d6.at_ gq6 (by show (9 : TypeId) ≠ 68; decide)
  have getG : ∀ {H : Heap}, Ki i H6 H → H.get g = some (logB (ptr i) name s lv) := fun a => a.get d6.at_ hg6 (by show (28 : TypeId) ≠ 68; decide)
  have ca := asked_c g z fs (fun j H => Ki i H6 H ∧ (j = 0 → H = H6) ∧ ∃ fl c, Dq H i m room (k + j) (if j = 0 then n else n + b.length) fl c ∧ (j = 1 ∨ j = 2 → hasS fl t = true))
    (fun j H a => a.1.get d6.at_ g6 (by show (41 : TypeId) ≠ 68; decide))
    (fun j hj => by
      rw [hlen] at hj
      rcases (show j = 0 ∨ j = 1 ∨ j = 2 by omega) with rfl | rfl | rfl
      · refine ⟨51, #[], #[ptr p, ptr q, ptr w], by rw [hfs]; rfl, inferInstance, ?_⟩
        rintro H ⟨a1, a2, fl', c', a3, a4⟩
        obtain rfl := a2 rfl
        show ACalls _ _ [ptr p, ptr q, ptr w] _ _
        refine (anew1_c p q w t v b gp6 gq6 gw6 hg6 rb6 a3 hnw hl2 (by omega) (by omega) (by show n + b.length ≤ room; omega)).mono ?_
        rintro u H' ⟨rfl, fl2, c2, b1, b2, b3⟩
        exact ⟨rfl, b3, (fun e => by cases e), fl2, c2, b1, fun _ => b2⟩
      · refine ⟨52, #[], #[ptr p, ptr q], by rw [hfs]; rfl, inferInstance, ?_⟩
        rintro H ⟨a1, a2, fl', c', a3, a4⟩
        show ACalls _ _ [ptr p, ptr q] _ _
        refine (anew2_c p q t (getP a1) (getQ a1) (getG a1) a3 hnw hl2 (by omega) (a4 (.inl rfl))).mono ?_
        rintro u H' ⟨rfl, fl2, c2, b1, b2, b3⟩
        exact ⟨rfl, a1.trans b3, (fun e => by cases e), fl2, c2, b1, fun _ => b2⟩
      · refine ⟨53, #[], #[ptr p, ptr q], by rw [hfs]; rfl, inferInstance, ?_⟩
        rintro H ⟨a1, a2, fl', c', a3, a4⟩
        show ACalls _ _ [ptr p, ptr q] _ _
        refine (anew3_c p q t (getP a1) (getQ a1) (getG a1) a3 hnw hnm hl2 (by omega) (by omega) (a4 (.inr rfl))).mono ?_
        rintro u H' ⟨rfl, fl2, c2, b1, b3⟩
        exact ⟨rfl, a1.trans b3, (fun e => by cases e), fl2, c2, b1, fun e => by omega⟩) H6 ⟨Ki.refl _ _, fun _ => rfl, fl3, c3, d6, fun e => by omega⟩ (by omega)
  rw [hlen] at ca
  refine AL.set rfl rfl (op_call rfl rfl (ca.mono ?_))
  rintro _ H7 ⟨rfl, k7, _, fl7, c7, d7, _⟩
  repeat (first | refine AL.nil ?_ | refine AWp.ret ?_ | refine AL.set rfl rfl (op_assignI rfl ?_))
  exact ⟨_, ResV.tmp rfl, rfl, fl7, c7, dq_low d7 (Nat.le_refl _) (by show n + b.length ≤ _; omega), (Ki.ext x02 n02).trans (k3.trans ((Ki.ext x36 (Nat.le_trans n4 (Nat.le_trans n5 n6))).trans k7))⟩
set_option maxHeartbeats 4000000 in
theorem change_c {f : FuncId} {fi ca : Array Value} [FnC Try.prog f] (hg : h.get g = some (logB (ptr i) name s lv)) (v : Value) (b : List UInt8) (rb : RB h v b) (d : Dq h i m room k n fl c)
    (hnm : Dsk.goodN name = true) (hl : name.length ≤ 20) (hk : k < 128) (hb0 : 0 < b.length) (hb : b.length ≤ 10000000) (hn : n + b.length ≤ room) {Q : Heap → Prop}
    (hdo : ∀ H fl' c', Ki i h H → Dq H i m room (k + 1) (n + b.length) fl' c' → ACalls Try.prog f (fi.toList ++ ca.toList) H fun _ H' => Q H') :
    ACalls Try.prog 24 [ptr g, v, .func (.func f) fi ca] h fun u h' => u = .int .i64 0 ∧ Q h' := by
  refine ACalls.wf fun wf => ?_
  refine ACalls.body Try.func24 rfl rfl ?_
  obtain ⟨av, cv, hv⟩ := rb.slice
  have hvu : v ≠ undef := (RS.one rb).2
  have hvc : v.cells.toList = [v] := by rw [hv]; rfl
  have ov : oneB v = true := (RS.one rb).1
  repeat (first | refine AWp.seq ?_ | refine AWp.region ?_)
  refine AL.set rfl rfl (op_box (v := ptr g) rfl (by intro e; cases e) ?_)
  have g1 := Heap.alloc_new h (lgB g)
  have x1 := wf.ext (lgB g)
  have w1 := wf.alloc (lgB g)
  have n1 : h.next ≤ (h.alloc (lgB g)).next := Nat.le_succ _
  refine AL.heap (h := h.alloc (lgB g)) rfl ?_
  generalize h.next = p at g1 ⊢
  generalize h.alloc (lgB g) = H1 at g1 x1 w1 n1 ⊢
  refine AL.set rfl rfl (op_box (v := v) rfl hvu ?_)
  rw [hvc]
  have g2 := Heap.alloc_new H1 ⟨[v], 49, true⟩
  have x2 := w1.ext ⟨[v], 49, true⟩
  have w2 := w1.alloc ⟨[v], 49, true⟩
  have n2 : H1.next ≤ (H1.alloc ⟨[v], 49, true⟩).next := Nat.le_succ _
  have n02 := Nat.le_trans n1 n2
  generalize H1.next = w at g2 ⊢
  generalize H1.alloc ⟨[v], 49, true⟩ = H2 at g2 x2 w2 n2 n02 ⊢
  have x02 := x1.trans x2
  have gp2 := x2.c _ _ g1
  have rb2 := rb.ext x02
  repeat (first | refine AL.nil ?_ | refine AWp.seq ?_ | refine AWp.region ?_ | refine AWp.condT rfl ?_ | refine AL.set rfl rfl (op_assignI rfl ?_) | refine AL.set rfl rfl (op_load rfl rfl g2 rfl ?_) | refine AL.set rfl rfl (op_load rfl rfl gp2 rfl ?_) | refine AL.set rfl rfl (op_lenRB rb2 rfl ?_) | refine AL.set rfl rfl (op_intT rfl rfl rfl (by omega) ?_) | refine AL.set rfl rfl (op_makeFunc rfl rfl ?_))
  obtain ⟨fs, hfs⟩ : ∃ fs : List Value, fs = [.func (.func 45) #[] #[ptr p, ptr w]] := ⟨_, rfl⟩
  refine AL.set rfl rfl (op_row fs rfl rfl (by rw [hfs]; rfl) (by rw [hfs]; rfl) (by rw [hfs]; intro z hz; rw [List.mem_singleton.1 hz]; rfl) ?_)
  have g6 := Heap.alloc_new H2 ⟨fs, 41, true⟩
  have x6 := w2.ext ⟨fs, 41, true⟩
  have n6 : H2.next ≤ (H2.alloc ⟨fs, 41, true⟩).next := Nat.le_succ _
  generalize H2.next = z at g6 ⊢
  generalize H2.alloc ⟨fs, 41, true⟩ = H6 at g6 x6 n6 ⊢
  have hlen : fs.length = 1 := by rw [hfs]; rfl
  have x06 := x02.trans x6
  have d6 := dq_ext d x06
  have hg6 := x06.c _ _ hg
  have gp6 := x6.c _ _ gp2
  have gw6 := x6.c _ _ g2
  have rb6 := rb2.ext x6
  have ca := asked_c g z fs (fun j H => Ki i H6 H ∧ (j = 0 → H = H6) ∧ ∃ fl c, Dq H i m room (k + j) (if j = 0 then n else n + b.length) fl c)
    (fun j H a => a.1.get d6.at_ g6 (by show (41 : TypeId) ≠ 68; decide))
    (fun j hj => by
      rw [hlen] at hj
      obtain rfl : j = 0 := by omega
      refine ⟨45, #[], #[ptr p, ptr w], by rw [hfs]; rfl, inferInstance, ?_⟩
      rintro H ⟨a1, a2, fl', c', a3⟩
      obtain rfl := a2 rfl
      show ACalls _ _ [ptr p, ptr w] _ _
      refine (change1_c p w v b gp6 gw6 hg6 rb6 a3 hnm (by omega) hb (by omega) (by show n + b.length ≤ room; omega)).mono ?_
      rintro u H' ⟨rfl, fl2, c2, b1, b2, b3⟩
      exact ⟨rfl, b3, (fun e => by cases e), fl2, c2, b1⟩) H6 ⟨Ki.refl _ _, fun _ => rfl, fl, c, d6⟩ (by omega)
  rw [hlen] at ca
  refine AL.set rfl rfl (op_call rfl rfl (ca.mono ?_))
  rintro _ H7 ⟨rfl, k7, _, fl7, c7, d7⟩
  repeat (first | refine AL.nil ?_ | refine AWp.seq ?_ | refine AWp.region ?_ | refine AWp.condF rfl ?_ | refine AWp.skip ?_ | refine AL.set rfl rfl (op_moveI rfl ?_) | refine AL.set rfl rfl (op_moveF rfl ?_) | refine AL.set rfl rfl (op_assignI rfl ?_) | refine AL.set rfl rfl (op_intF rfl rfl rfl (by omega) ?_))
  refine AL.set rfl rfl (op_call rfl rfl ((hdo H7 fl7 c7 ((Ki.ext x06 (Nat.le_trans n02 n6)).trans k7) d7).mono ?_))
  intro u8 H8 q8
  repeat (first | refine AL.nil ?_ | refine AWp.seq ?_ | refine AWp.region ?_ | refine AWp.ret ?_ | refine AL.set rfl rfl (op_assignI rfl ?_))
  exact ⟨_, ResV.tmp rfl, rfl, q8⟩
end
end Go.Proofs.Ytnioldkmckmajaa
/-
  Logs: term and vote, base, last, a place's term; what may not be.
-/
namespace Go.Proofs.Ytnioldkmckmajaa
open Go Go.Eng Go.Pln
attribute [local irreducible] AWp AL DAL AOp TAL
instance i_wrong : FnC Try.prog 23 := ⟨Try.f23, Try.func23, by kernel_rfl, by kernel_rfl⟩
section
variable {h : Heap} {g : Nat} {i : Nat} {name : List UInt8} {s : LogM} {lv : Value}
theorem state_c (hg : h.get g = some (logB (ptr i) name s lv)) : ACalls Try.prog 7 [ptr g] h fun u h' => u = .agg #[nt s.term, nt s.vote] ∧ h' = h := by
  refine ACalls.wf fun wf => ACalls.resetB ?_
  refine ACalls.body Try.func7 rfl rfl ?_
  repeat (first | refine AL.nil ?_ | refine AWp.seq ?_ | refine AWp.region ?_ | refine AL.set rfl rfl (op_moveP rfl ?_) | refine AL.set rfl rfl (op_alloc (z := .agg #[.int .i64 0, .int .i64 0]) ?_))
  have g1 := Heap.alloc_new h ⟨[.int .i64 0, .int .i64 0], 25, true⟩
  have x1 := wf.ext ⟨[.int .i64 0, .int .i64 0], 25, true⟩
  refine AL.heap (h := h.alloc ⟨[.int .i64 0, .int .i64 0], 25, true⟩) rfl ?_
  have hg1 := x1.c _ _ hg
  have cc := is_c hg1
  repeat (first | refine AL.nil ?_ | refine AWp.seq ?_ | refine AWp.region ?_ | refine AWp.condF rfl ?_ | refine AWp.skip ?_ | refine AL.set rfl rfl (op_moveP rfl ?_) | refine AL.set rfl rfl (op_callS rfl rfl cc ?_) | refine AL.set rfl rfl (op_nilCheck rfl ?_) | refine AL.set rfl rfl (op_fa rfl ?_) | refine AL.set rfl rfl (op_loadA (sz := 2) rfl rfl hg1 (by exact Nat.le_of_ble_eq_true rfl) ?_) | refine AL.set rfl rfl (op_not rfl ?_))
  refine AL.eff rfl (op_storeA (sz := 2) (vs := #[nt s.term, nt s.vote]) rfl rfl rfl rfl g1 rfl (by exact Nat.le_of_ble_eq_true rfl) ?_)
  have x2 : Ext h ((h.alloc ⟨[.int .i64 0, .int .i64 0], 25, true⟩).set h.next ⟨[nt s.term, nt s.vote], 25, true⟩) := wf.ext_set x1 (Nat.le_refl _) _
  have g2 := Heap.set_at (h.alloc ⟨[.int .i64 0, .int .i64 0], 25, true⟩) h.next ⟨[nt s.term, nt s.vote], 25, true⟩
  refine AL.heap (h := (h.alloc ⟨[.int .i64 0, .int .i64 0], 25, true⟩).set h.next ⟨[nt s.term, nt s.vote], 25, true⟩) rfl ?_
  repeat (first | refine AL.nil ?_ | refine AWp.ret ?_)
  exact ⟨_, ResV.cellA rfl rfl rfl g2 (by exact Nat.le_of_ble_eq_true rfl), Bdd.plain (by simp [plainV, scalar]), x2, rfl, rfl⟩
theorem base_c (hg : h.get g = some (logB (ptr i) name s lv)) : ACalls Try.prog 5 [ptr g] h fun u h' => u = .tuple #[nt s.base, nt s.base0] ∧ h' = h := by
  refine ACalls.body Try.func5 rfl rfl ?_
  repeat (first | refine AL.nil ?_ | refine AWp.seq ?_ | refine AWp.region ?_ | refine AWp.condF rfl ?_ | refine AWp.skip ?_ | refine AL.set rfl rfl (op_moveP rfl ?_) | refine AL.set rfl rfl (op_assignI rfl ?_) | refine AL.set rfl rfl (op_callS rfl rfl (is_c hg) ?_) | refine AL.set rfl rfl (op_not rfl ?_))
  refine AWp.drawR mixedT (by kernel_rfl) ?_
  repeat (first | refine DAL.r rfl rfl rfl (fun h' hx hn => op_moveP rfl ⟨rfl, rfl⟩) ?_ | refine DAL.r rfl rfl rfl (fun h' hx hn => op_assignI rfl ⟨rfl, rfl⟩) ?_ | refine DAL.r rfl rfl rfl (fun h' hx hn => op_nilCheck rfl ⟨rfl, rfl⟩) ?_ | refine DAL.r rfl rfl rfl (fun h' hx hn => op_fa rfl ⟨rfl, rfl⟩) ?_ | refine DAL.r rfl rfl rfl (fun h' hx hn => op_load rfl rfl (hx.c _ _ hg) rfl ⟨rfl, rfl⟩) ?_)
  refine DAL.nil ?_
  repeat (first | refine AWp.ret ?_)
  exact ⟨_, ResV.tmp2 rfl, rfl, rfl⟩
theorem lastT_c (hg : h.get g = some (logB (ptr i) name s lv)) {rows : List (List Value)} (r : RNE h lv rows) (e : EntR h rows s.l) (ok : s.Ok) : ACalls Try.prog 6 [ptr g] h fun u h' => u = .tuple #[nt s.last, nt (s.at s.last)] ∧ h' = h := by
  refine ACalls.body Try.func6 rfl rfl ?_
  have c1 := last_c hg r e.len ok
  have c2 := termAt_c hg r e ok s.last (by unfold LogM.last; omega) (Nat.le_refl _)
  repeat (first | refine AL.nil ?_ | refine AWp.seq ?_ | refine AWp.region ?_ | refine AWp.condF rfl ?_ | refine AWp.ret ?_ | refine AWp.skip ?_ | refine AL.set rfl rfl (op_moveP rfl ?_) | refine AL.set rfl rfl (op_assignI rfl ?_) | refine AL.set rfl rfl (op_callS rfl rfl (is_c hg) ?_) | refine AL.set rfl rfl (op_callS rfl rfl c1 ?_) | refine AL.set rfl rfl (op_callS rfl rfl c2 ?_) | refine AL.set rfl rfl (op_not rfl ?_))
  exact ⟨_, ResV.tmp2 rfl, rfl, rfl⟩
theorem term_c (hg : h.get g = some (logB (ptr i) name s lv)) {rows : List (List Value)} (r : RNE h lv rows) (e : EntR h rows s.l) (ok : s.Ok) (k : Nat) (h1 : s.base ≤ k) (h2 : k ≤ s.last) : ACalls Try.prog 4 [ptr g, nt k] h fun u h' => u = .tuple #[nt (s.at k), .bool true] ∧ h' = h := by
  refine ACalls.body Try.func4 rfl rfl ?_
  have c1 := last_c hg r e.len ok
  have c2 := termAt_c hg r e ok k h1 h2
  repeat (first | refine AL.nil ?_ | refine AWp.seq ?_ | refine AWp.region ?_ | refine AWp.condF rfl ?_ | refine AWp.ret ?_ | refine AWp.skip ?_ | refine AL.set rfl rfl (op_moveI rfl ?_) | refine AL.set rfl rfl (op_moveB rfl ?_) | refine AL.set rfl rfl (op_moveP rfl ?_) | refine AL.set rfl rfl (op_assignI rfl ?_) | refine AL.set rfl rfl (op_assignB rfl ?_) | refine AL.set rfl rfl (op_callS rfl rfl (is_c hg) ?_) | refine AL.set rfl rfl (op_nilCheck rfl ?_) | refine AL.set rfl rfl (op_fa rfl ?_) | refine AL.set rfl rfl (op_load rfl rfl hg rfl ?_) | refine AL.set rfl rfl (op_callS rfl rfl c1 ?_) | refine AL.set rfl rfl (op_intF rfl rfl rfl (by omega) ?_) | refine AL.set rfl rfl (op_pick (v := .bool _) rfl rfl ?_) | refine AL.set rfl rfl (op_callS rfl rfl c2 ?_) | refine AL.set rfl rfl (op_not rfl ?_))
  exact ⟨_, ResV.tmp2 rfl, rfl, rfl⟩
set_option maxHeartbeats 1000000 in
/-- A state that the log may have. -/
theorem wrong_no (hg : h.get g = some (logB (ptr i) name s lv)) (t v : Nat) (h1 : s.term ≤ t) (h2 : s.base0 ≤ t) (h3 : t ≤ 2147483647) (h4 : v ≤ 5) (h5 : t = s.term → s.vote = 0) : ACalls Try.prog 23 [ptr g, .agg #[nt t, nt v]] h fun u h' => u = .bool false ∧ h' = h := by
  refine ACalls.wf fun wf => ACalls.reset ?_
  refine ACalls.body Try.func23 rfl rfl ?_
  repeat (first | refine AWp.seq ?_ | refine AWp.region ?_)
  refine AL.set rfl rfl (op_box (v := .agg #[nt t, nt v]) rfl (by intro e; cases e) ?_)
  have g1 := Heap.alloc_new h ⟨[nt t, nt v], 25, true⟩
  have x1 := wf.ext ⟨[nt t, nt v], 25, true⟩
  refine AL.heap (h := h.alloc ⟨[nt t, nt v], 25, true⟩) rfl ?_
  have hg1 := x1.c _ _ hg
  generalize h.next = p at g1 ⊢
  generalize h.alloc ⟨[nt t, nt v], 25, true⟩ = H1 at g1 x1 hg1 ⊢
  repeat (first | refine AL.nil ?_ | refine AWp.seq ?_ | refine AL.set rfl rfl (op_assignB rfl ?_))
  by_cases he : t = s.term
  · have h6 := h5 he
    refine AWp.drawR mixedT (by kernel_rfl) ?_
    repeat (first | refine DAL.r rfl rfl rfl (fun h' hx hn => op_moveB rfl ⟨rfl, rfl⟩) ?_ | refine DAL.r rfl rfl rfl (fun h' hx hn => op_moveP rfl ⟨rfl, rfl⟩) ?_ | refine DAL.r rfl rfl rfl (fun h' hx hn => op_assignB rfl ⟨rfl, rfl⟩) ?_ | refine DAL.skip rfl rfl rfl ?_ | refine DAL.r rfl rfl rfl (fun h' hx hn => op_nilCheck rfl ⟨rfl, rfl⟩) ?_ | refine DAL.r rfl rfl rfl (fun h' hx hn => op_fa rfl ⟨rfl, rfl⟩) ?_ | refine DAL.r rfl rfl rfl (fun h' hx hn => op_load rfl rfl (hx.c _ _ g1) rfl ⟨rfl, rfl⟩) ?_ | refine DAL.r rfl rfl rfl (fun h' hx hn => op_load rfl rfl (hx.c _ _ hg1) rfl ⟨rfl, rfl⟩) ?_ | refine DAL.r rfl rfl rfl (fun h' hx hn => op_max2 rfl rfl ⟨rfl, rfl⟩) ?_ | refine DAL.r rfl rfl rfl (fun h' hx hn => op_intT rfl rfl rfl (by omega) ⟨rfl, rfl⟩) ?_ | refine DAL.r rfl rfl rfl (fun h' hx hn => op_intF rfl rfl rfl (by omega) ⟨rfl, rfl⟩) ?_ | refine DAL.r rfl rfl rfl (fun h' hx hn => op_pick (v := .bool _) rfl rfl ⟨rfl, rfl⟩) ?_)
    refine DAL.nil ?_
    repeat (first | refine AWp.ret ?_)
    exact ⟨_, ResV.tmp rfl, rfl, x1, rfl, rfl⟩
  · refine AWp.drawR mixedT (by kernel_rfl) ?_
    repeat (first | refine DAL.r rfl rfl rfl (fun h' hx hn => op_moveB rfl ⟨rfl, rfl⟩) ?_ | refine DAL.r rfl rfl rfl (fun h' hx hn => op_moveP rfl ⟨rfl, rfl⟩) ?_ | refine DAL.r rfl rfl rfl (fun h' hx hn => op_assignB rfl ⟨rfl, rfl⟩) ?_ | refine DAL.skip rfl rfl rfl ?_ | refine DAL.r rfl rfl rfl (fun h' hx hn => op_nilCheck rfl ⟨rfl, rfl⟩) ?_ | refine DAL.r rfl rfl rfl (fun h' hx hn => op_fa rfl ⟨rfl, rfl⟩) ?_ | refine DAL.r rfl rfl rfl (fun h' hx hn => op_load rfl rfl (hx.c _ _ g1) rfl ⟨rfl, rfl⟩) ?_ | refine DAL.r rfl rfl rfl (fun h' hx hn => op_load rfl rfl (hx.c _ _ hg1) rfl ⟨rfl, rfl⟩) ?_ | refine DAL.r rfl rfl rfl (fun h' hx hn => op_max2 rfl rfl ⟨rfl, rfl⟩) ?_ | refine DAL.r rfl rfl rfl (fun h' hx hn => op_intF rfl rfl rfl (by omega) ⟨rfl, rfl⟩) ?_ | refine DAL.r rfl rfl rfl (fun h' hx hn => op_pick (v := .bool _) rfl rfl ⟨rfl, rfl⟩) ?_)
    refine DAL.nil ?_
    repeat (first | refine AWp.ret ?_)
    exact ⟨_, ResV.tmp rfl, rfl, x1, rfl, rfl⟩
set_option maxHeartbeats 1000000 in
/-- A term below the log's. -/
theorem wrong_low (hg : h.get g = some (logB (ptr i) name s lv)) (t v : Nat) (h1 : t < s.term) : ACalls Try.prog 23 [ptr g, .agg #[nt t, nt v]] h fun u h' => u = .bool true ∧ h' = h := by
  refine ACalls.wf fun wf => ACalls.reset ?_
  refine ACalls.body Try.func23 rfl rfl ?_
  repeat (first | refine AWp.seq ?_ | refine AWp.region ?_)
  refine AL.set rfl rfl (op_box (v := .agg #[nt t, nt v]) rfl (by intro e; cases e) ?_)
  have g1 := Heap.alloc_new h ⟨[nt t, nt v], 25, true⟩
  have x1 := wf.ext ⟨[nt t, nt v], 25, true⟩
  refine AL.heap (h := h.alloc ⟨[nt t, nt v], 25, true⟩) rfl ?_
  have hg1 := x1.c _ _ hg
  generalize h.next = p at g1 ⊢
  generalize h.alloc ⟨[nt t, nt v], 25, true⟩ = H1 at g1 x1 hg1 ⊢
  repeat (first | refine AL.nil ?_ | refine AWp.seq ?_ | refine AL.set rfl rfl (op_assignB rfl ?_))
  refine AWp.drawR mixedT (by kernel_rfl) ?_
  repeat (first | refine DAL.r rfl rfl rfl (fun h' hx hn => op_moveB rfl ⟨rfl, rfl⟩) ?_ | refine DAL.r rfl rfl rfl (fun h' hx hn => op_moveP rfl ⟨rfl, rfl⟩) ?_ | refine DAL.r rfl rfl rfl (fun h' hx hn => op_assignB rfl ⟨rfl, rfl⟩) ?_ | refine DAL.skip rfl rfl rfl ?_ | refine DAL.r rfl rfl rfl (fun h' hx hn => op_nilCheck rfl ⟨rfl, rfl⟩) ?_ | refine DAL.r rfl rfl rfl (fun h' hx hn => op_fa rfl ⟨rfl, rfl⟩) ?_ | refine DAL.r rfl rfl rfl (fun h' hx hn => op_load rfl rfl (hx.c _ _ g1) rfl ⟨rfl, rfl⟩) ?_ | refine DAL.r rfl rfl rfl (fun h' hx hn => op_load rfl rfl (hx.c _ _ hg1) rfl ⟨rfl, rfl⟩) ?_ | refine DAL.r rfl rfl rfl (fun h' hx hn => op_max2 rfl rfl ⟨rfl, rfl⟩) ?_ | refine DAL.r rfl rfl rfl (fun h' hx hn => op_intT rfl rfl rfl (by omega) ⟨rfl, rfl⟩) ?_ | refine DAL.r rfl rfl rfl (fun h' hx hn => op_pick (v := .bool _) rfl rfl ⟨rfl, rfl⟩) ?_)
  refine DAL.nil ?_
  repeat (first | refine AWp.ret ?_)
  exact ⟨_, ResV.tmp rfl, rfl, x1, rfl, rfl⟩
end
end Go.Proofs.Ytnioldkmckmajaa
/-
  Logs: set, put, cut.
-/
namespace Go.Proofs.Ytnioldkmckmajaa
open Go Go.Eng Go.Pln
attribute [local irreducible] AWp AL DAL AOp TAL
instance i_Set : FnC Try.prog 9 := ⟨Try.f9, Try.func9, by kernel_rfl, by kernel_rfl⟩
instance i_Set1 : FnC Try.prog 26 := ⟨Try.f26, Try.func26, by kernel_rfl, by kernel_rfl⟩
instance i_Put : FnC Try.prog 10 := ⟨Try.f10, Try.func10, by kernel_rfl, by kernel_rfl⟩
instance i_Put1 : FnC Try.prog 31 := ⟨Try.f31, Try.func31, by kernel_rfl, by kernel_rfl⟩
instance i_Cut : FnC Try.prog 11 := ⟨Try.f11, Try.func11, by kernel_rfl, by kernel_rfl⟩
structure LgD (h : Heap) (g i m room k n : Nat) (name : List UInt8) (s : LogM) : Prop where
  ex : ∃ lv rows, h.get g = some (logB (ptr i) name s lv) ∧ RNE h lv rows ∧ EntR h rows s.l
  dsk : ∃ fl c, Dq h i m room k n fl c
  ok : s.Ok
structure Nm (name : List UInt8) : Prop where
  a : Dsk.goodN name = true
  b : Dsk.goodN (name ++ newB) = true
  l : name.length ≤ 20
theorem recB_pos (k : Nat) (ll : List (List UInt8)) (hk : k ≤ 9) (hl : ll.flatten.length ≤ 1000000) : 0 < (recB k ll).length := by
  unfold recB Frm.putB
  have h1 := vnt_pos k
  have h2 := vnt_len10 k (by omega)
  have h3 : (vnt k ++ ll.flatten).length = (vnt k).length + ll.flatten.length := List.length_append
  rw [if_neg (by omega), if_neg (by omega), Frm.frameB_length]
  omega
theorem log_ne : (28 : TypeId) ≠ 68 := by decide
section
variable {h : Heap} {g : Nat} {i : Nat} {name : List UInt8} {s : LogM} {lv : Value} {m room k n : Nat}
theorem set1_c (p q : Nat) (t v : Nat) (hp : h.get p = some (lgB g)) (hq : h.get q = some ⟨[nt t, nt v], 25, true⟩) (hg : h.get g = some (logB (ptr i) name s lv)) :
    ACalls Try.prog 26 [ptr q, ptr p] h fun _ h' => h' = h.set g (logB (ptr i) name { s with term := t, vote := v } lv) := by
  refine ACalls.body Try.func26 rfl rfl ?_
  repeat (first | refine AWp.region ?_ | refine AL.set rfl rfl (op_load rfl rfl hp rfl ?_) | refine AL.set rfl rfl (op_loadA (sz := 2) rfl rfl hq (by exact Nat.le_of_ble_eq_true rfl) ?_) | refine AL.set rfl rfl (op_nilCheck rfl ?_) | refine AL.set rfl rfl (op_fa rfl ?_))
  refine AL.eff rfl (op_storeA (sz := 2) (vs := #[nt t, nt v]) rfl rfl rfl rfl hg rfl (by exact Nat.le_of_ble_eq_true rfl) ?_)
  repeat (first | refine AL.nil ?_)
  exact ⟨_, ResV.none rfl, rfl⟩
set_option maxHeartbeats 4000000 in
theorem set_ok (a : LgD h g i m room k n name s) (nm : Nm name) (t v : Nat) (h1 : s.term ≤ t) (h2 : s.base0 ≤ t) (h3 : t ≤ 2147483647) (h4 : v ≤ 5) (h5 : t = s.term → s.vote = 0) (hk : k < 128) (hn : n + 40 ≤ room) :
    ACalls Try.prog 9 [ptr g, .agg #[nt t, nt v]] h fun u h' => u = .int .i64 0 ∧ LgD h' g i m room (k + 1) (n + 40) name { s with term := t, vote := v } ∧ Kd h h' := by
  refine ACalls.wf fun wf => ?_
  obtain ⟨lv, rows, hg, r, e⟩ := a.ex
  obtain ⟨fl, c, d⟩ := a.dsk
  refine ACalls.body Try.func9 rfl rfl ?_
  have lt2 := two_le 2 t v (by omega) h3 (by omega)
  have lp2 := recB_pos 2 [vnt t, vnt v] (by omega) (by have := vnt_len10 t (by omega); have := vnt_len10 v (by omega); simp; omega)
  repeat (first | refine AWp.seq ?_ | refine AWp.region ?_)
  refine AL.set rfl rfl (op_box (v := ptr g) rfl (by intro e; cases e) ?_)
  have g1 := Heap.alloc_new h (lgB g)
  have x1 := wf.ext (lgB g)
  have w1 := wf.alloc (lgB g)
  have n1 : h.next ≤ (h.alloc (lgB g)).next := Nat.le_succ _
  refine AL.heap (h := h.alloc (lgB g)) rfl ?_
  generalize h.next = p at g1 ⊢
  generalize h.alloc (lgB g) = H1 at g1 x1 w1 n1 ⊢
  refine AL.set rfl rfl (op_box (v := .agg #[nt t, nt v]) rfl (by intro e; cases e) ?_)
  have g2 := Heap.alloc_new H1 ⟨[nt t, nt v], 25, true⟩
  have x2 := w1.ext ⟨[nt t, nt v], 25, true⟩
  have w2 := w1.alloc ⟨[nt t, nt v], 25, true⟩
  have n2 : H1.next ≤ (H1.alloc ⟨[nt t, nt v], 25, true⟩).next := Nat.le_succ _
  have n02 := Nat.le_trans n1 n2
  refine AL.heap (h := H1.alloc ⟨[nt t, nt v], 25, true⟩) rfl ?_
  generalize H1.next = q at g2 ⊢
  generalize H1.alloc ⟨[nt t, nt v], 25, true⟩ = H2 at g2 x2 w2 n02 ⊢
  have x02 := x1.trans x2
  have hg2 := x02.c _ _ hg
  have gp2 := x2.c _ _ g1
  have ci := fun (h' : Heap) (hx : Ext H2 h') => is_c (hx.c _ _ hg2)
  have cw := fun (h' : Heap) (hx : Ext H2 h') => wrong_no (hx.c _ _ hg2) t v h1 h2 h3 h4 h5
  have cr := fun (h' : Heap) (hx : Ext H2 h') => ready_c (hx.c _ _ hg2) true
  repeat (first | refine AL.nil ?_ | refine AWp.seq ?_ | refine AL.set rfl rfl (op_assignI rfl ?_))
  refine AWp.drawR mixedT (by kernel_rfl) ?_
  repeat (first | refine DAL.r rfl rfl rfl (fun h' hx hn => op_moveB rfl ⟨rfl, rfl⟩) ?_ | refine DAL.r rfl rfl rfl (fun h' hx hn => op_assignI rfl ⟨rfl, rfl⟩) ?_ | refine DAL.r rfl rfl rfl (fun h' hx hn => op_load rfl rfl (hx.c _ _ gp2) rfl ⟨rfl, rfl⟩) ?_ | refine DAL.r rfl rfl rfl (fun h' hx hn => op_loadA (sz := 2) rfl rfl (hx.c _ _ g2) (by exact Nat.le_of_ble_eq_true rfl) ⟨rfl, rfl⟩) ?_ | refine DAL.r rfl rfl rfl (fun h' hx hn => op_callS rfl rfl (ci h' hx) ⟨rfl, rfl⟩) ?_ | refine DAL.r rfl rfl rfl (fun h' hx hn => op_callS rfl rfl (cw h' hx) ⟨rfl, rfl⟩) ?_ | refine DAL.r rfl rfl rfl (fun h' hx hn => op_callS rfl rfl (cr h' hx) ⟨rfl, rfl⟩) ?_ | refine DAL.r rfl rfl rfl (fun h' hx hn => op_pick (v := .bool _) rfl rfl ⟨rfl, rfl⟩) ?_ | refine DAL.r rfl rfl rfl (fun h' hx hn => op_not rfl ⟨rfl, rfl⟩) ?_)
  refine DAL.nil ?_
  repeat (first | refine AL.nil ?_ | refine AWp.seq ?_ | refine AWp.region ?_ | refine AWp.condF rfl ?_ | refine AWp.skip ?_ | refine AL.set rfl rfl (op_moveI rfl ?_) | refine AL.set rfl rfl (op_int rfl rfl rfl ?_))
  refine AWp.tree (t := OT.seq [(0, .R), (1, .R), (3, .P), (2, .X), (4, .W), (5, .P)] .nil) mixedT (by kernel_rfl) ?_
  repeat (first | refine TAL.r rfl rfl rfl (fun h' hx hn => op_load rfl rfl (hx.c _ _ gp2) rfl ⟨rfl, rfl⟩) ?_ | refine TAL.r rfl rfl rfl (fun h' hx hn => op_loadA (sz := 2) rfl rfl (hx.c _ _ g2) (by exact Nat.le_of_ble_eq_true rfl) ⟨rfl, rfl⟩) ?_)
  refine TAL.p rfl rfl rfl (fun h' hn => op_makeFunc rfl rfl ⟨rfl, rfl⟩) ?_
  refine TAL.x rfl rfl rfl (op_call rfl rfl ((stateRecord_c t v H2 h3 (by omega)).wf_post.mono ?_))
  rintro u3 H3 ⟨⟨r3, x3⟩, w3, n3⟩
  refine ⟨x3, ?_⟩
  have x03 := x02.trans x3
  have hg3 := x03.c _ _ hg
  have gp3 := x3.c _ _ gp2
  have gq3 := x3.c _ _ g2
  have d3 := dq_ext d x03
  have kd3 := Kd.ext x03 (Nat.le_trans n02 n3)
  have cc := change_c (f := 26) (fi := #[]) (ca := #[ptr q, ptr p]) hg3 u3 _ r3 d3 nm.a nm.l hk lp2 (by omega) (by omega) (Q := fun H' => LgD H' g i m room (k + 1) (n + 40) name { s with term := t, vote := v } ∧ Kd h H') (by
    intro H fl' c' k4 d4
    have hg4 := k4.get d3.at_ hg3 log_ne
    have gp4 := k4.get d3.at_ gp3 (by show (22 : TypeId) ≠ 68; decide)
    have gq4 := k4.get d3.at_ gq3 (by show (25 : TypeId) ≠ 68; decide)
    show ACalls _ _ [ptr q, ptr p] _ _
    refine (set1_c p q t v gp4 gq4 hg4).mono ?_
    rintro _ H' rfl
    have kg : Kg g H (H.set g (logB (ptr i) name { s with term := t, vote := v } lv)) := Kg.set _ _
    have kd := kd3.trans ((k4.kd d3.at_).trans (kg.kd hg4 rfl))
    have hne : i ≠ g := fun e => by subst e; rw [d3.at_.box] at hg3; cases hg3
    refine ⟨⟨⟨lv, rows, Heap.set_at _ _ _, r.kd kd, e.kd kd⟩, ⟨fl', c', at_kg d4.at_ kg hne, d4.k, by have := d4.n; omega⟩, ?_⟩, kd⟩
    exact ⟨h3, h4, a.ok.b, a.ok.b0, a.ok.n, a.ok.e⟩)
  refine TAL.w rfl rfl rfl (op_call rfl rfl (cc.mono ?_))
  rintro _ H5 ⟨rfl, q5⟩
  repeat (first | refine TAL.p rfl rfl rfl (fun h' hn => op_assignI rfl ⟨rfl, rfl⟩) ?_)
  refine TAL.nil ?_
  repeat (first | refine AWp.ret ?_)
  exact ⟨_, ResV.tmp rfl, rfl, q5⟩
set_option maxHeartbeats 4000000 in
theorem set_bad (a : LgD h g i m room k n name s) (t v : Nat) (h1 : t < s.term) :
    ACalls Try.prog 9 [ptr g, .agg #[nt t, nt v]] h fun u h' => u = .int .i64 2 ∧ h' = h := by
  refine ACalls.wf fun wf => ACalls.reset ?_
  obtain ⟨lv, rows, hg, r, e⟩ := a.ex
  refine ACalls.body Try.func9 rfl rfl ?_
  repeat (first | refine AWp.seq ?_ | refine AWp.region ?_)
  refine AL.set rfl rfl (op_box (v := ptr g) rfl (by intro e; cases e) ?_)
  have g1 := Heap.alloc_new h (lgB g)
  have x1 := wf.ext (lgB g)
  have w1 := wf.alloc (lgB g)
  refine AL.heap (h := h.alloc (lgB g)) rfl ?_
  generalize h.next = p at g1 ⊢
  generalize h.alloc (lgB g) = H1 at g1 x1 w1 ⊢
  refine AL.set rfl rfl (op_box (v := .agg #[nt t, nt v]) rfl (by intro e; cases e) ?_)
  have g2 := Heap.alloc_new H1 ⟨[nt t, nt v], 25, true⟩
  have x2 := w1.ext ⟨[nt t, nt v], 25, true⟩
  refine AL.heap (h := H1.alloc ⟨[nt t, nt v], 25, true⟩) rfl ?_
  generalize H1.next = q at g2 ⊢
  generalize H1.alloc ⟨[nt t, nt v], 25, true⟩ = H2 at g2 x2 ⊢
  have x02 := x1.trans x2
  have hg2 := x02.c _ _ hg
  have gp2 := x2.c _ _ g1
  have ci := fun (h' : Heap) (hx : Ext H2 h') => is_c (hx.c _ _ hg2)
  have cw := fun (h' : Heap) (hx : Ext H2 h') => wrong_low (hx.c _ _ hg2) t v h1
  have cr := fun (h' : Heap) (hx : Ext H2 h') => ready_c (hx.c _ _ hg2) false
  repeat (first | refine AL.nil ?_ | refine AWp.seq ?_ | refine AL.set rfl rfl (op_assignI rfl ?_))
  refine AWp.drawR mixedT (by kernel_rfl) ?_
  repeat (first | refine DAL.r rfl rfl rfl (fun h' hx hn => op_moveB rfl ⟨rfl, rfl⟩) ?_ | refine DAL.r rfl rfl rfl (fun h' hx hn => op_assignI rfl ⟨rfl, rfl⟩) ?_ | refine DAL.r rfl rfl rfl (fun h' hx hn => op_load rfl rfl (hx.c _ _ gp2) rfl ⟨rfl, rfl⟩) ?_ | refine DAL.r rfl rfl rfl (fun h' hx hn => op_loadA (sz := 2) rfl rfl (hx.c _ _ g2) (by exact Nat.le_of_ble_eq_true rfl) ⟨rfl, rfl⟩) ?_ | refine DAL.r rfl rfl rfl (fun h' hx hn => op_callS rfl rfl (ci h' hx) ⟨rfl, rfl⟩) ?_ | refine DAL.r rfl rfl rfl (fun h' hx hn => op_callS rfl rfl (cw h' hx) ⟨rfl, rfl⟩) ?_ | refine DAL.r rfl rfl rfl (fun h' hx hn => op_callS rfl rfl (cr h' hx) ⟨rfl, rfl⟩) ?_ | refine DAL.r rfl rfl rfl (fun h' hx hn => op_pick (v := .bool _) rfl rfl ⟨rfl, rfl⟩) ?_ | refine DAL.r rfl rfl rfl (fun h' hx hn => op_not rfl ⟨rfl, rfl⟩) ?_)
  refine DAL.nil ?_
  repeat (first | refine AL.nil ?_ | refine AWp.seq ?_ | refine AWp.region ?_ | refine AWp.condT rfl ?_ | refine AWp.ret ?_ | refine AL.set rfl rfl (op_moveI rfl ?_) | refine AL.set rfl rfl (op_assignI rfl ?_) | refine AL.set rfl rfl (op_int rfl rfl rfl ?_))
  exact ⟨_, ResV.tmp rfl, rfl, x02, rfl, rfl⟩
end
end Go.Proofs.Ytnioldkmckmajaa
