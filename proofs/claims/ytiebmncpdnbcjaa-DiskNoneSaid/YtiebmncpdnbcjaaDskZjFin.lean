/-
  DiskTwins.
-/
import Derived.Test.YtiebmncpdnbcjaaDskZhFin
import Derived.Test.YtiebmncpdnbcjaaMrgh
namespace Go.Proofs.Ytiebmncpdnbcjaa
open Go Go.Eng Go.Dsk
attribute [local irreducible] AWp AL DAL AOp TAL

instance : TyD Try.prog 73 (.array 2 3) := ⟨Try.underlying73⟩
instance : TyI Try.prog 73 2 16 (.agg #[.int .i64 0, .int .i64 0]) := ⟨info_of (by kernel_rfl), rfl, rfl⟩
/-- Same, where one of the disks is off. -/
theorem same_off (a b : Option Addr) (p q : Bool) (h : Heap) (hpq : (p && q) = false) (ca : ACalls Try.prog 50 [.pointer a] h fun u h' => u = .bool p ∧ h' = h) (cb : ACalls Try.prog 50 [.pointer b] h fun u h' => u = .bool q ∧ h' = h) :
    ACalls Try.prog 35 [.pointer a, .pointer b] h fun u h' => u = .bool (p == q) ∧ h' = h := by
  refine ACalls.body Try.func35 rfl rfl ?_
  cases p with
  | false =>
    cases q with
    | false =>
      repeat (first | refine AL.nil ?_ | refine AL.skip rfl rfl ?_ | refine AWp.seq ?_ | refine AWp.region ?_ | refine AWp.condT rfl ?_ | refine AWp.ret ?_ | refine AL.set rfl rfl (op_moveB rfl ?_) | refine AL.set rfl rfl (op_moveP rfl ?_) | refine AL.set rfl rfl (op_assignB rfl ?_) | refine AL.set rfl rfl (op_callS rfl rfl ca ?_) | refine AL.set rfl rfl (op_callS rfl rfl cb ?_) | refine AL.set rfl rfl (op_pick (v := .bool _) rfl rfl ?_) | refine AL.set rfl rfl (op_boolEqT rfl rfl rfl ?_) | refine AL.set rfl rfl (op_not rfl ?_))
      exact ⟨_, ResV.tmp rfl, rfl, rfl⟩
    | true =>
      repeat (first | refine AL.nil ?_ | refine AL.skip rfl rfl ?_ | refine AWp.seq ?_ | refine AWp.region ?_ | refine AWp.condT rfl ?_ | refine AWp.ret ?_ | refine AL.set rfl rfl (op_moveB rfl ?_) | refine AL.set rfl rfl (op_moveP rfl ?_) | refine AL.set rfl rfl (op_assignB rfl ?_) | refine AL.set rfl rfl (op_callS rfl rfl ca ?_) | refine AL.set rfl rfl (op_callS rfl rfl cb ?_) | refine AL.set rfl rfl (op_pick (v := .bool _) rfl rfl ?_) | refine AL.set rfl rfl (op_boolEq rfl rfl ?_) | refine AL.set rfl rfl (op_not rfl ?_))
      exact ⟨_, ResV.tmp rfl, rfl, rfl⟩
  | true =>
    cases q with
    | false =>
      repeat (first | refine AL.nil ?_ | refine AWp.seq ?_ | refine AWp.region ?_ | refine AWp.condT rfl ?_ | refine AWp.ret ?_ | refine AL.set rfl rfl (op_moveB rfl ?_) | refine AL.set rfl rfl (op_moveP rfl ?_) | refine AL.set rfl rfl (op_assignB rfl ?_) | refine AL.set rfl rfl (op_callS rfl rfl ca ?_) | refine AL.set rfl rfl (op_callS rfl rfl cb ?_) | refine AL.set rfl rfl (op_pick (v := .bool _) rfl rfl ?_) | refine AL.set rfl rfl (op_boolEq rfl rfl ?_) | refine AL.set rfl rfl (op_not rfl ?_))
      exact ⟨_, ResV.tmp rfl, rfl, rfl⟩
    | true => cases hpq
theorem rsame_nn (h : Heap) : ACalls Try.prog 36 [.pointer none, .pointer none] h fun u h' => u = .bool true ∧ h' = h := by
  refine ACalls.body Try.func36 rfl rfl ?_
  repeat (first | refine AL.nil ?_ | refine AL.skip rfl rfl ?_ | refine AWp.seq ?_ | refine AWp.region ?_ | refine AWp.condT rfl ?_ | refine AWp.ret ?_ | refine AL.set rfl rfl (op_moveB rfl ?_) | refine AL.set rfl rfl (op_moveP rfl ?_) | refine AL.set rfl rfl (op_assignB rfl ?_) | refine AL.set rfl rfl (op_eqPtrNil rfl rfl ?_) | refine AL.set rfl rfl (op_pick (v := .bool _) rfl rfl ?_))
  exact ⟨_, ResV.tmp rfl, rfl, rfl⟩
theorem rsame_np (i : Nat) (h : Heap) : ACalls Try.prog 36 [.pointer none, ptr i] h fun u h' => u = .bool false ∧ h' = h := by
  refine ACalls.body Try.func36 rfl rfl ?_
  repeat (first | refine AL.nil ?_ | refine AL.skip rfl rfl ?_ | refine AWp.seq ?_ | refine AWp.region ?_ | refine AWp.condT rfl ?_ | refine AWp.ret ?_ | refine AL.set rfl rfl (op_moveB rfl ?_) | refine AL.set rfl rfl (op_moveP rfl ?_) | refine AL.set rfl rfl (op_assignB rfl ?_) | refine AL.set rfl rfl (op_eqPtrNil rfl rfl ?_) | refine AL.set rfl rfl (op_pick (v := .bool _) rfl rfl ?_))
  exact ⟨_, ResV.tmp rfl, rfl, rfl⟩
theorem rsame_pn (i : Nat) (h : Heap) : ACalls Try.prog 36 [ptr i, .pointer none] h fun u h' => u = .bool false ∧ h' = h := by
  refine ACalls.body Try.func36 rfl rfl ?_
  repeat (first | refine AL.nil ?_ | refine AL.skip rfl rfl ?_ | refine AWp.seq ?_ | refine AWp.region ?_ | refine AWp.condT rfl ?_ | refine AWp.ret ?_ | refine AL.set rfl rfl (op_moveB rfl ?_) | refine AL.set rfl rfl (op_moveP rfl ?_) | refine AL.set rfl rfl (op_assignB rfl ?_) | refine AL.set rfl rfl (op_eqPtrNil rfl rfl ?_) | refine AL.set rfl rfl (op_pick (v := .bool _) rfl rfl ?_))
  exact ⟨_, ResV.tmp rfl, rfl, rfl⟩
theorem sm_perm {l l' : FL} {F F' : List RF} (m : Sm l F) (m' : Sm l' F') : (flat l).Perm (flat l') ↔ F.Perm F' := ⟨fun p => (m.symm.trans p).trans m', fun p => (m.trans p).trans m'.symm⟩
theorem share1 {P : Heap → Prop} {G : Prop} (C : Heap → Prop) (main : (∀ H, C H → P H) → G) (tail : ∀ H, C H → P H) : G := main tail
theorem At.extJ {H H' : Heap} {i m room : Nat} {l : FL} {c : Nat} (a : At H i m room l c) (hx : Ext H H') : At H' i m room l c := ⟨hx.c _ _ a.box, hx.o _ _ a.map, a.ok, a.big⟩
abbrev roomB (a b : Int) : Blk := ⟨[.int .i64 a, .int .i64 b], 73, true⟩
set_option maxHeartbeats 8000000 in
set_option maxRecDepth 4000 in
theorem twins_walk (ra rb : Int) (lv : Value) (L : List StepT) (mv : Value) (M : List StepT) (x : StepT) (h : Heap) (r : Steps h lv L) (r2 : Steps h mv M) (hx : StepIn h x) :
    ACalls Try.prog 9 [.agg #[.int .i64 ra, .int .i64 rb], lv, mv, .agg (stepT x).toArray] h fun v _ => v = .bool true := by
  refine ACalls.wf fun wf => ?_
  refine ACalls.body Try.func9 rfl rfl ?_
  repeat (first | refine AWp.seq ?_ | refine AWp.region ?_)
  refine AL.set rfl rfl (op_box (v := .agg #[.int .i64 ra, .int .i64 rb]) rfl (by intro e; cases e) ?_)
  refine AL.heap (show _ = h.alloc (roomB ra rb) from rfl) ?_
  have hx1 := wf.ext (roomB ra rb)
  have wf1 := wf.alloc (roomB ra rb)
  have g1 := Heap.alloc_new h (roomB ra rb)
  generalize h.next = b4 at g1 ⊢
  generalize h.alloc (roomB ra rb) = H1 at hx1 wf1 g1 ⊢
  refine AL.set rfl rfl (op_box (v := .agg (stepT x).toArray) rfl (by intro e; cases e) ?_)
  refine AL.heap (show _ = H1.alloc (stepB x.2.1 x.2.2 x.1) from rfl) ?_
  have hx2 := wf1.ext (stepB x.2.1 x.2.2 x.1)
  have wf2 := wf1.alloc (stepB x.2.1 x.2.2 x.1)
  have g2 := Heap.alloc_new H1 (stepB x.2.1 x.2.2 x.1)
  replace g1 := hx2.c _ _ g1
  generalize H1.next = b7 at g2 ⊢
  generalize H1.alloc (stepB x.2.1 x.2.2 x.1) = H2 at hx2 wf2 g1 g2 ⊢
  have hh2 : Ext h H2 := hx1.trans hx2
  replace r := r.ext hh2
  replace r2 := r2.ext hh2
  replace hx := hx.ext hh2
  clear hx1 hx2 hh2 wf1
  repeat (first | refine AL.nil ?_ | refine AWp.seq ?_ | refine AWp.region ?_ | refine AL.set rfl rfl (op_assignB rfl ?_) | refine AL.set rfl rfl (op_move (by conv => lhs; whnf) ?_))
  refine AL.set rfl rfl (op_call rfl rfl ((much_c lv L 30 H2 r).mono ?_))
  rintro _ H0 ⟨q, rfl, hH0, hq⟩
  cases hH0.symm
  cases q with
  | true =>
    repeat (first | refine AL.nil ?_ | refine AL.skip rfl rfl ?_ | refine AWp.seq ?_ | refine AWp.region ?_ | refine AWp.condT rfl ?_ | refine AWp.ret ?_ | refine AL.set rfl rfl (op_moveB rfl ?_) | refine AL.set rfl rfl (op_assignB rfl ?_) | refine AL.set rfl rfl (op_pick (v := .bool _) rfl rfl ?_) | refine AL.set rfl rfl (op_callS rfl rfl (known_c H2) ?_))
    exact ⟨_, ResV.tmp rfl, rfl⟩
  | false =>
  obtain ⟨_, hf⟩ := hq rfl
  repeat (first | refine AL.set rfl rfl (op_moveB rfl ?_) | refine AL.set rfl rfl (op_move (by conv => lhs; whnf) ?_))
  refine AL.set rfl rfl (op_call rfl rfl ((much_c mv M 30 H2 r2).mono ?_))
  rintro _ H0 ⟨q, rfl, hH0, hq2⟩
  cases hH0.symm
  cases q with
  | true =>
    repeat (first | refine AL.nil ?_ | refine AL.skip rfl rfl ?_ | refine AWp.seq ?_ | refine AWp.region ?_ | refine AWp.condT rfl ?_ | refine AWp.ret ?_ | refine AL.set rfl rfl (op_moveB rfl ?_) | refine AL.set rfl rfl (op_assignB rfl ?_) | refine AL.set rfl rfl (op_pick (v := .bool _) rfl rfl ?_) | refine AL.set rfl rfl (op_callS rfl rfl (known_c H2) ?_))
    exact ⟨_, ResV.tmp rfl, rfl⟩
  | false =>
  obtain ⟨_, hf2⟩ := hq2 rfl
  have hpr : PR H2 (ptr b7) (stepT x) := ⟨b7, 0, none, _, rfl, g2, Nat.le_refl 5, rfl⟩
  repeat (first | refine AL.set rfl rfl (op_moveB rfl ?_) | refine AL.set rfl rfl (op_pick (v := .bool _) rfl rfl ?_) | refine AL.set rfl rfl (op_loadN hpr rfl rfl rfl ?_))
  refine AL.set rfl rfl (op_rowN1 (by show 5 ≤ 16777216; decide) (by show 0 < 5; decide) rfl rfl ?_)
  refine AL.heap (show _ = H2.alloc ⟨stepT x, 41, true⟩ from rfl) ?_
  have hx3 := wf2.ext ⟨stepT x, 41, true⟩
  have wf3 := wf2.alloc ⟨stepT x, 41, true⟩
  have g3 := Heap.alloc_new H2 ⟨stepT x, 41, true⟩
  generalize hn2 : H2.next = n2 at g3 ⊢
  generalize H2.alloc ⟨stepT x, 41, true⟩ = H3 at hx3 wf3 g3 ⊢
  replace r := r.ext hx3
  replace r2 := r2.ext hx3
  replace hx := hx.ext hx3
  replace g1 := hx3.c _ _ g1
  replace g2 := hx3.c _ _ g2
  have r3 : Steps H3 (.slice (some ⟨n2, 0, some 5⟩) 1 1) [x] := ⟨RN.own (rows := [stepT x]) (by intro r hr; rw [List.mem_singleton.1 hr]; rfl) (by simpa using g3) rfl, by simp, fun t ht => by rw [List.mem_singleton.1 ht]; exact hx⟩
  clear hpr hn2 hx3 wf2
  skip
  refine AL.set rfl rfl (op_call rfl rfl ((much_c _ [x] 1 H3 r3).mono ?_))
  rintro _ H0 ⟨q, rfl, hH0, hq3⟩
  cases hH0.symm
  cases q with
  | true =>
    repeat (first | refine AL.nil ?_ | refine AWp.seq ?_ | refine AWp.region ?_ | refine AWp.condT rfl ?_ | refine AWp.ret ?_ | refine AL.set rfl rfl (op_assignB rfl ?_) | refine AL.set rfl rfl (op_pick (v := .bool _) rfl rfl ?_) | refine AL.set rfl rfl (op_callS rfl rfl (known_c H3) ?_))
    exact ⟨_, ResV.tmp rfl, rfl⟩
  | false =>
  have hfew := (hq3 rfl).2 x (List.mem_singleton.2 rfl)
  clear hq3 r3 g3
  have cnn (H : Heap) : ACalls Try.prog 35 [.pointer none, .pointer none] H fun u h' => u = .bool true ∧ h' = H := same_off none none false false H rfl (on_nil H) (on_nil H)
  have cnp (H : Heap) (i m rm : Nat) (l : FL) (c : Nat) (a : At H i m rm l c) : ACalls Try.prog 35 [.pointer none, ptr i] H fun u h' => u = .bool false ∧ h' = H := same_off none _ false true H rfl (on_nil H) (on_c i rm (used l : Nat) (some m) H a.box)
  have cpn (H : Heap) (i m rm : Nat) (l : FL) (c : Nat) (a : At H i m rm l c) : ACalls Try.prog 35 [ptr i, .pointer none] H fun u h' => u = .bool false ∧ h' = H := same_off _ none true false H rfl (on_c i rm (used l : Nat) (some m) H a.box) (on_nil H)
  have cself (H : Heap) (i m rm : Nat) (l : FL) (c : Nat) (a : At H i m rm l c) : ACalls Try.prog 35 [ptr i, ptr i] H fun u h' => u = .bool true ∧ h' = H := (same_c i m rm l c i m rm l c H a a).mono fun u h' ⟨⟨b, e1, e2⟩, e3⟩ => ⟨by rw [e1, e2.2 ⟨rfl, List.Perm.refl _⟩], e3⟩
  repeat (first | refine AL.nil ?_ | refine AWp.seq ?_ | refine AWp.region ?_ | refine AWp.condF rfl ?_ | refine AWp.skip ?_ | refine AL.set rfl rfl (op_pick (v := .bool _) rfl rfl ?_) | refine AL.set rfl rfl (op_indexA rfl rfl (by decide) (by decide) ?_) | refine AL.set rfl rfl (op_load rfl rfl g1 rfl ?_) | refine AL.set rfl rfl (op_move (by conv => lhs; whnf) ?_))
  refine AL.set rfl rfl (op_call rfl rfl ((made_c ra lv L H3 r hf).mono ?_))
  rintro _ H4 (⟨hn, rfl, hH⟩ | ⟨rm, rfl, hn, i, m, l, c, j, v, rfl, z⟩)
  · cases hH.symm
    repeat (first | refine AL.nil ?_ | refine AWp.seq ?_ | refine AWp.region ?_ | refine AL.set rfl rfl (op_moveT rfl ?_) | refine AL.set rfl rfl (op_assignP rfl ?_) | refine AL.set rfl rfl (op_extract rfl rfl ?_) | refine AL.set rfl rfl (op_indexA rfl rfl (by decide) (by decide) ?_) | refine AL.set rfl rfl (op_load rfl rfl g1 rfl ?_) | refine AL.set rfl rfl (op_move (by conv => lhs; whnf) ?_))
    refine AL.set rfl rfl (op_call rfl rfl ((made_c rb mv M H3 r2 hf2).mono ?_))
    rintro _ H5 (⟨hn2, rfl, hH⟩ | ⟨rm2, rfl, hn2, i2, m2, l2, c2, j2, v2, rfl, y⟩)
    · cases hH.symm
      repeat (first | refine AL.nil ?_ | refine AWp.seq ?_ | refine AWp.region ?_ | refine AWp.condT rfl ?_ | refine AWp.condF rfl ?_ | refine AWp.ret ?_ | refine AWp.skip ?_ | refine AL.set rfl rfl (op_moveB rfl ?_) | refine AL.set rfl rfl (op_moveP rfl ?_) | refine AL.set rfl rfl (op_moveT rfl ?_) | refine AL.set rfl rfl (op_assignB rfl ?_) | refine AL.set rfl rfl (op_assignP rfl ?_) | refine AL.set rfl rfl (op_extract rfl rfl ?_) | refine AL.set rfl rfl (op_callS rfl rfl (cnn H3) ?_) | refine AL.set rfl rfl (op_callS rfl rfl (rsame_nn H3) ?_) | refine AL.set rfl rfl (op_boolNeF rfl rfl rfl ?_) | refine AL.set rfl rfl (op_not rfl ?_) | refine AL.set rfl rfl (op_pick (v := .bool _) rfl rfl ?_) | refine AL.set rfl rfl (op_eqPtrNil rfl rfl ?_) | refine AL.set rfl rfl (op_indexA rfl rfl (by decide) (by decide) ?_) | refine AL.set rfl rfl (op_load rfl rfl g1 rfl ?_) | refine AL.set rfl rfl (op_callS rfl rfl (rnew_no ra H3 hn) ?_) | refine AL.set rfl rfl (op_callS rfl rfl (known_c H3) ?_))
      exact ⟨_, ResV.tmp rfl, rfl⟩
    · have g5 := y.ext.c _ _ g1
      repeat (first | refine AL.nil ?_ | refine AWp.seq ?_ | refine AWp.region ?_ | refine AWp.condT rfl ?_ | refine AWp.condF rfl ?_ | refine AWp.ret ?_ | refine AWp.skip ?_ | refine AL.set rfl rfl (op_moveB rfl ?_) | refine AL.set rfl rfl (op_moveP rfl ?_) | refine AL.set rfl rfl (op_moveT rfl ?_) | refine AL.set rfl rfl (op_assignB rfl ?_) | refine AL.set rfl rfl (op_assignP rfl ?_) | refine AL.set rfl rfl (op_extract rfl rfl ?_) | refine AL.set rfl rfl (op_callS rfl rfl (cnp H5 i2 m2 rm2 l2 c2 y.dk) ?_) | refine AL.set rfl rfl (op_callS rfl rfl (cpn H5 i2 m2 rm2 l2 c2 y.dk) ?_) | refine AL.set rfl rfl (op_callS rfl rfl (cnn H5) ?_) | refine AL.set rfl rfl (op_callS rfl rfl (rsame_np j2 H5) ?_) | refine AL.set rfl rfl (op_boolNeF rfl rfl rfl ?_) | refine AL.set rfl rfl (op_not rfl ?_) | refine AL.set rfl rfl (op_pick (v := .bool _) rfl rfl ?_) | refine AL.set rfl rfl (op_eqPtrNil rfl rfl ?_) | refine AL.set rfl rfl (op_indexA rfl rfl (by decide) (by decide) ?_) | refine AL.set rfl rfl (op_load rfl rfl g5 rfl ?_) | refine AL.set rfl rfl (op_callS rfl rfl (rnew_no ra H5 hn) ?_) | refine AL.set rfl rfl (op_callS rfl rfl (known_c H5) ?_))
      exact ⟨_, ResV.tmp rfl, rfl⟩
  generalize runF rm L = F at z
  have hrm := z.dk.big
  have g4 := z.ext.c _ _ g1
  repeat (first | refine AL.nil ?_ | refine AWp.seq ?_ | refine AWp.region ?_ | refine AL.set rfl rfl (op_moveT rfl ?_) | refine AL.set rfl rfl (op_assignP rfl ?_) | refine AL.set rfl rfl (op_extract rfl rfl ?_) | refine AL.set rfl rfl (op_indexA rfl rfl (by decide) (by decide) ?_) | refine AL.set rfl rfl (op_load rfl rfl g4 rfl ?_) | refine AL.set rfl rfl (op_move (by conv => lhs; whnf) ?_))
  apply share1 (C := fun H => St H3 H rm i m l c j v F)
  · intro tail
    refine AL.set rfl rfl (op_call rfl rfl ((made_c rb mv M H4 (r2.ext z.ext) hf2).mono ?_))
    rintro _ H5 (⟨hn2, rfl, hH⟩ | ⟨rm2, rfl, hn2, i2, m2, l2, c2, j2, v2, rfl, y⟩)
    · cases hH.symm
      repeat (first | refine AL.nil ?_ | refine AWp.seq ?_ | refine AWp.region ?_ | refine AWp.condF rfl ?_ | refine AWp.skip ?_ | refine AL.set rfl rfl (op_moveB rfl ?_) | refine AL.set rfl rfl (op_moveP rfl ?_) | refine AL.set rfl rfl (op_moveT rfl ?_) | refine AL.set rfl rfl (op_assignP rfl ?_) | refine AL.set rfl rfl (op_extract rfl rfl ?_) | refine AL.set rfl rfl (op_callS rfl rfl (cpn H4 i m rm l c z.dk) ?_) | refine AL.set rfl rfl (op_callS rfl rfl (cnp H4 i m rm l c z.dk) ?_) | refine AL.set rfl rfl (op_callS rfl rfl (cself H4 i m rm l c z.dk) ?_) | refine AL.set rfl rfl (op_callS rfl rfl (rsame_pn j H4) ?_) | refine AL.set rfl rfl (op_boolNeF rfl rfl rfl ?_) | refine AL.set rfl rfl (op_not rfl ?_) | refine AL.set rfl rfl (op_pick (v := .bool _) rfl rfl ?_) | refine AL.set rfl rfl (op_eqPtrNil rfl rfl ?_) | refine AL.set rfl rfl (op_nePtrNil rfl rfl ?_) | refine AL.set rfl rfl (op_indexA rfl rfl (by decide) (by decide) ?_) | refine AL.set rfl rfl (op_load rfl rfl g4 rfl ?_) | refine AL.set rfl rfl (op_callS rfl rfl (rnew_no rb H4 hn2) ?_))
      exact AL.drop (env0 := [(4, ptr b4), (7, ptr b7), (9, ptr i), (10, ptr j), (83, ptr i)]) (EW.cons rfl (EW.cons rfl (EW.cons rfl (EW.cons rfl (EW.cons rfl EW.nil))))) (tail H4 z)
    · generalize runF rm2 M = F2 at y
      have z5 := z.grow y.ext y.wf
      obtain ⟨bb, hbb⟩ : ∃ bb : Bool, bb = true ↔ (rm = rm2 ∧ F.Perm F2) := by
        by_cases hP : rm = rm2 ∧ F.Perm F2
        · exact ⟨true, ⟨fun _ => hP, fun _ => rfl⟩⟩
        · exact ⟨false, ⟨fun e => (by cases e), fun e => absurd e hP⟩⟩
      have c1 : ACalls Try.prog 35 [ptr i, ptr i2] H5 (fun u h' => u = .bool bb ∧ h' = H5) := (same_c i m rm l c i2 m2 rm2 l2 c2 H5 z5.dk y.dk).mono fun u h' ⟨⟨b, e1, e2⟩, e3⟩ => ⟨by rw [e1, Bool.eq_iff_iff.2 (e2.trans ((and_congr_right fun _ => sm_perm z5.sm y.sm).trans hbb.symm))], e3⟩
      have c2 : ACalls Try.prog 35 [ptr i2, ptr i] H5 (fun u h' => u = .bool bb ∧ h' = H5) := (same_c i2 m2 rm2 l2 c2 i m rm l c H5 y.dk z5.dk).mono fun u h' ⟨⟨b, e1, e2⟩, e3⟩ => ⟨by
        have e4 : b = true ↔ bb = true := e2.trans ⟨fun ⟨p1, p2⟩ => hbb.2 ⟨p1.symm, ((sm_perm y.sm z5.sm).1 p2).symm⟩, fun p => ⟨(hbb.1 p).1.symm, (sm_perm y.sm z5.sm).2 (hbb.1 p).2.symm⟩⟩
        rw [e1, Bool.eq_iff_iff.2 e4], e3⟩
      have c3 : ACalls Try.prog 36 [ptr j, ptr j2] H5 (fun u h' => u = .bool bb ∧ h' = H5) := (rsame_c j j2 rm rm2 v v2 F F2 H5 z5.rk y.rk (Sm.names z5.sm z5.dk.ok.names) (Sm.names y.sm y.dk.ok.names)).mono fun u h' ⟨⟨b, e1, e2⟩, e3⟩ => ⟨by rw [e1, Bool.eq_iff_iff.2 (e2.trans hbb.symm)], e3⟩
      repeat (first | refine AL.nil ?_ | refine AL.skip rfl rfl ?_ | refine AWp.seq ?_ | refine AWp.region ?_ | refine AWp.condF rfl ?_ | refine AWp.skip ?_ | refine AL.set rfl rfl (op_moveB rfl ?_) | refine AL.set rfl rfl (op_moveP rfl ?_) | refine AL.set rfl rfl (op_moveT rfl ?_) | refine AL.set rfl rfl (op_assignP rfl ?_) | refine AL.set rfl rfl (op_extract rfl rfl ?_) | refine AL.set rfl rfl (op_callS rfl rfl c1 ?_) | refine AL.set rfl rfl (op_callS rfl rfl c2 ?_) | refine AL.set rfl rfl (op_callS rfl rfl c3 ?_) | refine AL.set rfl rfl (op_callS rfl rfl (cself H5 i m rm l c z5.dk) ?_) | refine AL.set rfl rfl (op_boolNeF rfl rfl rfl ?_) | refine AL.set rfl rfl (op_not rfl ?_) | refine AL.set rfl rfl (op_pick (v := .bool _) rfl rfl ?_) | refine AL.set rfl rfl (op_eqPtrNil rfl rfl ?_))
      exact AL.drop (env0 := [(4, ptr b4), (7, ptr b7), (9, ptr i), (10, ptr j), (83, ptr i)]) (EW.cons rfl (EW.cons rfl (EW.cons rfl (EW.cons rfl (EW.cons rfl EW.nil))))) (tail H5 z5)
  · intro H z
    have lz := z.dk.lt z.wf
    have lj := z.wf.lt z.rk.box
    have rn0 := z.rk.rn
    have z0 := z
    refine AL.set rfl rfl (op_call rfl rfl ((copy_c i m rm l c H z.dk).mono ?_))
    rintro _ H5 ⟨i', m', l', c', rfl, q1, q2, a5, ⟨q3, _, _⟩, hx5, wf5, n5⟩
    have la5 := a5.lt wf5
    replace z := z.grow hx5 wf5
    repeat (first | refine AL.set rfl rfl (op_moveP rfl ?_))
    refine AL.set rfl rfl (op_call rfl rfl ((rcopy_c j rm v F H5 z.rk).mono ?_))
    rintro _ H6 ⟨j', v', rfl, p1, p2, p3, hx6, wf6, n6⟩
    replace z := z.grow hx6 wf6
    have a6 : At H6 i' m' rm l' c' := ⟨hx6.c _ _ a5.box, hx6.o _ _ a5.map, a5.ok, a5.big⟩
    have ms : Sm l' F := Sm.copy z.sm z.dk.ok.names a5.ok.names q3
    have y : St (strip H6 i' m' j') H6 rm i' m' l' c' j' v' F := ⟨a6, p2, by omega, fun e => by have := p3 _ e; omega, ms, if_pos (.inl rfl), if_pos rfl, if_pos (.inr rfl), strip_ext, wf6⟩
    have hxb : Ext H3 (strip H6 i' m' j') := strip_of z.ext (Ext.free z0.ext z0.wf q1) (Ext.free z0.ext z0.wf (by omega)) (Ext.freeO z0.ext z0.wf q2)
    have ab : At (strip H6 i' m' j') i m rm l c := ⟨strip_get z.dk.box (by omega) (by omega), by
      unfold strip
      simp only
      rw [if_neg (by omega : m ≠ m')]
      exact z.dk.map, z.dk.ok, z.dk.big⟩
    have rb6 : RAt (strip H6 i' m' j') j rm v F := ⟨strip_get z.rk.box (by omega) (by omega), rn0.keep (fun q b _ hb => strip_get (hx6.c _ _ (hx5.c _ _ hb)) (by have := z0.wf.lt hb; omega) (by have := z0.wf.lt hb; omega)), z.rk.cnt, z.rk.big, z.rk.used⟩
    generalize strip H6 i' m' j' = hb at y hxb ab rb6
    have so := (hx.ext hxb).ok hfew
    have g6 := z.ext.c _ _ g2
    have hpr : PR H6 (ptr b7) (stepT x) := ⟨b7, 0, none, _, rfl, g6, Nat.le_refl 5, rfl⟩
    have c1 : ACalls Try.prog 35 [ptr i', ptr i] H6 (fun u h' => u = .bool true ∧ h' = H6) := (same_c i' m' rm l' c' i m rm l c H6 a6 z.dk).mono fun u h' ⟨⟨b, e1, e2⟩, e3⟩ => ⟨by rw [e1, e2.2 ⟨rfl, (sm_perm ms z.sm).2 (List.Perm.refl _)⟩], e3⟩
    repeat (first | refine AL.nil ?_ | refine AWp.seq ?_ | refine AWp.region ?_ | refine AWp.condF rfl ?_ | refine AWp.skip ?_ | refine AL.set rfl rfl (op_moveB rfl ?_) | refine AL.set rfl rfl (op_moveP rfl ?_) | refine AL.set rfl rfl (op_assignP rfl ?_) | refine AL.set rfl rfl (op_eqPtrNil rfl rfl ?_) | refine AL.set rfl rfl (op_callS rfl rfl c1 ?_) | refine AL.set rfl rfl (op_not rfl ?_) | refine AL.set rfl rfl (op_pick (v := .bool _) rfl rfl ?_) | refine AL.set rfl rfl (op_loadN hpr rfl rfl rfl ?_))
    refine AL.set rfl rfl (op_call rfl rfl ((do_c hb H6 rm i' m' l' c' j' v' F x.2.1 x.2.2 x.1 y so).mono ?_))
    rintro _ H7 ⟨i2, m2, l2, c2, j2, v2, rfl, y2⟩
    replace ab : At H7 i m rm l c := ⟨y2.ext.c _ _ ab.box, y2.ext.o _ _ ab.map, ab.ok, ab.big⟩
    replace rb6 := rb6.ext y2.ext
    have g7 := y2.ext.c _ _ (hxb.c _ _ g1)
    have zsm := z.sm
    clear c1 hpr g6 so a6 a5 y z z0 hxb p2 p3
    generalize stepF rm F x.1 = F2 at y2
    obtain ⟨bb, hbb⟩ : ∃ bb : Bool, bb = true ↔ F2.Perm F := by
      by_cases hP : F2.Perm F
      · exact ⟨true, ⟨fun _ => hP, fun _ => rfl⟩⟩
      · exact ⟨false, ⟨fun e => (by cases e), fun e => absurd e hP⟩⟩
    have c4 (H : Heap) (e : Ext H7 H) : ACalls Try.prog 35 [ptr i2, ptr i] H (fun u h' => u = .bool bb ∧ h' = H) := (same_c i2 m2 rm l2 c2 i m rm l c H ⟨e.c _ _ y2.dk.box, e.o _ _ y2.dk.map, y2.dk.ok, y2.dk.big⟩ ⟨e.c _ _ ab.box, e.o _ _ ab.map, ab.ok, ab.big⟩).mono fun u h' ⟨⟨b, e1, e2⟩, e3⟩ => ⟨by rw [e1, Bool.eq_iff_iff.2 (e2.trans ⟨fun p => hbb.2 ((sm_perm y2.sm zsm).1 p.2), fun p => ⟨rfl, (sm_perm y2.sm zsm).2 (hbb.1 p)⟩⟩)], e3⟩
    have c5 (H : Heap) (e : Ext H7 H) : ACalls Try.prog 36 [ptr j2, ptr j] H (fun u h' => u = .bool bb ∧ h' = H) := (rsame_c j2 j rm rm v2 v F2 F H (y2.rk.ext e) (rb6.ext e) (Sm.names y2.sm y2.dk.ok.names) (Sm.names zsm ab.ok.names)).mono fun u h' ⟨⟨b, e1, e2⟩, e3⟩ => ⟨by rw [e1, Bool.eq_iff_iff.2 (e2.trans ⟨fun p => hbb.2 p.2, fun p => ⟨rfl, hbb.1 p⟩⟩)], e3⟩
    repeat (first | refine AL.nil ?_ | refine AWp.seq ?_ | refine AL.set rfl rfl (op_moveT rfl ?_) | refine AL.set rfl rfl (op_assignB rfl ?_) | refine AL.set rfl rfl (op_assignP rfl ?_) | refine AL.set rfl rfl (op_extract rfl rfl ?_))
    refine AWp.draw (σ := [(0, .R), (1, .R), (2, .R), (3, .R), (4, .R), (5, .R), (6, .R), (7, .R), (8, .R), (9, .R), (10, .X), (11, .R), (12, .R), (13, .R), (14, .R), (15, .R), (16, .R), (17, .R), (18, .X), (19, .R), (20, .R), (21, .R), (22, .R), (23, .R), (24, .R), (25, .R), (26, .R), (27, .R), (28, .R), (29, .R), (30, .R), (31, .R), (32, .R), (33, .R)]) mixed (by kernel_rfl) ?_
    repeat (first | refine DAL.r rfl rfl rfl (fun h' hx hn => op_moveB rfl ⟨rfl, rfl⟩) ?_ | refine DAL.r rfl rfl rfl (fun h' hx hn => op_moveP rfl ⟨rfl, rfl⟩) ?_ | refine DAL.r rfl rfl rfl (fun h' hx hn => op_nePtrNil rfl rfl ⟨rfl, rfl⟩) ?_ | refine DAL.r rfl rfl rfl (fun h' hx hn => op_pick (v := .bool _) rfl rfl ⟨rfl, rfl⟩) ?_ | refine DAL.r rfl rfl rfl (fun h' hx hn => op_indexA rfl rfl (by decide) (by decide) ⟨rfl, rfl⟩) ?_ | refine DAL.r rfl rfl rfl (fun h' hx hn => op_load rfl rfl (hx.c _ _ g7) rfl ⟨rfl, rfl⟩) ?_)
    refine DAL.x rfl rfl rfl (op_call rfl rfl ((files_c j rm v F H7 rb6 (Sm.names zsm ab.ok.names)).mono ?_))
    rintro u8 H8 ⟨G, oG, pG, rG, hx8, wf8, _⟩
    refine ⟨hx8, ?_⟩
    obtain ⟨ua, uc, rfl⟩ := oG.rn.slice
    have rGn := oG.rn
    generalize (G.map rowR).length = gn at rGn ⊢
    clear oG
    repeat (first | refine DAL.r rfl rfl rfl (fun h' hx hn => op_moveB rfl ⟨rfl, rfl⟩) ?_ | refine DAL.r rfl rfl rfl (fun h' hx hn => op_moveP rfl ⟨rfl, rfl⟩) ?_ | refine DAL.r rfl rfl rfl (fun h' hx hn => op_callS rfl rfl (has_c i m rm l c (.slice ua gn uc) G h' (At.extJ ab (hx8.trans hx)) ⟨zsm.trans pG.symm, rG⟩ (rGn.ext hx)) ⟨rfl, rfl⟩) ?_ | refine DAL.r rfl rfl rfl (fun h' hx hn => op_pick (v := .bool _) rfl rfl ⟨rfl, rfl⟩) ?_ | refine DAL.r rfl rfl rfl (fun h' hx hn => op_indexA rfl rfl (by decide) (by decide) ⟨rfl, rfl⟩) ?_ | refine DAL.r rfl rfl rfl (fun h' hx hn => op_load rfl rfl (hx.c _ _ (hx8.c _ _ g7)) rfl ⟨rfl, rfl⟩) ?_)
    refine DAL.x rfl rfl rfl (op_call rfl rfl ((files_c j2 rm v2 F2 H8 (y2.rk.ext hx8) (Sm.names y2.sm y2.dk.ok.names)).mono ?_))
    rintro u9 H9 ⟨G2, oG2, pG2, rG2, hx9, wf9, _⟩
    refine ⟨hx9, ?_⟩
    obtain ⟨ub, ud, rfl⟩ := oG2.rn.slice
    have rGn2 := oG2.rn
    generalize (G2.map rowR).length = gn2 at rGn2 ⊢
    clear oG2
    repeat (first | refine DAL.r rfl rfl rfl (fun h' hx hn => op_moveB rfl ⟨rfl, rfl⟩) ?_ | refine DAL.r rfl rfl rfl (fun h' hx hn => op_moveP rfl ⟨rfl, rfl⟩) ?_ | refine DAL.r rfl rfl rfl (fun h' hx hn => op_assignB rfl ⟨rfl, rfl⟩) ?_ | refine DAL.r rfl rfl rfl (fun h' hx hn => op_callS rfl rfl (has_c i2 m2 rm l2 c2 (.slice ub gn2 ud) G2 h' (At.extJ y2.dk ((hx8.trans hx9).trans hx)) ⟨y2.sm.trans pG2.symm, rG2⟩ (rGn2.ext hx)) ⟨rfl, rfl⟩) ?_ | refine DAL.r rfl rfl rfl (fun h' hx hn => op_pick (v := .bool _) rfl rfl ⟨rfl, rfl⟩) ?_ | refine DAL.r rfl rfl rfl (fun h' hx hn => op_callS rfl rfl (c4 h' ((hx8.trans hx9).trans hx)) ⟨rfl, rfl⟩) ?_ | refine DAL.r rfl rfl rfl (fun h' hx hn => op_callS rfl rfl (c5 h' ((hx8.trans hx9).trans hx)) ⟨rfl, rfl⟩) ?_ | refine DAL.r rfl rfl rfl (fun h' hx hn => op_boolEqT rfl rfl rfl ⟨rfl, rfl⟩) ?_ | refine DAL.r rfl rfl rfl (fun h' hx hn => op_callS rfl rfl (known_c h') ⟨rfl, rfl⟩) ?_)
    refine DAL.nil ?_
    repeat (first | refine AWp.ret ?_)
    exact ⟨_, ResV.tmp rfl, rfl⟩
end Go.Proofs.Ytiebmncpdnbcjaa
