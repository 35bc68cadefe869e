/-
  disk.Same; a crash, whatever it is told.
-/
import Derived.Test.YtiebmncpdnbcjaaMrgh
import Derived.Test.YtiebmncpdnbcjaaMrgf
namespace Go.Proofs.Ytiebmncpdnbcjaa
open Go Go.Eng Go.Dsk
attribute [local irreducible] AWp AL DAL AOp TAL

instance : FnC Try.prog 35 := ⟨Try.f35, Try.func35, by kernel_rfl, by kernel_rfl⟩
instance : EqD Try.prog 86 [(0, .string), (1, .string)] := ⟨_, Try.underlying86, by kernel_rfl, by kernel_rfl, by kernel_rfl⟩
abbrev fileR (f : File) : List Value := [.string (bstr f.1), .string (bstr f.2)]
theorem eqFile_eq (f g : File) : eqRows [(0, .string), (1, .string)] (fileR f) (fileR g) = decide (f = g) := by
  show (eqV (.string (bstr f.1)) (.string (bstr g.1)) && (eqV (.string (bstr f.2)) (.string (bstr g.2)) && true)) = _
  rw [eqV_str, eqV_str, Bool.eq_iff_iff, decide_eq_true_iff]
  obtain ⟨a, b⟩ := f
  obtain ⟨a', b'⟩ := g
  simp
/-- Two disks on their way. -/
structure SW (h : Heap) (it m0 c : Nat) (l l' : FL) (seen : List Nat) (H : Heap) (clk : Nat) : Prop where
  it : H.obj it = some (.mapIter (some m0) c seen clk)
  clk : c ≤ clk
  ext : Ext h H
  wf : WF H
  ok : ∀ e ∈ l, e.2.2 ∈ seen → getS l' e.1 = some e.2.1
set_option maxHeartbeats 4000000 in
theorem same_c (i m room : Nat) (l : FL) (c : Nat) (i' m' room' : Nat) (l' : FL) (c' : Nat) (h : Heap) (a : At h i m room l c) (a' : At h i' m' room' l' c') :
    ACalls Try.prog 35 [ptr i, ptr i'] h fun u h' => (∃ b, u = .bool b ∧ (b = true ↔ (room = room' ∧ (flat l).Perm (flat l')))) ∧ h' = h := by
  refine ACalls.wf fun wf => ACalls.reset ?_
  refine ACalls.body Try.func35 rfl rfl ?_
  have hk1 : (kvF l).length = l.length := kvF_length l
  have hk2 : (kvF l').length = l'.length := kvF_length l'
  repeat (first | refine AL.nil ?_ | refine AWp.seq ?_ | refine AWp.region ?_ | refine AWp.condF rfl ?_ | refine AWp.skip ?_ | refine AL.set rfl rfl (op_moveB rfl ?_) | refine AL.set rfl rfl (op_moveP rfl ?_) | refine AL.set rfl rfl (op_assignB rfl ?_) | refine AL.set rfl rfl (op_callS rfl rfl (on_c i room (used l : Nat) (some m) h a.box) ?_) | refine AL.set rfl rfl (op_callS rfl rfl (on_c i' room' (used l' : Nat) (some m') h a'.box) ?_) | refine AL.set rfl rfl (op_pick (v := .bool _) rfl rfl ?_) | refine AL.set rfl rfl (op_not rfl ?_))
  by_cases hr : room = room'
  rotate_left
  · refine AWp.draw (σ := [(0, .R), (1, .R), (2, .R), (3, .R), (4, .R), (5, .R), (6, .R), (7, .R), (8, .R), (9, .R), (10, .R), (11, .R), (12, .R), (13, .R), (14, .R), (15, .R), (16, .R), (17, .R), (18, .R), (19, .R), (20, .R), (21, .R)]) mixed (by kernel_rfl) ?_
    repeat (first | refine DAL.r rfl rfl rfl (fun h' hx hn => op_moveB rfl ⟨rfl, rfl⟩) ?_ | refine DAL.r rfl rfl rfl (fun h' hx hn => op_moveP rfl ⟨rfl, rfl⟩) ?_ | refine DAL.r rfl rfl rfl (fun h' hx hn => op_nilCheck rfl ⟨rfl, rfl⟩) ?_ | refine DAL.r rfl rfl rfl (fun h' hx hn => op_fa rfl ⟨rfl, rfl⟩) ?_ | refine DAL.r rfl rfl rfl (fun h' hx hn => op_load rfl rfl (hx.c _ _ a.box) rfl ⟨rfl, rfl⟩) ?_ | refine DAL.r rfl rfl rfl (fun h' hx hn => op_load rfl rfl (hx.c _ _ a'.box) rfl ⟨rfl, rfl⟩) ?_ | refine DAL.r rfl rfl rfl (fun h' hx hn => op_intT rfl rfl rfl (by omega) ⟨rfl, rfl⟩) ?_ | refine DAL.r rfl rfl rfl (fun h' hx hn => op_pick (v := .bool _) rfl rfl ⟨rfl, rfl⟩) ?_ | refine DAL.skip rfl rfl rfl ?_)
    refine DAL.nil ?_
    repeat (first | refine AL.nil ?_ | refine AWp.seq ?_ | refine AWp.region ?_ | refine AWp.condT rfl ?_ | refine AWp.ret ?_ | refine AL.set rfl rfl (op_assignB rfl ?_))
    exact ⟨_, ResV.tmp rfl, rfl, Ext.refl _, ⟨false, rfl, ⟨fun e => (by cases e), fun e => absurd e.1 hr⟩⟩, rfl⟩
  by_cases hl : l.length = l'.length
  rotate_left
  · refine AWp.draw (σ := [(0, .R), (1, .R), (2, .R), (3, .R), (4, .R), (5, .R), (6, .R), (7, .R), (8, .R), (9, .R), (10, .R), (11, .R), (12, .R), (13, .R), (14, .R), (15, .R), (16, .R), (17, .R), (18, .R), (19, .R), (20, .R), (21, .R)]) mixed (by kernel_rfl) ?_
    repeat (first | refine DAL.r rfl rfl rfl (fun h' hx hn => op_moveB rfl ⟨rfl, rfl⟩) ?_ | refine DAL.r rfl rfl rfl (fun h' hx hn => op_moveP rfl ⟨rfl, rfl⟩) ?_ | refine DAL.r rfl rfl rfl (fun h' hx hn => op_nilCheck rfl ⟨rfl, rfl⟩) ?_ | refine DAL.r rfl rfl rfl (fun h' hx hn => op_fa rfl ⟨rfl, rfl⟩) ?_ | refine DAL.r rfl rfl rfl (fun h' hx hn => op_load rfl rfl (hx.c _ _ a.box) rfl ⟨rfl, rfl⟩) ?_ | refine DAL.r rfl rfl rfl (fun h' hx hn => op_load rfl rfl (hx.c _ _ a'.box) rfl ⟨rfl, rfl⟩) ?_ | refine DAL.r rfl rfl rfl (fun h' hx hn => op_intT rfl rfl rfl (by omega) ⟨rfl, rfl⟩) ?_ | refine DAL.r rfl rfl rfl (fun h' hx hn => op_intF rfl rfl rfl (by omega) ⟨rfl, rfl⟩) ?_ | refine DAL.r rfl rfl rfl (fun h' hx hn => op_lenMap rfl (hx.o _ _ a.map) ⟨rfl, rfl⟩) ?_ | refine DAL.r rfl rfl rfl (fun h' hx hn => op_lenMap rfl (hx.o _ _ a'.map) ⟨rfl, rfl⟩) ?_ | refine DAL.r rfl rfl rfl (fun h' hx hn => op_pick (v := .bool _) rfl rfl ⟨rfl, rfl⟩) ?_)
    refine DAL.nil ?_
    repeat (first | refine AL.nil ?_ | refine AWp.seq ?_ | refine AWp.region ?_ | refine AWp.condT rfl ?_ | refine AWp.ret ?_ | refine AL.set rfl rfl (op_assignB rfl ?_))
    exact ⟨_, ResV.tmp rfl, rfl, Ext.refl _, ⟨false, rfl, ⟨fun e => (by cases e), fun e => absurd (same_len e.2) hl⟩⟩, rfl⟩
  subst hr
  refine AWp.draw (σ := [(0, .R), (1, .R), (2, .R), (3, .R), (4, .R), (5, .R), (6, .R), (7, .R), (8, .R), (9, .R), (10, .R), (11, .R), (12, .R), (13, .R), (14, .R), (15, .R), (16, .R), (17, .R), (18, .R), (19, .R), (20, .R), (21, .R)]) mixed (by kernel_rfl) ?_
  repeat (first | refine DAL.r rfl rfl rfl (fun h' hx hn => op_moveB rfl ⟨rfl, rfl⟩) ?_ | refine DAL.r rfl rfl rfl (fun h' hx hn => op_moveP rfl ⟨rfl, rfl⟩) ?_ | refine DAL.r rfl rfl rfl (fun h' hx hn => op_nilCheck rfl ⟨rfl, rfl⟩) ?_ | refine DAL.r rfl rfl rfl (fun h' hx hn => op_fa rfl ⟨rfl, rfl⟩) ?_ | refine DAL.r rfl rfl rfl (fun h' hx hn => op_load rfl rfl (hx.c _ _ a.box) rfl ⟨rfl, rfl⟩) ?_ | refine DAL.r rfl rfl rfl (fun h' hx hn => op_load rfl rfl (hx.c _ _ a'.box) rfl ⟨rfl, rfl⟩) ?_ | refine DAL.r rfl rfl rfl (fun h' hx hn => op_lenMap rfl (hx.o _ _ a.map) ⟨rfl, rfl⟩) ?_ | refine DAL.r rfl rfl rfl (fun h' hx hn => op_lenMap rfl (hx.o _ _ a'.map) ⟨rfl, rfl⟩) ?_ | refine DAL.r rfl rfl rfl (fun h' hx hn => op_intF rfl rfl rfl (by omega) ⟨rfl, rfl⟩) ?_ | refine DAL.r rfl rfl rfl (fun h' hx hn => op_pick (v := .bool _) rfl rfl ⟨rfl, rfl⟩) ?_)
  refine DAL.nil ?_
  repeat (first | refine AWp.seq ?_ | refine AWp.region ?_ | refine AWp.condF rfl ?_ | refine AWp.skip ?_ | refine AL.set rfl rfl (op_moveP rfl ?_) | refine AL.set rfl rfl (op_nilCheck rfl ?_) | refine AL.set rfl rfl (op_fa rfl ?_) | refine AL.set rfl rfl (op_load rfl rfl a.box rfl ?_))
  refine AL.set rfl rfl (op_rangeMap (l := kvF l) rfl a.map ?_)
  repeat (first | refine AL.nil ?_ | refine AWp.block ?_)
  have hx3 := wf.extO (.mapIter (some m) c [] c)
  have d0 : SW h h.next m c l l' [] (h.allocO (.mapIter (some m) c [] c)) c := ⟨Heap.allocO_new _ _, Nat.le_refl _, hx3, wf.allocO _, fun e _ he => by cases he⟩
  refine AWp.loop (α := List Nat × Heap × Nat) (fun _ => [(1, ptr i'), (48, .pointer (some ⟨h.next, 0, none⟩))]) (fun d => d.2.1) (fun d => SW h h.next m c l l' d.1 d.2.1 d.2.2) (fun d => left l d.1)
    ([], h.allocO (.mapIter (some m) c [] c), c) d0 (Weak.same (EW.cons rfl (EW.cons rfl EW.nil))) ?_
  rintro ⟨seen, H, clk⟩ d
  replace d : SW h h.next m c l l' seen H clk := d
  show AWp _ _ _ _ [(1, ptr i'), (48, .pointer (some ⟨h.next, 0, none⟩))] H
  have hm := d.ext.o _ _ a.map
  have lit := d.wf.ltO d.it
  repeat (first | refine AWp.seq ?_ | refine AWp.region ?_)
  refine AL.set rfl rfl (op_nextMap (l := kvF l) rfl d.it hm (fun e he => by obtain ⟨x, hx, rfl⟩ := kvF_mem he; exact a.ok.lt x hx) d.clk ?_ ?_)
  · intro hend
    repeat (first | refine AL.nil ?_ | refine AWp.seq ?_ | refine AWp.region ?_ | refine AWp.condF rfl ?_ | refine AWp.ret ?_ | refine AWp.exit ?_ | refine AL.set rfl rfl (op_assignB rfl ?_) | refine AL.set rfl rfl (op_extract rfl rfl ?_))
    refine ⟨_, ResV.tmp rfl, rfl, d.ext, ⟨true, rfl, ⟨fun _ => ⟨rfl, same_yes a.ok.names hl a'.ok.names fun e he => d.ok e he ?_⟩, fun _ => rfl⟩⟩, rfl⟩
    exact hend (e.1, fileV e.2.1, e.2.2) (List.mem_map.2 ⟨e, he, rfl⟩)
  · intro e he hns
    obtain ⟨x, hx, rfl⟩ := kvF_mem he
    replace hns : x.2.2 ∉ seen := hns
    have g1 := Heap.setO_at H h.next (.mapIter (some m) c (seen ++ [x.2.2]) c)
    have ho : ∀ q b, H.obj q = some b → q ≠ h.next → (H.setO h.next (.mapIter (some m) c (seen ++ [x.2.2]) c)).obj q = some b := fun q b hq hne => (Heap.setO_other hne).trans hq
    have g2 := ho _ _ hm (by have := wf.ltO a.map; omega)
    have wf3 := d.wf.setO lit (.mapIter (some m) c (seen ++ [x.2.2]) c)
    have x3 : Ext h (H.setO h.next (.mapIter (some m) c (seen ++ [x.2.2]) c)) := ⟨fun j b e => d.ext.c j b e, fun j b e => ho j b (d.ext.o j b e) (by have := wf.ltO e; omega)⟩
    have n3 : (H.setO h.next (.mapIter (some m) c (seen ++ [x.2.2]) c)).next = H.next := rfl
    generalize H.setO h.next (.mapIter (some m) c (seen ++ [x.2.2]) c) = H3 at g1 g2 wf3 x3 n3 ⊢
    repeat (first | refine AL.nil ?_ | refine AWp.seq ?_ | refine AWp.region ?_ | refine AWp.condT rfl ?_ | refine AWp.block ?_ | refine AWp.skip ?_ | refine AL.set rfl rfl (op_extract rfl rfl ?_))
    refine AL.set rfl rfl (op_entryMap (l := kvF l) rfl g1 g2 he rfl (by rw [kvF_borns]; exact a.ok.borns) ?_)
    repeat (first | refine AL.set rfl rfl (op_assignStr rfl ?_) | refine AL.set rfl rfl (op_extract rfl rfl ?_) | refine AL.set rfl rfl (op_allocF ?_))
    refine AL.eff rfl (op_storeF ([], []) x.2.1 rfl rfl (Heap.alloc_new _ _) ?_)
    refine AL.heap (Heap.set_alloc _ _ _) ?_
    have gf := Heap.alloc_new H3 (fileB x.2.1)
    have hx4 := wf3.ext (fileB x.2.1)
    have wf4 := wf3.alloc (fileB x.2.1)
    have n4 : (H3.alloc (fileB x.2.1)).next = H3.next + 1 := rfl
    generalize H3.alloc (fileB x.2.1) = H4 at gf hx4 wf4 n4 ⊢
    have a4 : At H4 i' m' room l' c' := ⟨hx4.c _ _ (x3.c _ _ a'.box), hx4.o _ _ (x3.o _ _ a'.map), a'.ok, a'.big⟩
    repeat (first | refine AL.nil ?_ | refine AWp.seq ?_ | refine AWp.region ?_ | refine AL.set rfl rfl (op_moveP rfl ?_) | refine AL.set rfl rfl (op_moveStr rfl ?_) | refine AL.set rfl rfl (op_moveT rfl ?_) | refine AL.set rfl rfl (op_nilCheck rfl ?_) | refine AL.set rfl rfl (op_fa rfl ?_) | refine AL.set rfl rfl (op_load rfl rfl a4.box rfl ?_) | refine AL.set rfl rfl (op_lookupFOk rfl rfl a4.map ?_) | refine AL.set rfl rfl (op_extract rfl rfl ?_) | refine AL.set rfl rfl (op_allocF ?_))
    refine AL.eff rfl (op_storeF ([], []) (fileOf l' x.1) rfl rfl (Heap.alloc_new _ _) ?_)
    refine AL.heap (Heap.set_alloc _ _ _) ?_
    have gg := Heap.alloc_new H4 (fileB (fileOf l' x.1))
    have hx5 := wf4.ext (fileB (fileOf l' x.1))
    have wf5 := wf4.alloc (fileB (fileOf l' x.1))
    have gf5 := hx5.c _ _ gf
    generalize hb4 : H4.next = b4 at gg ⊢
    generalize H4.alloc (fileB (fileOf l' x.1)) = H5 at gg gf5 hx5 wf5 ⊢
    cases hh : hasS l' x.1 with
    | false =>
      repeat (first | refine AL.nil ?_ | refine AL.skip rfl rfl ?_ | refine AWp.seq ?_ | refine AWp.region ?_ | refine AWp.condT rfl ?_ | refine AWp.ret ?_ | refine AL.set rfl rfl (op_moveB rfl ?_) | refine AL.set rfl rfl (op_assignB rfl ?_) | refine AL.set rfl rfl (op_not rfl ?_) | refine AL.set rfl rfl (op_pick (v := .bool _) rfl rfl ?_))
      exact ⟨_, ResV.tmp rfl, rfl, (x3.trans hx4).trans hx5, ⟨false, rfl, ⟨fun e => (by cases e), fun e => absurd e.2 (same_no a.ok.names a'.ok.names hx (by rw [getS_none.2 hh]; simp))⟩⟩, rfl⟩
    | true =>
      have hgs := getS_of_has hh
      by_cases hf : x.2.1 = fileOf l' x.1
      · repeat (first | refine AL.nil ?_ | refine AWp.seq ?_ | refine AWp.region ?_ | refine AWp.condF rfl ?_ | refine AWp.skip ?_ | refine AL.set rfl rfl (op_moveB rfl ?_) | refine AL.set rfl rfl (op_assignB rfl ?_) | refine AL.set rfl rfl (op_not rfl ?_) | refine AL.set rfl rfl (op_loadF rfl gf5 ?_) | refine AL.set rfl rfl (op_loadF rfl gg ?_) | refine AL.set rfl rfl (op_neStB (b := true) (xs := fileR x.2.1) (ys := fileR (fileOf l' x.1)) rfl rfl rfl (by rw [eqFile_eq]; exact decide_eq_true hf) ?_) | refine AL.set rfl rfl (op_pick (v := .bool _) rfl rfl ?_))
        refine ⟨(seen ++ [x.2.2], H5, c), ⟨hx5.o _ _ (hx4.o _ _ g1), Nat.le_refl _, (x3.trans hx4).trans hx5, wf5, fun e he hs => ?_⟩, left_lt hx hns, Weak.same (EW.cons rfl (EW.cons rfl EW.nil))⟩
        rcases List.mem_append.1 hs with hs | hs
        · exact d.ok e he hs
        · have hb : e.2.2 = x.2.2 := by simpa using hs
          have : e = x := nodup_inj a.ok.borns he hx hb
          subst this
          rw [hgs, hf]
      · repeat (first | refine AL.nil ?_ | refine AWp.seq ?_ | refine AWp.region ?_ | refine AWp.condT rfl ?_ | refine AWp.ret ?_ | refine AL.set rfl rfl (op_moveB rfl ?_) | refine AL.set rfl rfl (op_assignB rfl ?_) | refine AL.set rfl rfl (op_not rfl ?_) | refine AL.set rfl rfl (op_loadF rfl gf5 ?_) | refine AL.set rfl rfl (op_loadF rfl gg ?_) | refine AL.set rfl rfl (op_neStB (b := false) (xs := fileR x.2.1) (ys := fileR (fileOf l' x.1)) rfl rfl rfl (by rw [eqFile_eq]; exact decide_eq_false hf) ?_) | refine AL.set rfl rfl (op_pick (v := .bool _) rfl rfl ?_))
        exact ⟨_, ResV.tmp rfl, rfl, (x3.trans hx4).trans hx5, ⟨false, rfl, ⟨fun e => (by cases e), fun e => absurd e.2 (same_no a.ok.names a'.ok.names hx (by rw [hgs]; intro e; exact hf (Option.some.inj e).symm))⟩⟩, rfl⟩
/-- A crash, whatever it is told. -/
theorem crash_any (i m room : Nat) (l : FL) (c : Nat) (F : List RF) (v : Value) (ks : List Kp1) (h : Heap) (a : At h i m room l c) (sm : Sm l F) (hv : KS h v ks) (hl : ks.length ≤ 1000000) (hn : ∀ x ∈ ks, x.1.length ≤ 4611686018427387904) :
    ACalls Try.prog 34 [ptr i, v] h fun u h' => (∃ p e, u = .tuple #[.pointer p, .int .i64 e]) ∧ Ext h h' ∧ WF h' := by
  cases hb : badK ks with
  | true => exact (crash_no i m room l c v ks h a hv hl hn (kept_none l ks hb)).mono fun u h' ⟨h1, h2, h3⟩ => ⟨⟨_, _, h1⟩, h2, h3⟩
  | false =>
    obtain ⟨out, cc, hkp, ho⟩ := kept_some sm hb
    by_cases he : crashE F ks = 0
    · rw [he] at hkp
      refine (crash_ok i m room l c v ks h a hv hl hn out cc hkp (fun s => by rw [ho]; exact told_nonneg hb s)).mono ?_
      rintro u h' ⟨i2, m2, N, rfl, _, _, _, _, _, hx, wf, _⟩
      exact ⟨⟨_, _, rfl⟩, hx, wf⟩
    · exact (crash_err i m room l c v ks h a hv hl hn out cc _ hkp he).mono fun u h' ⟨h1, h2, h3⟩ => ⟨⟨_, _, h1⟩, h2, h3⟩
/-- A crash that is told what may be. -/
theorem crash_sm (i m room : Nat) (l : FL) (c : Nat) (F : List RF) (v : Value) (ks : List Kp1) (h : Heap) (a : At h i m room l c) (sm : Sm l F) (hv : KS h v ks) (hl : ks.length ≤ 1000000) (hn : ∀ x ∈ ks, x.1.length ≤ 4611686018427387904) (hb : badK ks = false) (he : crashE F ks = 0) :
    ACalls Try.prog 34 [ptr i, v] h fun u h' => ∃ i2 m2 l2 c2, u = .tuple #[ptr i2, .int .i64 0] ∧ h.next ≤ i2 ∧ h.next ≤ m2 ∧ At h' i2 m2 room l2 c2 ∧ Sm l2 (crashL F ks) ∧ Ext h h' ∧ WF h' := by
  obtain ⟨out, cc, hkp, ho⟩ := kept_some sm hb
  rw [he] at hkp
  refine (crash_ok i m room l c v ks h a hv hl hn out cc hkp (fun s => by rw [ho]; exact told_nonneg hb s)).mono ?_
  rintro u h' ⟨i2, m2, N, rfl, q1, q2, hR, hN, a2, hx, wf, _⟩
  exact ⟨i2, m2, _, _, rfl, q1, q2, a2, left_sm sm a.ok.names ho hb (rise_nodup' hR) hN, hx, wf⟩
theorem At.file {H : Heap} {room i m : Nat} {l : FL} {c : Nat} {F : List RF} (a : At H i m room l c) (sm : Sm l F) {y : RF} (hy : y ∈ F) : hasS l y.1 = true ∧ openE l y.1 [] = 0 ∧ openF l y.1 [] = (y.2.1, y.2.2) := by
  obtain ⟨h1, h2⟩ := Sm.file sm a.ok.names hy
  obtain ⟨e, he, h3⟩ := List.mem_map.1 (has_mem.1 h2)
  have hg := a.ok.good e he
  rw [h3] at hg
  have h4 : openE l y.1 [] = 0 := by unfold openE; rw [hg, h2]; rfl
  exact ⟨h2, h4, by unfold openF; rw [if_pos h4, h1]⟩
end Go.Proofs.Ytiebmncpdnbcjaa
