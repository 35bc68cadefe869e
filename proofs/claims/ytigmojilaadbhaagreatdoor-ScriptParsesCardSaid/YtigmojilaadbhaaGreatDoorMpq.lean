/-
  Texts of one claim, merged: 8 parts.
-/
import Derived.Test.YtigmojilaadbhaaGreatDoorMpo
import Derived.Test.YtigmojilaadbhaaGreatDoorMpp
import Derived.Test.YtigmojilaadbhaaGreatDoorMpn
set_option maxHeartbeats 16000000
/- . -/
namespace Go.Proofs.YtigmojilaadbhaaGreatDoor
open Go Go.Eng Go.Pln Go.Lib Go.Proofs.Tryz
attribute [local irreducible] AWp AL DAL AOp TAL XWp XL YDAL
instance i_unline : FnC prog 21 := ⟨Tryz.f21, func21, by kernel_rfl, by kernel_rfl⟩
instance qhP : StD prog 89 [(0, 1)] := ⟨_, underlying89, by kernel_rfl⟩
instance qhc : TyI prog 89 1 16 (.agg #[.string ⟨#[]⟩]) := ⟨qaV (by kernel_rfl), rfl, rfl⟩
theorem kword_inj' {i j : Nat} (hi : i < 13) (hj : j < 13) (h : kword ((i : Int) + 1) = kword ((j : Int) + 1)) : i = j := qg5 hi hj h
theorem unline_at {s : Bytes} {i : Nat} (hi : i < 13) (h : kword ((i : Int) + 1) = (cutS s).1) : unlineP s = if mayAct 5 5 (readS ((i : Int) + 1) (cutS s).2) = true ∧ lineM (readS ((i : Int) + 1) (cutS s).2) = s then some (readS ((i : Int) + 1) (cutS s).2) else none := by
 unfold unlineP
 rw [← h, qdt (by omega)]
 show (if mayAct 5 5 (readS ((((i : Int) + 1 - 1).toNat : Nat) + 1) (cutS s).2) = true ∧ _ then _ else _) = _
 rw [show ((((i : Int) + 1 - 1).toNat : Nat) : Int) + 1 = (i : Int) + 1 by omega]
theorem unline_no {s : Bytes} (h : ∀ j : Nat, j < 13 → kword ((j : Int) + 1) ≠ (cutS s).1) : unlineP s = none := by
 unfold unlineP
 have : ((List.range 13).find? fun i : Nat => kword ((i : Int) + 1) == (cutS s).1) = none := by
  rw [List.find?_eq_none]
  intro x hx
  simpa using h x (Cl.1 hx)
 rw [this]
 rfl
abbrev cellS (t : TypeId) (v : Value) : Blk := ⟨[v], t, true⟩
structure UnB (h : Heap) (s : Bytes) (b1 b2 b3 rd b4 b5 : Nat) : Prop where
 n1 : h.next ≤ b1
 n2 : h.next ≤ b2
 n3 : h.next ≤ b3
 nr : h.next ≤ rd
 n4 : h.next ≤ b4
 n5 : h.next ≤ b5
 d12 : b1 ≠ b2
 d13 : b1 ≠ b3
 d1r : b1 ≠ rd
 d23 : b2 ≠ b3
 d2r : b2 ≠ rd
 d3r : b3 ≠ rd
 d4r : b4 ≠ rd
 d5r : b5 ≠ rd
 r8 : 8 ≤ rd
structure UnY (h : Heap) (s : Bytes) (b1 b2 b3 rd b4 b5 : Nat) (i : Nat) (H : Heap) : Prop where
 ext : Ext h H
 g1 : H.get b1 = some (cellS 9 (str s))
 g2 : H.get b2 = some ⟨actC actV0 act0, 40, true⟩
 g3 : H.get b3 = some (cellS 48 (.int .i64 0))
 g4 : H.get b4 = some (cellS 87 (ptr rd))
 g5 : H.get b5 = some (cellS 9 (str (cutS s).1))
 st : ∃ rest, H.get rd = some (rdB rest) ∧ (((∀ j : Nat, j < i → kword ((j : Int) + 1) ≠ (cutS s).1) ∧ rest = (cutS s).2) ∨ ((∃ j : Nat, j < i ∧ j < 13 ∧ kword ((j : Int) + 1) = (cutS s).1) ∧ unlineP s = none))
def unA (s : Bytes) : ActM × Int := match unlineP s with
 | some a => (a, 0)
 | none => (act0, 4)
structure UnZ (h : Heap) (s : Bytes) (b2 b3 : Nat) (H : Heap) (c : Code) : Prop where
 ret : c = .ret
 ext : Ext h H
 e : (unA s).2 = 0
 fin : ∃ q, H.get b2 = some ⟨actC q (unA s).1, 40, true⟩ ∧ (∃ B, ActO B H q (unA s).1) ∧ (unA s).1.keep.length ≤ 140737488351232
 g3 : H.get b3 = some (cellS 48 (.int .i64 0))
theorem UnY.grow {h H H' : Heap} {s : Bytes} {b1 b2 b3 rd b4 b5 i : Nat} (y : UnY h s b1 b2 b3 rd b4 b5 i H) (hx : Ext H H') : UnY h s b1 b2 b3 rd b4 b5 i H' := by
 obtain ⟨rest, h1, h2⟩ := y.st
 exact ⟨y.ext.trans hx, hx.c _ _ y.g1, hx.c _ _ y.g2, hx.c _ _ y.g3, hx.c _ _ y.g4, hx.c _ _ y.g5, rest, hx.c _ _ h1, h2⟩
theorem qdc (s : Bytes) (h : Heap) (t : Tabs h) (h8 : 8 ≤ h.next) (hl : s.length ≤ 1000000000) : ACalls prog 21 [str s] h fun u h' => ∃ q, u = .tuple #[.agg (actC q (unA s).1).toArray, .int .i64 (unA s).2] ∧ ((∃ B, ActO B h' q (unA s).1) ∧ (unA s).1.keep.length ≤ 140737488351232) ∧ Ext h h' := by
 refine aL fun wf => ?_
 refine ACalls.bodyX func21 rfl (Ab rfl) fun bb => ?_
 repeat (first | refine bS ?_ | refine bE ?_)
 refine aQ rfl rfl rfl (qaS rfl (by intro e; cases e) ?_)
 generalize hH : h.alloc _ = H1
 have g1 : H1.get h.next = some (cellS 9 (str s)) := hH ▸ aB _ _
 have x1 : Ext h H1 := hH ▸ wf.ext _
 have w1 : WF H1 := hH ▸ wf.alloc _
 have l1 := w1.lt g1
 clear hH
 refine aQ rfl rfl rfl (qax ?_)
 refine XL.heap (h := H1.alloc ⟨actC actV0 act0, 40, true⟩) rfl ?_
 generalize hH : H1.alloc ⟨actC actV0 act0, 40, true⟩ = H2
 have g2 : H2.get H1.next = some ⟨actC actV0 act0, 40, true⟩ := hH ▸ aB _ _
 have x2 : Ext H1 H2 := hH ▸ w1.ext _
 have w2 : WF H2 := hH ▸ w1.alloc _
 have l2 := w2.lt g2
 clear hH
 refine aQ rfl rfl rfl (qax ?_)
 generalize hH : H2.alloc _ = H3
 have g3 : H3.get H2.next = some (cellS 48 (.int .i64 0)) := hH ▸ aB _ _
 have x3 : Ext H2 H3 := hH ▸ w2.ext _
 have w3 : WF H3 := hH ▸ w2.alloc _
 have l3 := w3.lt g3
 clear hH
 repeat (first | refine bU ?_ | refine bS ?_ | refine bE ?_ | refine aQ rfl rfl rfl (qaf rfl rfl (x3.c _ _ (x2.c _ _ g1)) rfl ?_) | refine aQ rfl rfl rfl (qay (out := [str s]) rfl rfl ?_))
 refine aQ rfl rfl rfl (qaS (v := .agg #[str s]) rfl (by intro e; cases e) ?_)
 refine XL.heap (h := H3.alloc (rdB s)) rfl ?_
 generalize hH : H3.alloc (rdB s) = H4
 have gr : H4.get H3.next = some (rdB s) := hH ▸ aB _ _
 have x4 : Ext H3 H4 := hH ▸ w3.ext _
 have w4 : WF H4 := hH ▸ w3.alloc _
 have l4 := w4.lt gr
 clear hH
 repeat (first | refine aQ rfl rfl rfl (qax ?_))
 refine XL.eff rfl rfl (qeD (v := ptr H3.next) rfl rfl rfl ?_)
 generalize hH : H4.alloc _ = H5
 have g4 : H5.get H4.next = some (cellS 87 (ptr H3.next)) := hH ▸ aB _ _
 have x5 : Ext H4 H5 := hH ▸ w4.ext _
 have w5 : WF H5 := hH ▸ w4.alloc _
 have l5 := w5.lt g4
 clear hH
 repeat (first | refine bU ?_ | refine bS ?_ | refine bE ?_ | refine aQ rfl rfl rfl (qaf rfl rfl g4 rfl ?_))
 refine aQ rfl rfl rfl (qat (evs := [ptr H3.next]) rfl rfl ((qii H3.next s H5 (x5.c _ _ gr) hl).mono ?_))
 rintro _ _ ⟨rfl, rfl⟩
 generalize hH : H5.set H3.next (rdB (cutS s).2) = H6
 have gr6 : H6.get H3.next = some (rdB (cutS s).2) := hH ▸ aF _ _ _
 have k6 : ∀ j b, H5.get j = some b → j ≠ H3.next → H6.get j = some b := fun j b e n => hH ▸ (aH n).trans e
 have w6 : WF H6 := hH ▸ w5.set (by omega) _
 have x6 : Ext h H6 := hH ▸ wf.ext_set (x1.trans (x2.trans (x3.trans (x4.trans x5)))) (by omega) _
 have n6 : H6.next = H5.next := hH ▸ rfl
 clear hH
 repeat (first | refine aQ rfl rfl rfl (qax ?_))
 refine XL.eff rfl rfl (qeD (v := str (cutS s).1) rfl rfl rfl ?_)
 generalize hH : H6.alloc _ = H7
 have g5 : H7.get H6.next = some (cellS 9 (str (cutS s).1)) := hH ▸ aB _ _
 have x7 : Ext H6 H7 := hH ▸ w6.ext _
 have w7 : WF H7 := hH ▸ w6.alloc _
 have l7 := w7.lt g5
 clear hH
 have U : UnB h s h.next H1.next H2.next H3.next H4.next H6.next := ⟨by omega, by omega, by omega, by omega, by omega, by omega, by omega, by omega, by omega, by omega, by omega, by omega, by omega, by omega, by omega⟩
 have y0 : UnY h s h.next H1.next H2.next H3.next H4.next H6.next 0 H7 := ⟨x6.trans x7, x7.c _ _ (k6 _ _ (x5.c _ _ (x4.c _ _ (x3.c _ _ (x2.c _ _ g1)))) (by omega)), x7.c _ _ (k6 _ _ (x5.c _ _ (x4.c _ _ (x3.c _ _ g2))) (by omega)), x7.c _ _ (k6 _ _ (x5.c _ _ (x4.c _ _ g3)) (by omega)), x7.c _ _ (k6 _ _ g4 (by omega)), g5, _, x7.c _ _ gr6, .inl ⟨fun j hj => by omega, rfl⟩⟩
 have e1 : H1.next < H7.next := by omega
 have e2 : H2.next < H7.next := by omega
 have e3 : H3.next < H7.next := by omega
 repeat (first | refine bU ?_ | refine bS ?_ | refine bE ?_ | refine cG ?_ | refine aQ rfl rfl rfl (qab rfl rfl (kinds_v H7) ?_))
 generalize h.next = b1 at *
 generalize H1.next = b2 at *
 generalize H2.next = b3 at *
 generalize H3.next = rd at *
 generalize H4.next = b4 at *
 generalize H6.next = b5 at *
 refine XWp.rangeFunc (ι := Nat × Heap) (fi := []) (ca := []) (PreK (UnY h s b1 b2 b3 rd b4 b5)) (TK (fun j => j = b2 ∨ j = b3 ∨ j = rd) (UnY h s b1 b2 b3 rd b4 b5)) (fun _ H c => UnZ h s b2 b3 H c) (fun H => UnY h s b1 b2 b3 rd b4 b5 13 H) (fun H c => UnZ h s b2 b3 H c) rfl (fun k e => e) (fun _ _ l => l) rfl ?_ ?_ ?_ ?_ ?_
 ·
  rintro i H args ⟨rfl, _⟩; rfl
 ·
  intro C1 y hq ys
  exact qih C1 hq y H7 (t.ext y0.ext) (fun j => j = b2 ∨ j = b3 ∨ j = rd) (by rintro j (rfl | rfl | rfl) <;> assumption) _ _ (fun i H H' hY hx _ => hY.grow hx) ys y0
 ·
  rintro Ca Cb y ⟨i, H⟩ H' args ⟨rfl, hi, hY, rfl, wfH⟩
  replace hi : i < 13 := hi
  replace hY : UnY h s b1 b2 b3 rd b4 b5 i H := hY
  replace wfH : WF H := wfH
  show XWp Ca _ _ _ _ (setPs _ [.int .i64 ((i : Nat) + 1), str (kword ((i : Nat) + 1))] _) H none
  obtain ⟨rest, hrd, hst⟩ := hY.st
  by_cases hk : kword ((i : Int) + 1) = (cutS s).1
  ·
   obtain rfl : rest = (cutS s).2 := by
    rcases hst with ⟨_, h2⟩ | ⟨⟨j, h1, h2, h3⟩, _⟩
    ·
     exact h2
    ·
     exact absurd (kword_inj' h2 hi (h3.trans hk.symm)) (by omega)
   have hun := unline_at hi hk
   have rr : Rdr H rd (cutS s).2 H := ⟨by rw [qd7 hrd]; exact aU H, wfH, wfH, wfH.lt hrd, U.r8, Aa _, t.ext hY.ext⟩
   have hcl := (qbu s).2
   repeat (first | refine bU ?_ | refine bS ?_ | refine bE ?_ | refine dC rfl ?_ | refine cG ?_ | refine dE ?_ | refine aQ rfl rfl rfl (qac rfl ?_) | refine aQ rfl rfl rfl (qaj rfl ?_) | refine aQ rfl rfl rfl (qad rfl ?_) | refine aQ rfl rfl rfl (qah rfl ?_) | refine aQ rfl rfl rfl (qaf rfl rfl hY.g5 rfl ?_) | refine aQ rfl rfl rfl (qbi rfl rfl hk ?_) | refine aQ rfl rfl rfl (qaf rfl rfl hY.g4 rfl ?_))
   refine aQ rfl rfl rfl (qat (evs := [ptr rd, .int .i64 ((i : Nat) + 1)]) rfl rfl ((read_c ((i : Int) + 1) (by omega) rr (by omega)).mono ?_))
   rintro _ H1' ⟨q, s', rfl, ⟨⟨B, hO⟩, hlen⟩, r1⟩
   generalize readS ((i : Int) + 1) (cutS s).2 = a at hun hO hlen ⊢
   have oneA := qaO (hO.r hlen)
   refine aQ rfl rfl rfl (qax ?_)
   refine XL.eff rfl rfl (qaL (vs := actC q a) rfl rfl rfl rfl oneA ?_)
   have g8 := aB H1' ⟨actC q a, 40, true⟩
   have x8 := r1.wf.ext ⟨actC q a, 40, true⟩
   have n8 : H1'.next ≠ b2 := fun e => by have := wfH.lt hY.g2; have := r1.nx; omega
   have n83 : H1'.next ≠ b3 := fun e => by have := wfH.lt hY.g3; have := r1.nx; omega
   generalize H1'.alloc ⟨actC q a, 40, true⟩ = H8 at g8 x8 ⊢
   have k8 : ∀ j b, H.get j = some b → j ≠ rd → H8.get j = some b := fun j b e n => x8.c _ _ (r1.ext.c _ _ ((aH n).trans e))
   have xh8 : Ext h H8 := (wf.ext_set hY.ext U.nr _).trans (r1.ext.trans x8)
   have o8 := hO.elem (h' := H8) (fun j b e _ => x8.c _ _ e) (fun j b e _ => x8.c _ _ e)
   have cl := qiC q a H8 (t.ext xh8) (o8.r hlen)
   have y1 := k8 _ _ hY.g1 U.d1r
   have back : unlineP s = none → UnY h s b1 b2 b3 rd b4 b5 (i + 1) H8 ∧ Kp (fun j => j = b2 ∨ j = b3 ∨ j = rd) H H8 := fun hn => ⟨⟨xh8, y1, k8 _ _ hY.g2 U.d2r, k8 _ _ hY.g3 U.d3r, k8 _ _ hY.g4 U.d4r, k8 _ _ hY.g5 U.d5r, _, x8.c _ _ r1.box, .inr ⟨⟨i, Nat.lt_succ_self _, hi, hk⟩, hn⟩⟩,
    ⟨fun j b e no => k8 j b e fun e2 => no (.inr (.inr e2)), fun j b e _ => x8.o _ _ (r1.ext.o _ _ e)⟩⟩
   cases hm : mayAct 5 5 a with
   | false =>
    rw [show lineV a = .tuple #[str [], .int .i64 2] by unfold lineV; rw [hm]; rfl] at cl
    repeat (first | refine bU ?_ | refine XL.skip rfl rfl ?_ | refine bS ?_ | refine bE ?_ | refine dC rfl ?_ | refine dE ?_ | refine aQ rfl rfl rfl (qac rfl ?_) | refine aQ rfl rfl rfl (qae rfl ?_) | refine aQ rfl rfl rfl (qaC rfl ?_) | refine aQ rfl rfl rfl (qad rfl ?_) | refine aQ rfl rfl rfl (qah rfl ?_) | refine aQ rfl rfl rfl (qam (sz := 33) rfl rfl g8 (Aa _) ?_) | refine aQ rfl rfl rfl (qab rfl rfl cl ?_) | refine aQ rfl rfl rfl (qav rfl rfl ?_) | refine aQ rfl rfl rfl (qai rfl rfl rfl (by omega) ?_) | refine aQ rfl rfl rfl (qag (v := .bool _) rfl rfl ?_))
    exact back (by rw [hun, Ac (by rw [hm]; simp)])
   | true =>
    rw [show lineV a = .tuple #[str (lineM a), .int .i64 0] by unfold lineV; rw [hm]; rfl] at cl
    by_cases hls : lineM a = s
    ·
     have hA : unA s = (a, 0) := by unfold unA; rw [hun, Ah ⟨hm, hls⟩]
     repeat (first | refine bU ?_ | refine bS ?_ | refine bE ?_ | refine XWp.condT rfl ?_ | refine aQ rfl rfl rfl (qac rfl ?_) | refine aQ rfl rfl rfl (qae rfl ?_) | refine aQ rfl rfl rfl (qaj rfl ?_) | refine aQ rfl rfl rfl (qaC rfl ?_) | refine aQ rfl rfl rfl (qad rfl ?_) | refine aQ rfl rfl rfl (qah rfl ?_) | refine aQ rfl rfl rfl (qam (sz := 33) rfl rfl g8 (Aa _) ?_) | refine aQ rfl rfl rfl (qab rfl rfl cl ?_) | refine aQ rfl rfl rfl (qav rfl rfl ?_) | refine aQ rfl rfl rfl (qak rfl rfl rfl (by omega) ?_) | refine aQ rfl rfl rfl (qaf rfl rfl y1 rfl ?_) | refine aQ rfl rfl rfl (qaP rfl rfl hls ?_) | refine aQ rfl rfl rfl (qag (v := .bool _) rfl rfl ?_))
     have y2 := k8 _ _ hY.g2 U.d2r
     have y3 := k8 _ _ hY.g3 U.d3r
     refine XL.eff rfl rfl (qaq (vs := actC q a) rfl rfl rfl oneA y2 rfl ?_)
     have o9 := cH (x := ⟨actC q a, 40, true⟩) o8 y2 (Aj rfl) (Aj rfl)
     have z2 := aF H8 b2 ⟨actC q a, 40, true⟩
     have z3 : (H8.set b2 ⟨actC q a, 40, true⟩).get b3 = some (cellS 48 (.int .i64 0)) := (aH (Ne.symm U.d23)).trans y3
     have xz := wf.ext_set xh8 U.n2 ⟨actC q a, 40, true⟩
     generalize H8.set b2 ⟨actC q a, 40, true⟩ = H9 at o9 z2 z3 xz ⊢
     refine XL.eff rfl rfl (qaw (v := .int .i64 0) rfl rfl rfl z3 rfl (Ec) ?_)
     refine XL.heap (h := H9.set b3 (cellS 48 (.int .i64 0))) rfl ?_
     have oA := cH (x := cellS 48 (.int .i64 0)) o9 z3 (Aj rfl) (Aj rfl)
     repeat (first | refine bU ?_ | refine XWp.ret ?_)
     exact ⟨rfl, wf.ext_set xz U.n3 _, by rw [hA], ⟨q, by rw [hA]; exact (aH U.d23).trans z2, by rw [hA]; exact ⟨⟨_, oA⟩, hlen⟩⟩, aF _ _ _⟩
    ·
     repeat (first | refine bU ?_ | refine bS ?_ | refine bE ?_ | refine dC rfl ?_ | refine dE ?_ | refine aQ rfl rfl rfl (qac rfl ?_) | refine aQ rfl rfl rfl (qae rfl ?_) | refine aQ rfl rfl rfl (qaj rfl ?_) | refine aQ rfl rfl rfl (qaC rfl ?_) | refine aQ rfl rfl rfl (qad rfl ?_) | refine aQ rfl rfl rfl (qah rfl ?_) | refine aQ rfl rfl rfl (qam (sz := 33) rfl rfl g8 (Aa _) ?_) | refine aQ rfl rfl rfl (qab rfl rfl cl ?_) | refine aQ rfl rfl rfl (qav rfl rfl ?_) | refine aQ rfl rfl rfl (qak rfl rfl rfl (by omega) ?_) | refine aQ rfl rfl rfl (qaf rfl rfl y1 rfl ?_) | refine aQ rfl rfl rfl (qaM rfl rfl hls ?_) | refine aQ rfl rfl rfl (qag (v := .bool _) rfl rfl ?_))
     exact back (by rw [hun, Ac (fun e => hls e.2)])
  ·
   repeat (first | refine bU ?_ | refine bS ?_ | refine bE ?_ | refine XWp.condT rfl ?_ | refine XWp.exit ?_ | refine cG ?_ | refine aQ rfl rfl rfl (qaj rfl ?_) | refine aQ rfl rfl rfl (qad rfl ?_) | refine aQ rfl rfl rfl (qah rfl ?_) | refine aQ rfl rfl rfl (qaf rfl rfl hY.g5 rfl ?_) | refine aQ rfl rfl rfl (qbg rfl rfl hk ?_))
   refine ⟨⟨hY.ext, hY.g1, hY.g2, hY.g3, hY.g4, hY.g5, rest, hrd, ?_⟩, Kp.refl _ _⟩
   rcases hst with ⟨h1, h2⟩ | ⟨⟨j, h1, h2, h3⟩, h4⟩
   ·
    refine .inl ⟨fun j hj => ?_, h2⟩
    by_cases hji : j < i
    ·
     exact h1 j hji
    ·
     obtain rfl : j = i := by
      have : j < i + 1 := hj
      omega
     exact hk
   ·
    exact .inr ⟨⟨j, by show j < i + 1; omega, h2, h3⟩, h4⟩
 ·
  rintro H hn hY
  refine XWp.wf fun wfH => ?_
  have hu : unlineP s = none := by
   obtain ⟨rest, _, ⟨h1, _⟩ | ⟨_, h4⟩⟩ := hY.st
   ·
    exact unline_no h1
   ·
    exact h4
  have hA : unA s = (act0, 4) := by unfold unA; rw [hu]
  rw [hA]
  repeat (first | refine bS ?_ | refine bE ?_ | refine aQ rfl rfl rfl (qay (out := actC actV0 act0) rfl rfl ?_))
  refine XL.eff rfl rfl (qaq (vs := actC actV0 act0) rfl rfl rfl rfl hY.g2 rfl ?_)
  have g3' : (H.set b2 ⟨actC actV0 act0, 40, true⟩).get b3 = some (cellS 48 (.int .i64 0)) := (aH (Ne.symm U.d23)).trans hY.g3
  refine XL.eff rfl rfl (qaw (v := .int .i64 4) rfl rfl rfl g3' rfl (Ec) ?_)
  refine XL.heap (h := (H.set b2 ⟨actC actV0 act0, 40, true⟩).set b3 (cellS 48 (.int .i64 4))) rfl ?_
  have ga : ((H.set b2 ⟨actC actV0 act0, 40, true⟩).set b3 (cellS 48 (.int .i64 4))).get b2 = some ⟨actC actV0 act0, 40, true⟩ := (aH U.d23).trans (aF _ _ _)
  have gb : ((H.set b2 ⟨actC actV0 act0, 40, true⟩).set b3 (cellS 48 (.int .i64 4))).get b3 = some (cellS 48 (.int .i64 4)) := aF _ _ _
  have xe : Ext h ((H.set b2 ⟨actC actV0 act0, 40, true⟩).set b3 (cellS 48 (.int .i64 4))) := wf.ext_set (wf.ext_set hY.ext U.n2 _) U.n3 _
  repeat (first | refine bU ?_ | refine XWp.ret ?_)
  exact ⟨_, ResV.cellAC rfl rfl rfl ga (Aa _) rfl rfl gb rfl, actV0, rfl, ⟨⟨0, cR _ _ _ rfl rfl rfl⟩, Ao _⟩, xe⟩
 ·
  rintro H j hn ⟨rfl, hx, he, ⟨q, hg, hO, hl2⟩, hg3⟩
  repeat (first | refine XWp.ret ?_)
  exact ⟨_, ResV.cellAC rfl rfl rfl hg (Aa _) rfl rfl hg3 rfl, q, by rw [he]; rfl, ⟨hO, hl2⟩, hx⟩
end Go.Proofs.YtigmojilaadbhaaGreatDoor
/- . -/
namespace Go.Proofs.YtigmojilaadbhaaGreatDoor
open Go Go.Eng Go.Pln Go.Lib Go.Proofs.Tryz
attribute [local irreducible] AWp AL DAL AOp
theorem maySet_len {x : SetM} (h : ¬ x.groups.length ≤ 5) : maySet x = false := by
 unfold maySet
 rw [Af (fun e => h e.2)]
 simp
theorem maySet_bad {x : SetM} {k : Nat} {g : List Int} (hg : x.groups[k]? = some g) (h : mayGroup x.nodes g = false) : maySet x = false := by
 unfold maySet
 rw [qey hg h, Bool.and_false]
theorem rmaySet_c (x : SetM) (vg : Value) (h : Heap) (r : RG h vg x.groups) : ACalls prog 32 [.agg (setC vg x).toArray] h fun u h' => u = .bool (maySet x) ∧ h' = h := by
 refine aL fun wf => aO ?_
 refine aD func32 rfl rfl ?_
 repeat (first | refine W.w ?_ | (refine zz rfl ?_; first | refine qad rfl ?_ | refine qaa rfl ?_ | refine qaS rfl (by intro e; cases e) ?_))
 generalize hH : h.alloc _ = H
 have hg : H.get h.next = some ⟨setC vg x, 24, true⟩ := hH ▸ aB _ _
 have hx0 : Ext h H := hH ▸ wf.ext _
 obtain ⟨vs, r1, r2, r3, r4⟩ := r.ext hx0
 have fin : ∀ b : Bool, b = maySet x → scalar (.bool b) = true ∧ Ext h H ∧ (Value.bool b = .bool (maySet x) ∧ h = h) := fun b e => ⟨rfl, hx0, by rw [e], rfl⟩
 refine bB (α := Nat) (fun k => [(1, ptr h.next), (3, .int .i64 (k : Nat))]) (fun _ => H) (fun k => k ≤ x.groups.length ∧ k ≤ 6 ∧ (x.groups.take k).all (mayGroup x.nodes) = true) (fun k => x.groups.length - k) 0 ⟨Ao _, Ao _, rfl⟩ (aI (aA rfl (aA rfl aN))) ?_
 rintro k ⟨hk, hk6, ha⟩
 by_cases hlt : k < x.groups.length
 ·
  by_cases hlt6 : k < 6
  ·
   obtain ⟨g, hg1⟩ := gX (l := x.groups) (k := k) hlt
   obtain ⟨v, hv⟩ := gX (l := vs) (k := k) (by omega)
   obtain ⟨q1, q2⟩ := r4 k v g hv hg1
   have hst := qc5 (p := mayGroup x.nodes) hg1
   rw [ha, Cp] at hst
   have hu : vs[((k : Nat) : Int).toNat]? = some v := hv
   have cb := fun (h' : Heap) (hx : Ext H h') => qcQ x vg v g h' (q1.ext hx) q2
   cases hm : mayGroup x.nodes g with
   | true =>
    rw [hm] at cb hst
    repeat (first | refine W.w ?_ | refine aE rfl ?_ | (refine zz rfl ?_; first | refine qac rfl ?_ | refine qae rfl ?_ | refine qan rfl ?_ | refine qaf rfl rfl hg rfl ?_ | refine qaz r1 rfl ?_ | refine qak rfl rfl rfl (by omega) ?_ | refine qag (v := .bool _) rfl rfl ?_))
    refine bJ (σ := [(0, .R), (1, .R), (2, .R), (3, .R), (4, .R), (5, .R), (6, .R), (7, .R)]) mixed (by kernel_rfl) ?_
    repeat (first | refine dr rfl rfl (fun _ hx _ => qac rfl ⟨rfl, rfl⟩) ?_ | refine dr rfl rfl (fun _ hx _ => qam (sz := 5) rfl rfl (hx.c _ _ hg) (Aa _) ⟨rfl, rfl⟩) ?_ | refine dr rfl rfl (fun _ hx _ => qan rfl ⟨rfl, rfl⟩) ?_ | refine dr rfl rfl (fun _ hx _ => qaf rfl rfl (hx.c _ _ hg) rfl ⟨rfl, rfl⟩) ?_ | refine dr rfl rfl (fun _ hx _ => qas (r1.ext hx) rfl rfl (by omega) hu fun _ => ⟨rfl, rfl⟩) ?_ | refine dr rfl rfl (fun _ hx _ => qar (bL (r1.ext hx) hu) rfl rfl ⟨rfl, rfl⟩) ?_ | refine dr rfl rfl (fun h' hx _ => qab rfl rfl (cb h' hx) ⟨rfl, rfl⟩) ?_ | refine dr rfl rfl (fun _ hx _ => qaF rfl ⟨rfl, rfl⟩) ?_)
    refine aX ?_
    repeat (first | refine W.w ?_ | refine aG rfl ?_ | (refine zz rfl ?_; first | refine qac rfl ?_ | refine qad rfl ?_ | refine qau rfl rfl (by omega) ?_))
    exact ⟨k + 1, ⟨hlt, by omega, hst⟩, by omega, aI (aA rfl (aA rfl aN))⟩
   | false =>
    rw [hm] at cb
    repeat (first | refine W.w ?_ | refine aE rfl ?_ | (refine zz rfl ?_; first | refine qac rfl ?_ | refine qae rfl ?_ | refine qan rfl ?_ | refine qaf rfl rfl hg rfl ?_ | refine qaz r1 rfl ?_ | refine qak rfl rfl rfl (by omega) ?_ | refine qag (v := .bool _) rfl rfl ?_))
    refine bJ (σ := [(0, .R), (1, .R), (2, .R), (3, .R), (4, .R), (5, .R), (6, .R), (7, .R)]) mixed (by kernel_rfl) ?_
    repeat (first | refine dr rfl rfl (fun _ hx _ => qac rfl ⟨rfl, rfl⟩) ?_ | refine dr rfl rfl (fun _ hx _ => qam (sz := 5) rfl rfl (hx.c _ _ hg) (Aa _) ⟨rfl, rfl⟩) ?_ | refine dr rfl rfl (fun _ hx _ => qan rfl ⟨rfl, rfl⟩) ?_ | refine dr rfl rfl (fun _ hx _ => qaf rfl rfl (hx.c _ _ hg) rfl ⟨rfl, rfl⟩) ?_ | refine dr rfl rfl (fun _ hx _ => qas (r1.ext hx) rfl rfl (by omega) hu fun _ => ⟨rfl, rfl⟩) ?_ | refine dr rfl rfl (fun _ hx _ => qar (bL (r1.ext hx) hu) rfl rfl ⟨rfl, rfl⟩) ?_ | refine dr rfl rfl (fun h' hx _ => qab rfl rfl (cb h' hx) ⟨rfl, rfl⟩) ?_ | refine dr rfl rfl (fun _ hx _ => qaF rfl ⟨rfl, rfl⟩) ?_)
    refine aX ?_
    repeat (first | refine W.w ?_ | refine aE rfl ?_ | refine zz rfl (qaa rfl ?_))
    exact ⟨_, aC rfl, fin false (maySet_bad hg1 hm).symm⟩
  ·
   have cs := qfG x vg H
   have hno := maySet_len (x := x) (by omega)
   cases hs : sizesM x with
   | false =>
    rw [hs] at cs
    repeat (first | refine aW ?_ | refine aK rfl rfl ?_ | refine aR ?_ | refine aY ?_ | refine aG rfl ?_ | refine aM ?_ | refine aP ?_ | (refine zz rfl ?_; first | refine qac rfl ?_ | refine qae rfl ?_ | refine qaa rfl ?_ | refine qan rfl ?_ | refine qaf rfl rfl hg rfl ?_ | refine qaz r1 rfl ?_ | refine qak rfl rfl rfl (by omega) ?_ | refine qai rfl rfl rfl (by omega) ?_ | refine qag (v := .bool _) rfl rfl ?_ | refine qam (sz := 5) rfl rfl hg (Aa _) ?_ | refine qab rfl rfl cs ?_))
    exact ⟨_, aC rfl, fin false hno.symm⟩
   | true =>
    rw [hs] at cs
    repeat (first | refine aW ?_ | refine aR ?_ | refine aY ?_ | refine aG rfl ?_ | refine aM ?_ | refine aP ?_ | (refine zz rfl ?_; first | refine qac rfl ?_ | refine qae rfl ?_ | refine qaa rfl ?_ | refine qan rfl ?_ | refine qaf rfl rfl hg rfl ?_ | refine qaz r1 rfl ?_ | refine qak rfl rfl rfl (by omega) ?_ | refine qai rfl rfl rfl (by omega) ?_ | refine qag (v := .bool _) rfl rfl ?_ | refine qam (sz := 5) rfl rfl hg (Aa _) ?_ | refine qab rfl rfl cs ?_))
    exact ⟨_, aC rfl, fin false hno.symm⟩
 ·
  obtain rfl : k = x.groups.length := by omega
  rw [Au] at ha
  have cs := qfG x vg H
  have hm : maySet x = (sizesM x && decide (2 ≤ x.groups.length ∧ x.groups.length ≤ 5)) := by unfold maySet; rw [ha, Df]
  cases hs : sizesM x with
  | false =>
   rw [hs] at cs hm
   repeat (first | refine aW ?_ | refine aK rfl rfl ?_ | refine aR ?_ | refine aY ?_ | refine aG rfl ?_ | refine aM ?_ | refine aP ?_ | (refine zz rfl ?_; first | refine qac rfl ?_ | refine qae rfl ?_ | refine qaa rfl ?_ | refine qan rfl ?_ | refine qaf rfl rfl hg rfl ?_ | refine qaz r1 rfl ?_ | refine qai rfl rfl rfl (by omega) ?_ | refine qag (v := .bool _) rfl rfl ?_ | refine qam (sz := 5) rfl rfl hg (Aa _) ?_ | refine qab rfl rfl cs ?_))
   exact ⟨_, aC rfl, fin false hm.symm⟩
  | true =>
   rw [hs] at cs hm
   by_cases c1 : 2 ≤ x.groups.length
   ·
    by_cases c2 : x.groups.length ≤ 5
    ·
     rw [Al ⟨c1, c2⟩] at hm
     repeat (first | refine aW ?_ | refine aK rfl rfl ?_ | refine aR ?_ | refine aY ?_ | refine aG rfl ?_ | refine aM ?_ | refine aP ?_ | (refine zz rfl ?_; first | refine qac rfl ?_ | refine qae rfl ?_ | refine qaa rfl ?_ | refine qan rfl ?_ | refine qaf rfl rfl hg rfl ?_ | refine qaz r1 rfl ?_ | refine qak rfl rfl rfl (by omega) ?_ | refine qai rfl rfl rfl (by omega) ?_ | refine qag (v := .bool _) rfl rfl ?_ | refine qam (sz := 5) rfl rfl hg (Aa _) ?_ | refine qab rfl rfl cs ?_))
     exact ⟨_, aC rfl, fin true hm.symm⟩
    ·
     rw [Af fun e => c2 e.2] at hm
     repeat (first | refine aW ?_ | refine aK rfl rfl ?_ | refine aR ?_ | refine aY ?_ | refine aG rfl ?_ | refine aM ?_ | refine aP ?_ | (refine zz rfl ?_; first | refine qac rfl ?_ | refine qae rfl ?_ | refine qaa rfl ?_ | refine qan rfl ?_ | refine qaf rfl rfl hg rfl ?_ | refine qaz r1 rfl ?_ | refine qak rfl rfl rfl (by omega) ?_ | refine qai rfl rfl rfl (by omega) ?_ | refine qag (v := .bool _) rfl rfl ?_ | refine qam (sz := 5) rfl rfl hg (Aa _) ?_ | refine qab rfl rfl cs ?_))
     exact ⟨_, aC rfl, fin false hm.symm⟩
   ·
    rw [Af fun e => c1 e.1] at hm
    repeat (first | refine aW ?_ | refine aK rfl rfl ?_ | refine aR ?_ | refine aY ?_ | refine aG rfl ?_ | refine aM ?_ | refine aP ?_ | (refine zz rfl ?_; first | refine qac rfl ?_ | refine qae rfl ?_ | refine qaa rfl ?_ | refine qan rfl ?_ | refine qaf rfl rfl hg rfl ?_ | refine qaz r1 rfl ?_ | refine qai rfl rfl rfl (by omega) ?_ | refine qag (v := .bool _) rfl rfl ?_ | refine qam (sz := 5) rfl rfl hg (Aa _) ?_ | refine qab rfl rfl cs ?_))
    exact ⟨_, aC rfl, fin false hm.symm⟩
end Go.Proofs.YtigmojilaadbhaaGreatDoor
/- . -/
namespace Go.Proofs.YtigmojilaadbhaaGreatDoor
open Go Go.Eng Go.Pln Go.Lib Go.Proofs.Tryz
attribute [local irreducible] AWp AL DAL AOp TAL
instance i_group : FnC prog 71 := ⟨Tryz.f71, func71, by kernel_rfl, by kernel_rfl⟩
theorem groupL_len {l : List Int} (hi : ∀ n ∈ l, I64 n) (hl : l.length ≤ 1000) : (groupL l).length ≤ 2000000 := by
 have := qbF 30 (wGroup :: l.map itoa) (by
  intro w hw
  rcases Ak.1 hw with rfl | hw
  ·
   decide
  ·
   obtain ⟨n, hn, rfl⟩ := Bp.1 hw
   have := qbm (hi n hn).1 (hi n hn).2
   omega)
 simp only [Ad, Ap] at this
 have h2 := Bo (30 + 1) (show l.length + 1 ≤ 1001 by omega)
 unfold groupL
 omega
theorem group_c (v : Value) (l : List Int) (h : Heap) (t : Tabs h) (r : RS h v (iv64 l)) (hi : ∀ n ∈ l, I64 n) (hl : l.length ≤ 1000) : ACalls prog 71 [v] h fun u h' => u = str (groupL l) ∧ h' = h := by
 refine aL fun wf => aO ?_
 refine aD func71 rfl rfl ?_
 obtain ⟨va, vc, hv⟩ := bC r
 have hml : (iv64 l).length = l.length := Ap _
 repeat (first | refine W.w ?_ | (refine zz rfl ?_; first | refine qac rfl ?_ | refine qah rfl ?_ | refine qal (v := v) rfl ?_ | refine qaz r rfl ?_))
 refine bB (α := Nat × Heap) (fun d => [(3, str (groupL (l.take d.1))), (6, v), (7, .int .i64 ((iv64 l).length : Nat)), (8, .int .i64 (d.1 : Nat))]) (fun d => d.2) (fun d => d.1 ≤ l.length ∧ Ext h d.2 ∧ WF d.2) (fun d => l.length - d.1) (0, h) ⟨Ao _, aU h, wf⟩
  (aI (aA rfl (aA rfl (aA rfl (aA rfl aN))))) ?_
 rintro ⟨k, H⟩ ⟨hk, hx, wfH⟩
 replace hk : k ≤ l.length := hk
 replace hx : Ext h H := hx
 replace wfH : WF H := wfH
 show AWp _ _ _ _ [(3, str (groupL (l.take k))), (6, v), (7, .int .i64 ((iv64 l).length : Nat)), (8, .int .i64 (k : Nat))] H
 by_cases hlt : k < l.length
 ·
  obtain ⟨n, hn⟩ := gX (l := l) (k := k) hlt
  have hx2 : (iv64 l)[((k : Nat) : Int).toNat]? = some (.int .i64 n) := by
   show (l.map _)[k]? = _
   rw [Bm, hn]
   rfl
  have hI := hi n (Aw hn)
  have hg := groupL_len (l := l.take k) (fun m hm => hi m (Cg hm)) (by rw [Bb]; omega)
  have ct := qbs [.txt (groupL (l.take k)), .num n] H 2 rfl wfH (t.ext hx) ⟨⟨trivial, hg⟩, ⟨hI, trivial⟩, trivial⟩ (by show 2 ≤ 1000; omega)
  repeat (first | refine W.w ?_ | refine aE rfl ?_ | refine zz rfl (qak rfl rfl rfl (by omega) ?_) | refine zz rfl (qba (r.ext hx) rfl rfl (by omega) hx2 ?_))
  intro p hp
  repeat (first | refine W.w ?_ | (refine zz rfl ?_; first | refine qac rfl ?_ | refine qaj rfl ?_ | refine qad rfl ?_ | refine qah rfl ?_ | refine qar hp rfl rfl ?_ | refine qa5 rfl rfl ?_ | refine qaN (([.txt (groupL (l.take k)), .num n] : List WArg).map argV) rfl rfl rfl rfl (qa1 _) ?_ | refine qab rfl rfl ct ?_ | refine qau rfl rfl (by omega) ?_))
  refine ⟨(k + 1, H.alloc (rowA [.txt (groupL (l.take k)), .num n])), ⟨hlt, hx.trans (wfH.ext _), wfH.alloc _⟩, by show l.length - (k + 1) < l.length - k; omega, aI (aA ?_ (aA rfl (aA rfl (aA rfl aN))))⟩
  show str (joinW [groupL (l.take k), itoa n]) = str (groupL (l.take (k + 1)))
  unfold groupL
  rw [qbV hn, qfv (by simp)]
  rfl
 ·
  obtain rfl : k = l.length := by omega
  rw [Au]
  repeat (first | refine aW ?_ | refine aR ?_ | refine aY ?_ | refine aG rfl ?_ | refine aM ?_ | refine aP ?_ | (refine zz rfl ?_; first | refine qaj rfl ?_ | refine qah rfl ?_ | refine qai rfl rfl rfl (by omega) ?_))
  exact ⟨_, aC rfl, rfl, hx, rfl, rfl⟩
def headV (x : SetM) : Value := if maySet x then .tuple #[str (catN (headsM x)), .int .i64 0] else .tuple #[str [], .int .i64 2]
instance i_members : FnC prog 108 := ⟨Tryz.f108, func108, by kernel_rfl, by kernel_rfl⟩
theorem qc3 (w : Bytes) : I64 (numP w) := by
 unfold numP
 split
 ·
  rename_i n hn
  have := qfn hn
  split
  ·
   exact this
  ·
   exact ⟨by omega, by omega⟩
 ·
  exact ⟨by omega, by omega⟩
theorem iv64_app (l : List Int) (n : Int) : iv64 l ++ [Value.int .i64 n] = iv64 (l ++ [n]) := by simp
structure MbI (H1 : Heap) (rd : Nat) (s rest : Bytes) (acc : List Int) (H : Heap) (u : Value) : Prop where
 r : Rdr H1 rd rest H
 eq : membersV 4 s = acc ++ membersV (4 - acc.length) rest
 le : acc.length ≤ 4
 os : OS H1.next H 3 u (iv64 acc)
 num : ∀ n ∈ acc, I64 n
 len : rest.length ≤ s.length
theorem members_c (s : Bytes) (h : Heap) (t : Tabs h) (h8 : 8 ≤ h.next) (hl : s.length ≤ 1000000000) : ACalls prog 108 [str s] h fun u h' => ∃ v, u = .tuple #[v, .bool (membersP s).2] ∧ OS h.next h' 3 v (iv64 (membersP s).1) ∧ Ext h h' := by
 refine aL fun wf => ?_
 refine aD func108 rfl rfl ?_
 repeat (first | refine W.w ?_ | (refine zz rfl ?_; first | refine qaj rfl ?_ | refine qaR rfl ?_ | refine qaa rfl ?_ | refine qay (out := [str s]) rfl rfl ?_))
 refine zz rfl (qaS (v := .agg #[str s]) rfl (by intro e; cases e) ?_)
 refine aS (h := h.alloc (rdB s)) rfl ?_
 generalize hH : h.alloc (rdB s) = H1
 have gr : H1.get h.next = some (rdB s) := hH ▸ aB _ _
 have x1 : Ext h H1 := hH ▸ wf.ext _
 have w1 : WF H1 := hH ▸ wf.alloc _
 have n1 : h.next < H1.next := w1.lt gr
 clear hH
 have r1 : Rdr H1 h.next s H1 := ⟨by rw [qd7 gr]; exact aU H1, w1, w1, n1, h8, Aa _, t.ext x1⟩
 have xb : ∀ b, Ext h (H1.set h.next b) := fun b => wf.ext_set x1 (Aa _) b
 generalize h.next = rd at gr n1 h8 r1 xb ⊢
 repeat (first | refine W.w ?_ | refine zz rfl (qaB rfl ?_) | refine zz rfl (qcE rfl ?_))
 refine zz rfl (qat (evs := [ptr rd]) rfl rfl ((qcW r1 hl).mono ?_))
 rintro _ H2 ⟨rfl, hH2⟩
 have r2 : Rdr H1 rd (cutS s).2 H2 := hH2 ▸ r1.set _
 clear hH2
 have hcl := (qbu s).2
 have hmp : membersP s = (membersV 4 (cutS s).2, decide (groupL (membersV 4 (cutS s).2) = s)) := rfl
 rw [hmp]
 generalize (cutS s).2 = s1 at r2 hcl ⊢
 repeat (first | refine W.w ?_ | refine zz rfl (qaR rfl ?_))
 refine bB (α := Bytes × List Int × Heap × Value) (fun d => [(0, str s), (4, ptr rd), (5, d.2.2.2)]) (fun d => d.2.2.1) (fun d => MbI H1 rd s1 d.1 d.2.1 d.2.2.1 d.2.2.2) (fun d => d.1.length) (s1, [], H2, .slice none 0 0) ⟨r2, rfl, Ao _, bP _ _ _, (fun n hn => by cases hn), Aa _⟩
  (aI (aA rfl (aA rfl (aA rfl aN)))) ?_
 rintro ⟨rest, acc, H, u⟩ k
 replace k : MbI H1 rd s1 rest acc H u := k
 show AWp _ _ _ _ [(0, str s), (4, ptr rd), (5, u)] H
 obtain ⟨kr, ke, kl, ko, kn, kq⟩ := k
 have hb := kr.box
 obtain ⟨ua, uc, hu⟩ := bC ko.rs
 have hml : (iv64 acc).length = acc.length := Ap _
 have xH : Ext h H := (xb _).trans kr.ext
 have cg := group_c u acc H kr.tabs ko.rs kn (by omega)
 have fin : membersV 4 s1 = acc → ∀ b, b = decide (groupL acc = s) → ∃ v, Value.tuple #[u, .bool b] = .tuple #[v, .bool (decide (groupL (membersV 4 s1) = s))] ∧ OS rd H 3 v (iv64 (membersV 4 s1)) ∧ Ext h H := fun e b hb => by
  rw [e, hb]
  exact ⟨u, rfl, cF ko (Dy n1), xH⟩
 by_cases h1 : rest = []
 ·
  have e0 : membersV 4 s1 = acc := by
   rw [ke, h1]
   cases 4 - acc.length <;> simp [membersV]
  by_cases hg : groupL acc = s
  ·
   repeat (first | refine aW ?_ | refine aK rfl rfl ?_ | refine aR ?_ | refine aY ?_ | refine aG rfl ?_ | refine aM ?_ | refine aP ?_ | (refine zz rfl ?_; first | refine qae rfl ?_ | refine qaB rfl ?_ | refine qaj rfl ?_ | refine qaa rfl ?_ | refine qaH rfl ?_ | refine qan rfl ?_ | refine qaf rfl rfl hb rfl ?_ | refine qbi (a := rest) (b := []) rfl rfl h1 ?_ | refine qag (v := .bool _) rfl rfl ?_ | refine qal (v := u) rfl ?_ | refine qao (v := u) rfl ?_ | refine qab rfl rfl cg ?_ | refine qaP rfl rfl hg ?_))
   exact ⟨_, bG rfl, fin e0 _ (Al hg).symm⟩
  ·
   repeat (first | refine aW ?_ | refine aK rfl rfl ?_ | refine aR ?_ | refine aY ?_ | refine aG rfl ?_ | refine aM ?_ | refine aP ?_ | (refine zz rfl ?_; first | refine qae rfl ?_ | refine qaB rfl ?_ | refine qaj rfl ?_ | refine qaa rfl ?_ | refine qaH rfl ?_ | refine qan rfl ?_ | refine qaf rfl rfl hb rfl ?_ | refine qbi (a := rest) (b := []) rfl rfl h1 ?_ | refine qag (v := .bool _) rfl rfl ?_ | refine qal (v := u) rfl ?_ | refine qao (v := u) rfl ?_ | refine qab rfl rfl cg ?_ | refine qaM rfl rfl hg ?_))
   exact ⟨_, bG rfl, fin e0 _ (Af hg).symm⟩
 ·
  by_cases h2 : acc.length ≤ 3
  ·
   repeat (first | refine W.w ?_ | refine aE rfl ?_ | (refine zz rfl ?_; first | refine qae rfl ?_ | refine qaB rfl ?_ | refine qaH rfl ?_ | refine qan rfl ?_ | refine qaf rfl rfl hb rfl ?_ | refine qbg (a := rest) (b := []) rfl rfl h1 ?_ | refine qag (v := .bool _) rfl rfl ?_ | refine qal (v := u) rfl ?_ | refine qaz ko.rs rfl ?_ | refine qak rfl rfl rfl (by omega) ?_))
   refine zz rfl (qat (evs := [ptr rd]) rfl rfl ((qbh kr (by omega)).mono ?_))
   rintro _ H3 ⟨rfl, hH3⟩
   have r3 : Rdr H1 rd (numS rest).2 H3 := hH3 ▸ kr.set _
   have x3 : Ext (H.set rd (rdB (numS rest).2)) H3 := hH3 ▸ aU _
   have o3 := OS.over ko (by omega) x3
   have hc2 := cutS_lt h1
   have hc3 : (numS rest).2.length < rest.length := hc2
   clear hH3
   repeat (first | refine zz rfl (qaN [.int .i64 (numS rest).1] rfl rfl rfl rfl (by intro w hw; rw [Ax.1 hw]; rfl) ?_))
   obtain ⟨H4, hQ, gq, xr, wr, _⟩ := aq r3.wf ⟨[.int .i64 (numS rest).1], 3, true⟩
   rw [hQ]
   have r4 := r3.grow xr wr (by have := wr.lt gq; omega)
   have o4 := o3.ext xr
   have rn : RS H4 (.slice (some ⟨H3.next, 0, some 1⟩) 1 1) [.int .i64 (numS rest).1] := bK gq rfl
   refine zz rfl (qaX (by_ := 8) (z := .int .i64 0) (B := H1.next) (e := 3) rfl wr r4.nx o4 rfl rfl rn.src rfl rfl (by rw [hml]; simp only [maxLen, Ad, Ag]; omega) (by rw [hml]; simp only [Ad, Ag]; omega) ?_)
   intro u' H5 o5 k5 wf5 n5
   rw [iv64_app] at o5
   have r5 : Rdr H1 rd (numS rest).2 H5 := ⟨k5.ext o4 (w1.set n1 _) (Aa _) r4.ext, wf5, w1, n1, h8, by have := r4.nx; omega, t.ext x1⟩
   repeat (first | refine aW ?_ | refine zz rfl (qao (v := u') rfl ?_))
   refine ⟨((numS rest).2, acc ++ [(numS rest).1], H5, u'), ⟨r5, ?_, by simp only [An, Ad, Ag]; omega, o5, ?_, by show (numS rest).2.length ≤ s1.length; omega⟩, hc3, aI (aA rfl (aA rfl (aA rfl aN)))⟩
   ·
    show membersV 4 s1 = (acc ++ [(numS rest).1]) ++ membersV (4 - (acc ++ [(numS rest).1]).length) (numS rest).2
    rw [ke, An, show 4 - acc.length = (4 - (acc.length + [(numS rest).1].length)) + 1 by simp only [Ad, Ag]; omega, membersV, Ac h1]
    simp
   ·
    intro n hn
    rcases Bh.1 hn with hn | hn
    ·
     exact kn n hn
    ·
     rw [Ax.1 hn]
     exact qc3 _
  ·
   have e0 : membersV 4 s1 = acc := by rw [ke, show 4 - acc.length = 0 by omega, membersV, Ck]
   by_cases hg : groupL acc = s
   ·
    repeat (first | refine aW ?_ | refine aR ?_ | refine aY ?_ | refine aG rfl ?_ | refine aM ?_ | refine aP ?_ | (refine zz rfl ?_; first | refine qae rfl ?_ | refine qaB rfl ?_ | refine qaj rfl ?_ | refine qaa rfl ?_ | refine qaH rfl ?_ | refine qan rfl ?_ | refine qaf rfl rfl hb rfl ?_ | refine qbg (a := rest) (b := []) rfl rfl h1 ?_ | refine qag (v := .bool _) rfl rfl ?_ | refine qal (v := u) rfl ?_ | refine qao (v := u) rfl ?_ | refine qaz ko.rs rfl ?_ | refine qai rfl rfl rfl (by omega) ?_ | refine qab rfl rfl cg ?_ | refine qaP rfl rfl hg ?_))
    exact ⟨_, bG rfl, fin e0 _ (Al hg).symm⟩
   ·
    repeat (first | refine aW ?_ | refine aR ?_ | refine aY ?_ | refine aG rfl ?_ | refine aM ?_ | refine aP ?_ | (refine zz rfl ?_; first | refine qae rfl ?_ | refine qaB rfl ?_ | refine qaj rfl ?_ | refine qaa rfl ?_ | refine qaH rfl ?_ | refine qan rfl ?_ | refine qaf rfl rfl hb rfl ?_ | refine qbg (a := rest) (b := []) rfl rfl h1 ?_ | refine qag (v := .bool _) rfl rfl ?_ | refine qal (v := u) rfl ?_ | refine qao (v := u) rfl ?_ | refine qaz ko.rs rfl ?_ | refine qai rfl rfl rfl (by omega) ?_ | refine qab rfl rfl cg ?_ | refine qaM rfl rfl hg ?_))
    exact ⟨_, bG rfl, fin e0 _ (Af hg).symm⟩
instance i_first : FnC prog 60 := ⟨Tryz.f60, func60, by kernel_rfl, by kernel_rfl⟩
instance i_StD_api_Setup : StD prog 24 [(0, 1), (1, 1), (2, 1), (3, 1), (4, 1)] := ⟨_, underlying24, by kernel_rfl⟩
abbrev nilS : Value := .slice none 0 0
abbrev setB (x : SetM) : Blk := ⟨setC nilS x, 24, true⟩
theorem first_c (s : Bytes) (h : Heap) (t : Tabs h) (h8 : 8 ≤ h.next) (hl : s.length ≤ 1000000000) : ACalls prog 60 [str s] h fun u h' => u = .tuple #[.agg (setC nilS (firstP s).1).toArray, .bool (firstP s).2] ∧ Ext h h' := by
 refine aL fun wf => ?_
 refine aD func60 rfl rfl ?_
 repeat (first | refine W.w ?_)
 refine zz rfl (qax ?_)
 refine aS (h := h.alloc (setB set0)) rfl ?_
 generalize hH : h.alloc (setB set0) = H0
 have g0 : H0.get h.next = some (setB set0) := hH ▸ aB _ _
 have x0 : Ext h H0 := hH ▸ wf.ext _
 have w0 : WF H0 := hH ▸ wf.alloc _
 have n0' : h.next < H0.next := w0.lt g0
 clear hH
 repeat (first | refine W.w ?_ | (refine zz rfl ?_; first | refine qaj rfl ?_ | refine qaa rfl ?_ | refine qay (out := [str s]) rfl rfl ?_))
 refine zz rfl (qaS (v := .agg #[str s]) rfl (by intro e; cases e) ?_)
 refine aS (h := H0.alloc (rdB s)) rfl ?_
 generalize hH : H0.alloc (rdB s) = H1
 have gr : H1.get H0.next = some (rdB s) := hH ▸ aB _ _
 have x1 : Ext H0 H1 := hH ▸ w0.ext _
 have w1 : WF H1 := hH ▸ w0.alloc _
 have n1 : H0.next < H1.next := w1.lt gr
 clear hH
 have r1 : Rdr H1 H0.next s H1 := ⟨by rw [qd7 gr]; exact aU H1, w1, w1, n1, by omega, Aa _, t.ext (x0.trans x1)⟩
 have g1 := x1.c _ _ g0
 have xb : ∀ b, Ext h (H1.set H0.next b) := fun b => wf.ext_set (x0.trans x1) (by omega) b
 have hne : h.next ≠ H0.next := by omega
 have lr : h.next ≤ H1.next := by omega
 have lx : h.next < H1.next := by omega
 generalize H0.next = rd at gr n1 r1 xb hne ⊢
 repeat (first | refine W.w ?_ | refine zz rfl (qaB rfl ?_) | refine zz rfl (qcE rfl ?_))
 refine zz rfl (qat (evs := [ptr rd]) rfl rfl ((qcW r1 hl).mono ?_))
 rintro _ H2 ⟨rfl, hH2⟩
 have r2 : Rdr H1 rd (cutS s).2 H2 := hH2 ▸ r1.set _
 clear hH2
 have hcl := (qbu s).2
 have hfp : firstP s = (firstV (cutS s).2, sizesM (firstV (cutS s).2) && decide (firstL (firstV (cutS s).2) = s)) := rfl
 rw [hfp]
 generalize (cutS s).2 = s1 at r2 hcl ⊢
 have l1 := qcl s1
 have l2 := qcl (numS s1).2
 have l3 := qcl (numS (numS s1).2).2
 repeat (first | refine W.w ?_ | refine zz rfl (qaB rfl ?_))
 refine zz rfl (qat (evs := [ptr rd]) rfl rfl ((qbh r2 (by omega)).mono ?_))
 rintro _ H3 ⟨rfl, hH3⟩
 have r3 : Rdr H1 rd (numS s1).2 H3 := hH3 ▸ r2.set _
 clear hH3
 repeat (first | refine zz rfl (qaB rfl ?_))
 refine zz rfl (qat (evs := [ptr rd]) rfl rfl ((qbh r3 (by omega)).mono ?_))
 rintro _ H4 ⟨rfl, hH4⟩
 have r4 : Rdr H1 rd (numS (numS s1).2).2 H4 := hH4 ▸ r3.set _
 clear hH4
 repeat (first | refine zz rfl (qaB rfl ?_))
 refine zz rfl (qat (evs := [ptr rd]) rfl rfl ((qbh r4 (by omega)).mono ?_))
 rintro _ H5 ⟨rfl, hH5⟩
 have r5 : Rdr H1 rd (numS (numS (numS s1).2).2).2 H5 := hH5 ▸ r4.set _
 clear hH5
 repeat (first | refine zz rfl (qaB rfl ?_))
 refine zz rfl (qat (evs := [ptr rd]) rfl rfl ((qbh r5 (by omega)).mono ?_))
 rintro _ H6 ⟨rfl, hH6⟩
 have r6 : Rdr H1 rd (numS (numS (numS (numS s1).2).2).2).2 H6 := hH6 ▸ r5.set _
 clear hH6
 obtain ⟨x, hx⟩ : ∃ x, x = firstV s1 := ⟨_, rfl⟩
 have hI : I64 x.nodes ∧ I64 x.disk ∧ I64 x.memory ∧ I64 x.level := by rw [hx]; exact ⟨qc3 _, qc3 _, qc3 _, qc3 _⟩
 rw [← hx]
 repeat (first | refine W.w ?_ | refine zz rfl (qay (out := setC nilS x) rfl (by rw [hx]; rfl) ?_) | refine zz rfl (qax ?_) | refine aJ rfl (qaL (vs := setC nilS x) rfl rfl rfl rfl rfl ?_))
 have g5 := aB H6 (setB x)
 have x6 := r6.wf.ext (setB x)
 have w6 := r6.wf.alloc (setB x)
 have g2 := x6.c _ _ (r6.ext.c _ _ ((aH hne).trans g1))
 have xh := (xb _).trans (r6.ext.trans x6)
 have th := r6.tabs.ext x6
 have nb : h.next < (H6.alloc (setB x)).next := by
  have := r6.nx
  show h.next < H6.next + 1
  omega
 refine cX (h := H6.alloc (setB x)) rfl ?_
 have nc : h.next ≠ H6.next := by have := r6.nx; omega
 generalize H6.alloc (setB x) = H7 at g5 w6 g2 xh th nb ⊢
 generalize H6.next = b5 at g5 nc ⊢
 have cs := sizes_c x nilS (by intro e; cases e) 
 cases hs : sizesM x with
 | false =>
  rw [hs] at cs
  refine cD (t := OT.seq [(0, .R), (1, .R), (2, .R), (3, .R), (19, .P), (4, .R), (5, .R), (6, .R), (7, .R), (8, .R), (9, .R), (10, .R), (11, .R), (12, .R), (13, .R), (14, .R), (15, .R), (16, .R), (17, .X), (18, .R), (20, .P), (21, .P), (22, .W), (23, .P)] .nil) mixed (by kernel_rfl) ?_
  repeat' (first | refine cY rfl rfl rfl ?_ | refine tr rfl rfl (fun _ hx _ => qae rfl ⟨rfl, rfl⟩) ?_ | refine tr rfl rfl (fun _ hx _ => qam (sz := 5) rfl rfl (hx.c _ _ g5) (Aa _) ⟨rfl, rfl⟩) ?_ | refine tr rfl rfl (fun h' hx _ => qab rfl rfl (cs h') ⟨rfl, rfl⟩) ?_ | refine tp rfl rfl (fun h' hn => qag (v := .bool _) rfl rfl ⟨rfl, rfl⟩) ?_)
  refine dG rfl rfl (qaq (vs := setC nilS x) rfl rfl rfl rfl g2 rfl ?_)
  repeat' (first | refine bD ?_ | refine tp rfl rfl (fun h' hn => qaa rfl ⟨rfl, rfl⟩) ?_)
  repeat (first | refine aM ?_)
  exact ⟨_, aV rfl rfl rfl (aF _ _ _) (Aa _), rfl, wf.ext_set xh (Aa _) _⟩
 | true =>
  rw [hs] at cs
  have ct := qhk [.txt wSetup, .num x.nodes, .num x.disk, .num x.memory, .num x.level] H7 5 rfl w6 th ⟨⟨trivial, Ab rfl⟩, ⟨hI.1, trivial⟩, ⟨hI.2.1, trivial⟩, ⟨hI.2.2.1, trivial⟩, ⟨hI.2.2.2, trivial⟩, trivial⟩ (by show 5 ≤ 1000; omega)
  have ct' : ∀ h', Ext (H7.alloc (rowA [.txt wSetup, .num x.nodes, .num x.disk, .num x.memory, .num x.level])) h' → ACalls prog 43 [.slice (some ⟨H7.next, 0, some 1⟩) 5 5] h' fun u h'' => u = str (firstL x) ∧ h'' = h' := ct
  refine cD (t := OT.seq [(0, .R), (1, .R), (2, .R), (3, .R), (19, .P), (4, .R), (5, .R), (6, .R), (7, .R), (8, .R), (9, .R), (10, .R), (11, .R), (12, .R), (13, .R), (14, .R), (15, .R), (16, .R), (17, .X), (18, .R), (20, .P), (21, .P), (22, .W), (23, .P)] .nil) mixed (by kernel_rfl) ?_
  repeat' (first | refine tr rfl rfl (fun _ hx _ => qae rfl ⟨rfl, rfl⟩) ?_ | refine tp rfl rfl (fun h' hn => qaj rfl ⟨rfl, rfl⟩) ?_ | refine tr rfl rfl (fun _ hx _ => qam (sz := 5) rfl rfl (hx.c _ _ g5) (Aa _) ⟨rfl, rfl⟩) ?_ | refine tr rfl rfl (fun h' hx _ => qab rfl rfl (cs h') ⟨rfl, rfl⟩) ?_ | refine tr rfl rfl (fun _ hx _ => qan rfl ⟨rfl, rfl⟩) ?_ | refine tr rfl rfl (fun _ hx _ => qaf rfl rfl (hx.c _ _ g5) rfl ⟨rfl, rfl⟩) ?_ | refine tr rfl rfl (fun _ hx _ => qa5 rfl rfl ⟨rfl, rfl⟩) ?_)
  refine cW rfl rfl rfl (qaN (([.txt wSetup, .num x.nodes, .num x.disk, .num x.memory, .num x.level] : List WArg).map argV) rfl rfl rfl rfl (qa1 _) ⟨w6.ext _, ?_⟩)
  have x8 := w6.ext (rowA [.txt wSetup, .num x.nodes, .num x.disk, .num x.memory, .num x.level])
  have g28 := x8.c _ _ g2
  by_cases he : firstL x = s
  ·
   repeat' (first | refine tr rfl rfl (fun h' hx _ => qab rfl rfl (ct' h' hx) ⟨rfl, rfl⟩) ?_ | refine tp rfl rfl (fun h' hn => qaP rfl rfl he ⟨rfl, rfl⟩) ?_ | refine tp rfl rfl (fun h' hn => qag (v := .bool _) rfl rfl ⟨rfl, rfl⟩) ?_)
   refine dG rfl rfl (qaq (vs := setC nilS x) rfl rfl rfl rfl g28 rfl ?_)
   repeat' (first | refine bD ?_ | refine tp rfl rfl (fun h' hn => qaa rfl ⟨rfl, rfl⟩) ?_)
   repeat (first | refine aM ?_)
   exact ⟨_, aV rfl rfl rfl (aF _ _ _) (Aa _), by rw [Al he]; rfl, wf.ext_set (xh.trans x8) (Aa _) _⟩
  ·
   repeat' (first | refine tr rfl rfl (fun h' hx _ => qab rfl rfl (ct' h' hx) ⟨rfl, rfl⟩) ?_ | refine tp rfl rfl (fun h' hn => qaM rfl rfl he ⟨rfl, rfl⟩) ?_ | refine tp rfl rfl (fun h' hn => qag (v := .bool _) rfl rfl ⟨rfl, rfl⟩) ?_)
   refine dG rfl rfl (qaq (vs := setC nilS x) rfl rfl rfl rfl g28 rfl ?_)
   repeat' (first | refine bD ?_ | refine tp rfl rfl (fun h' hn => qaa rfl ⟨rfl, rfl⟩) ?_)
   repeat (first | refine aM ?_)
   exact ⟨_, aV rfl rfl rfl (aF _ _ _) (Aa _), by rw [Af he]; rfl, wf.ext_set (xh.trans x8) (Aa _) _⟩
instance i_TyD_api_Script : TyD prog 44 (.struct #[fd "Setup" 24 0 "" 0, fd "Acts" 42 5 "" 56]) := ⟨underlying44⟩
instance i_TyI_api_Script : TyI prog 44 6 80 (.agg #[.int .i64 0, .slice none 0 0, .int .i64 0, .int .i64 0, .int .i64 0, .slice none 0 0]) := ⟨qaV (by kernel_rfl), rfl, rfl⟩
instance qg8 : FAd prog 44 0 0 := bA (ft := 24) underlying44 rfl rfl rfl rfl
instance qha : FAd prog 44 1 5 := bA (ft := 42) underlying44 rfl rfl rfl rfl
structure RA (h : Heap) (v : Value) (l : List ActM) : Prop where
 ex : ∃ rows, RN 33 h v rows ∧ rows.length = l.length ∧ ∀ (k : Nat) row a, rows[k]? = some row → l[k]? = some a → ∃ q, row = actC q a ∧ ActR h q a
 len : l.length ≤ 140737488351232
theorem RA.ext {h h' : Heap} {v : Value} {l : List ActM} (r : RA h v l) (hx : Ext h h') : RA h' v l := by
 obtain ⟨rows, h1, h2, h3⟩ := r.ex
 exact ⟨⟨rows, h1.ext hx, h2, fun k row a e1 e2 => by
  obtain ⟨q, e, hq⟩ := h3 k row a e1 e2
  exact ⟨q, e, hq.ext hx⟩⟩, r.len⟩
def scrC (vg va : Value) (x : SetM) : List Value := [.int .i64 x.nodes, vg, .int .i64 x.disk, .int .i64 x.memory, .int .i64 x.level, va]
abbrev scrB (vg va : Value) (x : SetM) : Blk := ⟨scrC vg va x, 44, true⟩
abbrev chkV (b : Nat) : Value := .func (.func 81) #[] #[ptr b]
def idxM (o : Option Nat) : Int := match o with
 | some i => (i : Int)
 | none => -1
end Go.Proofs.YtigmojilaadbhaaGreatDoor
/- . -/
namespace Go.Proofs.YtigmojilaadbhaaGreatDoor
open Go Go.Eng Go.Pln Go.Lib
theorem words_len {m k : Nat} {ws : List Bytes} (h : ∀ w ∈ ws, w.length ≤ m) (hl : ws.length ≤ k) : (joinW ws).length ≤ k * (m + 1) := by
 have h1 := qbF m ws h
 have h2 : ws.length * (m + 1) ≤ k * (m + 1) := Bo _ hl
 omega
theorem itoa_lenI {n : Int} (h0 : 0 ≤ n) (h1 : n ≤ 2147483647) : (itoa n).length ≤ 200 := by
 have := qbm (n := n) (by omega) (by omega)
 omega
end Go.Proofs.YtigmojilaadbhaaGreatDoor
/- . -/
namespace Go.Proofs.YtigmojilaadbhaaGreatDoor
open Go Go.Eng Go.Pln Go.Lib
attribute [local irreducible] AWp AL DAL AOp TAL
def textV (s : ScrM) : Value := if (checkM s).2 = 0 then (if 1048576 < (textM s).length then .tuple #[str [], .int .i64 3] else .tuple #[str (textM s), .int .i64 0]) else .tuple #[str [], .int .i64 (checkM s).2]
end Go.Proofs.YtigmojilaadbhaaGreatDoor
