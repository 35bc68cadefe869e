/-
  Texts of one claim, merged: 9 parts.
-/
import Derived.Test.YtiebmncpdnbcjaaMrgd
import Derived.Test.YtiebmncpdnbcjaaMrgc
import Derived.Test.YtiebmncpdnbcjaaMrgb
import Derived.Deep.Slices
import Derived.ChangeArms
import Derived.ChangeOld
import Derived.OpenShut
import Derived.SizedLaws
/-
  A disk's copy.
-/
namespace Go.Proofs.Ytiebmncpdnbcjaa
open Go Go.Eng Go.Dsk
attribute [local irreducible] AWp AL DAL AOp

instance : FnC Try.prog 37 := ⟨Try.f37, Try.func37, by kernel_rfl, by kernel_rfl⟩
theorem Ext.disk {i m room : Nat} {l : FL} {c : Nat} {h H : Heap} (x : Ext h H) (wf : WF h) (wfH : WF H) (hi : h.next ≤ i) (hm : h.next ≤ m) (li : i < H.next) (lm : m < H.next) : Ext h (stD H i m room l c) := by
  have k := st_ch (room := room) (l := l) (c := c) wfH li lm
  exact ⟨fun j b e => k.c j b (x.c j b e) (by have := wf.lt e; omega), fun j b e => k.o j b (x.o j b e) (by have := wf.ltO e; omega)⟩
/-- A copy on its way. -/
structure CW (h : Heap) (i m it m0 c room : Nat) (l l' : FL) (c' : Nat) (seen : List Nat) (H : Heap) (clk : Nat) : Prop where
  at_ : At H i m room l' c'
  cp : Cpd l l' seen
  it : H.obj it = some (.mapIter (some m0) c seen clk)
  clk : c ≤ clk
  ext : Ext h H
  wf : WF H
set_option maxHeartbeats 2000000 in
theorem copy_c (i m room : Nat) (l : FL) (c : Nat) (h : Heap) (a : At h i m room l c) :
    ACalls Try.prog 37 [ptr i] h fun u h' => ∃ i' m' l' c', u = ptr i' ∧ h.next ≤ i' ∧ h.next ≤ m' ∧ At h' i' m' room l' c' ∧ ((∀ s, getS l' s = getS l s) ∧ used l' = used l ∧ l'.length = l.length) ∧ Ext h h' ∧ WF h' ∧ h.next ≤ h'.next := by
  refine ACalls.wf fun wf => ?_
  refine ACalls.body Try.func37 rfl rfl ?_
  obtain ⟨li, lm⟩ := a.lt wf
  repeat (first | refine AL.nil ?_ | refine AWp.seq ?_ | refine AWp.region ?_ | refine AWp.condF rfl ?_ | refine AWp.skip ?_ | refine AL.set rfl rfl (op_moveP rfl ?_) | refine AL.set rfl rfl (op_assignP rfl ?_) | refine AL.set rfl rfl (op_callS rfl rfl (on_c i room (used l : Nat) (some m) h a.box) ?_) | refine AL.set rfl rfl (op_nilCheck rfl ?_) | refine AL.set rfl rfl (op_fa rfl ?_) | refine AL.set rfl rfl (op_load rfl rfl a.box rfl ?_) | refine AL.set rfl rfl (op_makeMap ?_) | refine AL.set rfl rfl (op_not rfl ?_))
  have hx1 := wf.extO (.map (ents []) 0)
  have wf1 := wf.allocO (.map (ents []) 0)
  have g1 := Heap.allocO_new h (.map (ents []) 0)
  have hn1 : (h.allocO (.map (ents []) 0)).next = h.next + 1 := rfl
  generalize h.allocO (.map (ents []) 0) = H1 at hx1 wf1 g1 hn1 ⊢
  refine AL.set rfl rfl (op_buildS (out := [.int .i64 (room : Nat), .int .i64 0, .map (some h.next)]) rfl rfl ?_)
  skip
  refine AL.set rfl rfl (op_box (v := .agg #[.int .i64 (room : Nat), .int .i64 0, .map (some h.next)]) rfl (by intro e; cases e) ?_)
  have a2 : At (H1.alloc (dskB room ((used [] : Nat)) (some h.next))) H1.next h.next room [] 0 := ⟨Heap.alloc_new _ _, g1, ⟨by simp, by simp, by simp, by simp [used], by simp, by simp⟩, a.big⟩
  have hx2 := hx1.trans (wf1.ext (dskB room ((used [] : Nat)) (some h.next)))
  have wf2 := wf1.alloc (dskB room ((used [] : Nat)) (some h.next))
  have hn2 : (H1.alloc (dskB room ((used [] : Nat)) (some h.next))).next = H1.next + 1 := rfl
  refine AL.heap (show _ = H1.alloc (dskB room ((used [] : Nat)) (some h.next)) from rfl) ?_
  generalize H1.alloc (dskB room ((used [] : Nat)) (some h.next)) = H2 at a2 hx2 wf2 hn2 ⊢
  repeat (first | refine AL.nil ?_ | refine AWp.seq ?_ | refine AWp.region ?_ | refine AL.set rfl rfl (op_moveP rfl ?_) | refine AL.set rfl rfl (op_assignP rfl ?_) | refine AL.set rfl rfl (op_nilCheck rfl ?_) | refine AL.set rfl rfl (op_fa rfl ?_) | refine AL.set rfl rfl (op_load rfl rfl (hx2.c _ _ a.box) rfl ?_))
  refine AL.set rfl rfl (op_rangeMap (l := kvF l) rfl (hx2.o _ _ a.map) ?_)
  repeat (first | refine AL.nil ?_ | refine AWp.block ?_)
  have hx3 := wf2.extO (.mapIter (some m) c [] c)
  have d0 : CW h H1.next h.next H2.next m c room l [] 0 [] (H2.allocO (.mapIter (some m) c [] c)) c :=
    ⟨⟨hx3.c _ _ a2.box, hx3.o _ _ a2.map, a2.ok, a2.big⟩, Cpd.nil l, Heap.allocO_new _ _, Nat.le_refl _, hx2.trans hx3, wf2.allocO _⟩
  refine AWp.loop (α := FL × Nat × List Nat × Heap × Nat) (fun _ => [(3, ptr H1.next), (20, .pointer (some ⟨H2.next, 0, none⟩))]) (fun d => d.2.2.2.1) (fun d => CW h H1.next h.next H2.next m c room l d.1 d.2.1 d.2.2.1 d.2.2.2.1 d.2.2.2.2) (fun d => left l d.2.2.1)
    ([], 0, [], H2.allocO (.mapIter (some m) c [] c), c) d0 (Weak.same (EW.cons rfl (EW.cons rfl EW.nil))) ?_
  rintro ⟨l', c', seen, H, clk⟩ d
  replace d : CW h H1.next h.next H2.next m c room l l' c' seen H clk := d
  show AWp _ _ _ _ [(3, ptr H1.next), (20, .pointer (some ⟨H2.next, 0, none⟩))] H
  have hm := d.ext.o _ _ a.map
  have lit := d.wf.ltO d.it
  repeat (first | refine AWp.seq ?_ | refine AWp.region ?_)
  refine AL.set rfl rfl (op_nextMap (l := kvF l) rfl d.it hm (fun e he => by obtain ⟨x, hx, rfl⟩ := kvF_mem he; exact a.ok.lt x hx) d.clk ?_ ?_)
  · intro hend
    repeat (first | refine AL.nil ?_ | refine AWp.seq ?_ | refine AWp.region ?_ | refine AWp.condF rfl ?_ | refine AWp.ret ?_ | refine AWp.exit ?_ | refine AL.set rfl rfl (op_moveP rfl ?_) | refine AL.set rfl rfl (op_assignP rfl ?_) | refine AL.set rfl rfl (op_extract rfl rfl ?_))
    refine ⟨_, ResV.tmp rfl, H1.next, h.next, l', c', rfl, by omega, Nat.le_refl _, d.at_, d.cp.all a.ok (fun e he => ?_), d.ext, d.wf, by omega⟩
    exact hend (e.1, fileV e.2.1, e.2.2) (List.mem_map.2 ⟨e, he, rfl⟩)
  · intro e he hns
    obtain ⟨x, hx, rfl⟩ := kvF_mem he
    replace hns : x.2.2 ∉ seen := hns
    have g1 := Heap.setO_at H H2.next (.mapIter (some m) c (seen ++ [x.2.2]) c)
    have ho : ∀ q b, H.obj q = some b → q ≠ H2.next → (H.setO H2.next (.mapIter (some m) c (seen ++ [x.2.2]) c)).obj q = some b := fun q b hq hne => (Heap.setO_other hne).trans hq
    have a3 : At (H.setO H2.next (.mapIter (some m) c (seen ++ [x.2.2]) c)) H1.next h.next room l' c' := ⟨d.at_.box, ho _ _ d.at_.map (by omega), d.at_.ok, d.at_.big⟩
    have g2 := ho _ _ hm (by omega)
    have wf3 := d.wf.setO lit (.mapIter (some m) c (seen ++ [x.2.2]) c)
    have x3 : Ext h (H.setO H2.next (.mapIter (some m) c (seen ++ [x.2.2]) c)) := ⟨fun j b e => d.ext.c j b e, fun j b e => ho j b (d.ext.o j b e) (by have := wf.ltO e; omega)⟩
    have n3 : (H.setO H2.next (.mapIter (some m) c (seen ++ [x.2.2]) c)).next = H.next := rfl
    generalize H.setO H2.next (.mapIter (some m) c (seen ++ [x.2.2]) c) = H3 at g1 g2 a3 wf3 x3 n3 ⊢
    repeat (first | refine AL.nil ?_ | refine AWp.seq ?_ | refine AWp.region ?_ | refine AWp.condT rfl ?_ | refine AWp.block ?_ | refine AWp.skip ?_ | refine AL.set rfl rfl (op_extract rfl rfl ?_))
    refine AL.set rfl rfl (op_entryMap (l := kvF l) rfl g1 g2 he rfl (by rw [kvF_borns]; exact a.ok.borns) ?_)
    repeat (first | refine AL.set rfl rfl (op_assignStr rfl ?_) | refine AL.set rfl rfl (op_extract rfl rfl ?_) | refine AL.set rfl rfl (op_allocF ?_))
    refine AL.eff rfl (op_storeF ([], []) x.2.1 rfl rfl (Heap.alloc_new _ _) ?_)
    refine AL.heap (Heap.set_alloc _ _ _) ?_
    have gf := Heap.alloc_new H3 (fileB x.2.1)
    have hx4 := wf3.ext (fileB x.2.1)
    have wf4 := wf3.alloc (fileB x.2.1)
    have n4 : (H3.alloc (fileB x.2.1)).next = H3.next + 1 := rfl
    generalize H3.alloc (fileB x.2.1) = H4 at gf hx4 wf4 n4 ⊢
    have a4 : At H4 H1.next h.next room l' c' := ⟨hx4.c _ _ a3.box, hx4.o _ _ a3.map, a3.ok, a3.big⟩
    obtain ⟨li4, lm4⟩ := a4.lt wf4
    have hfit := d.cp.fit a.ok hx hns
    repeat (first | refine AL.nil ?_ | refine AWp.region ?_ | refine AL.set rfl rfl (op_moveP rfl ?_) | refine AL.set rfl rfl (op_moveStr rfl ?_) | refine AL.set rfl rfl (op_loadF rfl gf ?_) | refine AL.set rfl rfl (op_call rfl rfl ((put_c H1.next h.next room l' c' x.1 x.2.1 H4 a4 hfit).mono ?_)))
    rintro _ _ ⟨rfl, rfl⟩
    repeat (first | refine AL.nil ?_)
    have k4 := st_ch (room := room) (l := putD l' x.1 x.2.1 c') (c := c' + 1) wf4 li4 lm4
    refine ⟨(putD l' x.1 x.2.1 c', c' + 1, seen ++ [x.2.2], stD H4 H1.next h.next room (putD l' x.1 x.2.1 c') (c' + 1), c), ⟨At.st (a4.ok.put (a.ok.good _ hx) hfit (d.cp.few a.ok hx hns)) a4.big, d.cp.put a.ok hx hns, k4.o _ _ (hx4.o _ _ g1) (by omega), Nat.le_refl _, Ext.disk (x3.trans hx4) wf wf4 (by omega) (Nat.le_refl _) li4 lm4, k4.wf⟩, left_lt hx hns, Weak.same (EW.cons rfl (EW.cons rfl EW.nil))⟩
end Go.Proofs.Ytiebmncpdnbcjaa

/-
  What goes over a disk's files, yield by yield.
-/
namespace Go.Proofs.Ytiebmncpdnbcjaa
open Go Go.Eng Go.Dsk
attribute [local irreducible] AWp AL DAL AOp XWp XL

instance : FnC Try.prog 56 := ⟨Try.f56, Try.func56, by kernel_rfl, by kernel_rfl⟩
/-- All that is not in O stays. -/
structure Kp (O : Nat → Prop) (G H : Heap) : Prop where
  c : ∀ j b, G.get j = some b → ¬ O j → H.get j = some b
  o : ∀ j b, G.obj j = some b → ¬ O j → H.obj j = some b
theorem OS.kp {O : Nat → Prop} {B : Nat} {G H : Heap} {e : TypeId} {u : Value} {vs : List Value} (r : OS B G e u vs) (k : Kp O G H) (hO : ∀ j, O j → j < B) : OS B H e u vs := by
  rcases r with ⟨rfl, rfl⟩ | ⟨i, c, h1, rfl, h2⟩
  · exact .inl ⟨rfl, rfl⟩
  · exact .inr ⟨i, c, h1, rfl, k.c _ _ h2 fun ho => by have := hO _ ho; omega⟩
theorem OS.kp2 {O : Nat → Prop} {B : Nat} {F G H : Heap} {e : TypeId} {u : Value} {vs : List Value} (r : OS B G e u vs) (k : Kp O G H) (hO : ∀ j, O j → j < B ∨ ∀ b, F.get j = some b → False) (r0 : OS B F e u vs) : OS B H e u vs := by
  rcases r with ⟨rfl, rfl⟩ | ⟨i, c, h1, rfl, h2⟩
  · exact .inl ⟨rfl, rfl⟩
  · refine .inr ⟨i, c, h1, rfl, k.c _ _ h2 fun ho => ?_⟩
    rcases hO _ ho with h | h
    · omega
    · rcases r0 with ⟨e1, _⟩ | ⟨i', c', _, e1, h3⟩
      · cases e1
      · cases e1; exact h _ h3
def PreA (l : FL) (N : List (List UInt8)) (Y : Nat → Heap → Prop) (i : Nat × Heap) (H : Heap) (args : List Value) : Prop :=
  ∃ s q, args = [.string (bstr s), .slice (some ⟨q, 0, some 1⟩) (allF (fileOf l s)).length ((allF (fileOf l s)).length + 1)] ∧ N[i.1]? = some s ∧ H.get q = some ⟨bv (allF (fileOf l s)), 5, true⟩ ∧ q + 1 = H.next ∧ Y i.1 H ∧ i.2 = H ∧ WF H
def TA (O : Nat → Prop) (Y : Nat → Heap → Prop) (i : Nat × Heap) (H : Heap) : Prop := Y (i.1 + 1) H ∧ Kp (fun j => O j ∨ j + 1 = i.2.next) i.2 H
set_option maxHeartbeats 4000000 in
theorem dall1_x (C : Ctx Try.prog) (hq : C.Quiet) (y p i m room : Nat) (l : FL) (c : Nat) (N : List (List UInt8)) (h : Heap) (a : At h i m room l c) (hb : h.get p = some ⟨[ptr i], 26, true⟩) (hN : Rise N) (hm : ∀ x, x ∈ N ↔ x ∈ l.map (·.1))
    (O : Nat → Prop) (hO : ∀ j, O j → j < h.next) (Y : Nat → Heap → Prop) (Z : Heap → Code → Prop) (hYs : ∀ k H H', Y k H → Ext H H' → H.next ≤ H'.next → Y k H')
    (hy : YS C y (PreA l N Y) (TA O Y) (fun _ H' j => Z H' j)) (h0 : Y 0 h) :
    XCalls C 56 [yieldV y, ptr p] h none fun _ h' s' => (s' = none ∧ Y N.length h') ∨ ∃ j, s' = some j ∧ Z h' j := by
  refine XCalls.body Try.func56 rfl (Nat.le_of_ble_eq_true rfl) ?_ hq
  repeat (first | refine XWp.seq ?_ | refine XWp.region ?_ | refine XL.set rfl rfl rfl (op_load rfl rfl hb rfl ?_) | refine XL.set rfl rfl rfl (op_call rfl rfl ((copy_c i m room l c h a).mono ?_)))
  rintro _ H1 ⟨i', m', l', c', rfl, hi', hm', a1, ⟨e1, e2, e3⟩, x1, wf1, n1⟩
  repeat (first | refine XL.nil ?_ | refine XWp.seq ?_ | refine XWp.region ?_ | refine XL.set rfl rfl rfl (op_moveP rfl ?_) | refine XL.set rfl rfl rfl (op_assignP rfl ?_) | refine XL.set rfl rfl rfl (op_call rfl rfl ((names_c i' m' room l' c' H1 a1).mono ?_)))
  rintro u H2 ⟨N', o2, r2, q2, k2, x2, wf2, n2⟩
  obtain rfl : N' = N := by
    refine rise_eq r2 hN fun x => ?_
    rw [q2, hm, ← has_mem, ← has_mem]
    have h1 : hasS l' x = hasS l x := by
      cases hh : hasS l x with
      | false => rw [← getS_none, e1]; exact getS_none.2 hh
      | true =>
        cases hh' : hasS l' x with
        | true => rfl
        | false =>
          have := getS_none.2 hh'
          rw [e1] at this
          rw [getS_none.1 this] at hh; cases hh
    rw [h1]
  have hu2 := o2.rs
  have hsl := sv_length N'
  have a2 : At H2 i' m' room l' c' := ⟨x2.c _ _ a1.box, x2.o _ _ a1.map, a1.ok, a1.big⟩
  have y2 : Y 0 H2 := hYs _ _ _ h0 (x1.trans x2) (by omega)
  have hOi : ¬ O i' := fun ho => by have := hO _ ho; omega
  have hOm : ¬ O m' := fun ho => by have := hO _ ho; omega
  have hfo : ∀ s, fileOf l' s = fileOf l s := fun s => by unfold fileOf; rw [e1]
  have hbig := a.big
  repeat (first | refine XL.nil ?_ | refine XWp.block ?_ | refine XL.set rfl rfl rfl (op_moveI rfl ?_) | refine XL.set rfl rfl rfl (op_lenR hu2 rfl ?_))
  refine XWp.loop (α := Nat × Heap) (fun d => [(0, yieldV y), (3, ptr i'), (9, u), (10, .int .i64 ((sv N').length : Nat)), (11, .int .i64 (d.1 : Nat))]) (fun d => d.2) (fun d => d.1 ≤ N'.length ∧ Y d.1 d.2 ∧ At d.2 i' m' room l' c' ∧ OS H1.next d.2 9 u (sv N') ∧ WF d.2) (fun d => N'.length - d.1) (0, H2) ⟨Nat.zero_le _, y2, a2, o2, wf2⟩
    (Weak.same (EW.cons rfl (EW.cons rfl (EW.cons rfl (EW.cons rfl (EW.cons rfl EW.nil)))))) ?_
  rintro ⟨k, H⟩ ⟨hk, hY, a3, o3, wf3⟩
  replace hk : k ≤ N'.length := hk
  replace hY : Y k H := hY
  replace a3 : At H i' m' room l' c' := a3
  replace o3 : OS H1.next H 9 u (sv N') := o3
  replace wf3 : WF H := wf3
  show XWp _ _ _ _ _ [(0, yieldV y), (3, ptr i'), (9, u), (10, .int .i64 ((sv N').length : Nat)), (11, .int .i64 (k : Nat))] H none
  by_cases hlt : k < N'.length
  · obtain ⟨s, hs⟩ : ∃ s, N'[k]? = some s := ⟨_, List.getElem?_eq_getElem hlt⟩
    have hs2 : (sv N')[((k : Nat) : Int).toNat]? = some (.string (bstr s)) := by simpa using sv_get hs
    have hfl := (fileOf_le a1.ok s).1
    have hal : (allF (fileOf l' s)).length = (fileOf l' s).1.length + (fileOf l' s).2.length := by simp [allF]
    repeat (first | refine XL.nil ?_ | refine XWp.seq ?_ | refine XWp.region ?_ | refine XWp.condT rfl ?_ | refine XWp.block ?_ | refine XWp.skip ?_ | refine XL.set rfl rfl rfl (op_intT rfl rfl rfl (by omega) ?_))
    refine XL.set rfl rfl rfl (op_indexR o3.rs rfl rfl (by omega) hs2 ?_)
    intro pp hpp
    repeat (first | refine XL.nil ?_ | refine XWp.seq ?_ | refine XWp.region ?_ | refine XL.set rfl rfl rfl (op_moveP rfl ?_) | refine XL.set rfl rfl rfl (op_moveStr rfl ?_) | refine XL.set rfl rfl rfl (op_moveF rfl ?_) | refine XL.set rfl rfl rfl (op_assignStr rfl ?_) | refine XL.set rfl rfl rfl (op_loadR hpp rfl rfl ?_) | refine XL.set rfl rfl rfl (op_nilCheck rfl ?_) | refine XL.set rfl rfl rfl (op_fa rfl ?_) | refine XL.set rfl rfl rfl (op_load rfl rfl a3.box rfl ?_) | refine XL.set rfl rfl rfl (op_lookupF rfl rfl a3.map ?_) | refine XL.set rfl rfl rfl (op_callS rfl rfl (all_c (fileOf l' s) _ (by omega)) ?_))
    refine XL.set rfl rfl rfl (op_strBytes (e := 5) rfl (by rw [bstr_size]; simp only [maxLen]; omega) ?_)
    rw [bstr_size, bstr_data, hfo]
    have gp := Heap.alloc_new H ⟨bv (allF (fileOf l s)), 5, true⟩
    have hx4 := wf3.ext ⟨bv (allF (fileOf l s)), 5, true⟩
    have wf4 := wf3.alloc ⟨bv (allF (fileOf l s)), 5, true⟩
    have hn4 : (H.alloc ⟨bv (allF (fileOf l s)), 5, true⟩).next = H.next + 1 := rfl
    generalize H.alloc ⟨bv (allF (fileOf l s)), 5, true⟩ = H4 at gp hx4 wf4 hn4 ⊢
    have rp : RB H4 (.slice (some ⟨H.next, 0, some 1⟩) (allF (fileOf l s)).length ((allF (fileOf l s)).length + 1)) (allF (fileOf l s)) := RS.own gp (bv_length _)
    have o4 := o3.ext hx4
    skip
    refine XL.yield (l := y) rfl rfl rfl ?_
    refine YSpec.mono (hy (k, H4) H4 [.string (bstr s), .slice (some ⟨H.next, 0, some 1⟩) (allF (fileOf l s)).length ((allF (fileOf l s)).length + 1)] ⟨s, _, rfl, hs, gp, hn4.symm, hYs _ _ _ hY hx4 (by omega), rfl, wf4⟩) ?_
    rintro v' H5 s' wf5 hn5 (⟨rfl, rfl, hY5, kp⟩ | ⟨rfl, j, rfl, hZ⟩)
    · replace hY5 : Y (k + 1) H5 := hY5
      replace kp : Kp (fun j => O j ∨ j + 1 = H4.next) H4 H5 := kp
      have l3 := wf3.lt a3.box
      have m3 := wf3.ltO a3.map
      have hOi' : ¬ (O i' ∨ i' + 1 = H4.next) := fun e => e.elim hOi (by omega)
      have hOm' : ¬ (O m' ∨ m' + 1 = H4.next) := fun e => e.elim hOm (by omega)
      repeat (first | refine XL.nil ?_ | refine XWp.region ?_ | refine XWp.condF rfl ?_ | refine XWp.skip ?_ | refine XL.set rfl rfl rfl (op_moveI rfl ?_) | refine XL.set rfl rfl rfl (op_add64 rfl rfl (by omega) ?_) | refine XL.set rfl rfl rfl (op_not rfl ?_))
      refine ⟨rfl, (k + 1, H5), ⟨hlt, hY5, ⟨kp.c _ _ (hx4.c _ _ a3.box) hOi', kp.o _ _ (hx4.o _ _ a3.map) hOm', a3.ok, a3.big⟩, OS.kp2 o4 kp (fun j hj => hj.elim (fun e => .inl (by have := hO _ e; omega)) (fun e => .inr fun b hb => by have := wf3.lt hb; omega)) o3, wf5⟩, by show N'.length - (k + 1) < N'.length - k; omega, Weak.same (EW.cons rfl (EW.cons rfl (EW.cons rfl (EW.cons rfl (EW.cons rfl EW.nil)))))⟩
    · repeat (first | refine XL.nil ?_ | refine XWp.condT rfl ?_ | refine XWp.ret ?_ | refine XL.set rfl rfl rfl (op_not rfl ?_))
      exact ⟨_, ResV.none rfl, .inr ⟨j, rfl, hZ⟩⟩
  · obtain rfl : k = N'.length := by omega
    repeat (first | refine XL.nil ?_ | refine XWp.seq ?_ | refine XWp.region ?_ | refine XWp.condF rfl ?_ | refine XWp.exit ?_ | refine XL.set rfl rfl rfl (op_intF rfl rfl rfl (by omega) ?_))
    exact ⟨_, ResV.none rfl, .inl ⟨rfl, hY⟩⟩
end Go.Proofs.Ytiebmncpdnbcjaa

/-
  What a crash is told to keep.
-/
namespace Go.Dsk
open Go Go.Eng

abbrev KL := List (List UInt8 × Int × Nat)
def kvI (l : KL) : KV := l.map fun e => (e.1, .int .i64 e.2.1, e.2.2)
theorem getS_kvI (l : KL) (s : List UInt8) : getS (kvI l) s = (getS l s).map fun n => .int .i64 n := by
  unfold getS kvI
  rw [List.find?_map]
  have : ((fun e : List UInt8 × Value × Nat => e.1 == s) ∘ fun e : List UInt8 × Int × Nat => (e.1, Value.int .i64 e.2.1, e.2.2)) = fun e => e.1 == s := rfl
  rw [this]
  cases l.find? (fun e => e.1 == s) <;> rfl
theorem hasS_kvI (l : KL) (s : List UInt8) : hasS (kvI l) s = hasS l s := by simp [hasS, kvI, List.any_map]; rfl
theorem putS_kvI (l : KL) (s : List UInt8) (n : Int) (c : Nat) : putS (kvI l) s (.int .i64 n) c = kvI (putS l s n c) := by
  induction l with
  | nil => rfl
  | cons a l ih =>
    obtain ⟨k, u, b⟩ := a
    show (if k == s then _ else _) = kvI (if k == s then _ else _)
    by_cases h : (k == s) = true
    · rw [if_pos h, if_pos h]; rfl
    · rw [if_neg h, if_neg h]
      show _ :: putS (kvI l) s (.int .i64 n) c = _
      rw [ih]; rfl
def kstep (l : FL) : Option (KL × Nat × Int) → (List UInt8 × Int) → Option (KL × Nat × Int)
  | none, _ => none
  | some (out, c, e), (s, n) => if hasS out s || decide (n < 0) || !goodN s then none else some (putS out s n c, c + 1, if e = 0 then openE l s [] else e)
def keptS (l : FL) (ks : List (List UInt8 × Int)) : Option (KL × Nat × Int) := ks.foldl (kstep l) (some ([], 0, 0))
theorem kstep_none (l : FL) : ∀ ks : List (List UInt8 × Int), ks.foldl (kstep l) none = none
  | [] => rfl
  | _ :: ks => kstep_none l ks
theorem kept_take (l : FL) {ks : List (List UInt8 × Int)} {j : Nat} {x : List UInt8 × Int} (h : ks[j]? = some x) : keptS l (ks.take (j + 1)) = kstep l (keptS l (ks.take j)) x := by
  unfold keptS
  rw [List.take_add_one, h, List.foldl_append]; rfl
theorem kept_stop (l : FL) {ks : List (List UInt8 × Int)} {j : Nat} (h : keptS l (ks.take j) = none) : keptS l ks = none := by
  have : keptS l ks = (ks.drop j).foldl (kstep l) (keptS l (ks.take j)) := by
    unfold keptS
    rw [← List.foldl_append, List.take_append_drop]
  rw [this, h, kstep_none]
/-- A row of what is to be kept, avs it lies. -/
def KS (h : Heap) (v : Value) (ks : List (List UInt8 × Int)) : Prop :=
  (v = .slice none 0 0 ∧ ks = []) ∨ ∃ i o s c, v = .slice (some ⟨i, o, s⟩) ks.length c ∧ (ks ≠ [] → ∃ b, h.get i = some b ∧ ∀ (j : Nat) x, ks[j]? = some x → b.cells[o + j * 2]? = some (.string (bstr x.1)) ∧ b.cells[o + j * 2 + 1]? = some (.int .i64 x.2))
theorem KS.ext {h h' : Heap} {v : Value} {ks : List (List UInt8 × Int)} (r : KS h v ks) (hx : Ext h h') : KS h' v ks := by
  rcases r with r | ⟨i, o, s, c, h1, h2⟩
  · exact .inl r
  · exact .inr ⟨i, o, s, c, h1, fun hn => by obtain ⟨b, h3, h4⟩ := h2 hn; exact ⟨b, hx.c _ _ h3, h4⟩⟩
theorem take2 {l : List Value} {o : Nat} {a b : Value} (h1 : l[o]? = some a) (h2 : l[o + 1]? = some b) : (l.drop o).take 2 = [a, b] := by
  apply List.ext_getElem?
  intro j
  rw [List.getElem?_take]
  match j with
  | 0 => simpa using h1
  | 1 => simpa using h2
  | j + 2 => simp; omega
/-- What a crash leaves of a file. -/
def cutN (l : FL) (out : KL) (s : List UInt8) : List UInt8 :=
  (allF (fileOf l s)).take ((fileOf l s).1.length + (min ((getS out s).getD 0) (((allF (fileOf l s)).length : Int) - (fileOf l s).1.length)).toNat)
def leftL (l : FL) (out : KL) (N : List (List UInt8)) : FL := N.zipIdx.map fun x => (x.1, (cutN l out x.1, []), x.2)
theorem leftL_names (l : FL) (out : KL) (N : List (List UInt8)) : (leftL l out N).map (·.1) = N := by
  unfold leftL
  rw [List.map_map]
  exact List.zipIdx_map_fst 0 N
theorem leftL_push (l : FL) (out : KL) (N : List (List UInt8)) (s : List UInt8) (hs : s ∉ N) : leftL l out (N ++ [s]) = putD (leftL l out N) s (cutN l out s, []) N.length := by
  have h1 : hasS (leftL l out N) s = false := by
    cases h : hasS (leftL l out N) s with
    | false => rfl
    | true => rw [has_mem, leftL_names] at h; exact (hs h).elim
  unfold putD
  rw [del_none h1]
  unfold leftL
  rw [List.zipIdx_append, List.map_append]
  simp
end Go.Dsk

/-
  What a crash is told to keep.
-/
namespace Go.Proofs.Ytiebmncpdnbcjaa
open Go Go.Eng Go.Dsk
attribute [local irreducible] AWp AL DAL AOp

instance : FnC Try.prog 55 := ⟨Try.f55, Try.func55, by kernel_rfl, by kernel_rfl⟩
instance : TyD Try.prog 99 (.map 9 3) := ⟨Try.underlying99⟩
instance : TyD Try.prog 39 (.slice 69) := ⟨Try.underlying39⟩
instance : TyD Try.prog 69 (.struct #[fd "Name" 9 0 "" 0, fd "Loose" 3 1 "" 16]) := ⟨Try.underlying69⟩
instance : TyI Try.prog 69 2 24 (.agg #[.string ⟨#[]⟩, .int .i64 0]) := ⟨info_of (by kernel_rfl), rfl, rfl⟩
instance : TyI Try.prog 99 1 8 (.map none) := ⟨info_of (by kernel_rfl), rfl, rfl⟩
instance : FAd Try.prog 69 0 0 := FAd.mk' (ft := 9) Try.underlying69 rfl rfl rfl rfl
instance : FAd Try.prog 69 1 1 := FAd.mk' (ft := 3) Try.underlying69 rfl rfl rfl rfl
instance : StD Try.prog 69 [(0, 1), (1, 1)] := ⟨_, Try.underlying69, by kernel_rfl⟩
abbrev keepV (x : List UInt8 × Int) : Value := .agg #[.string (bstr x.1), .int .i64 x.2]
abbrev keepB (x : List UInt8 × Int) : Blk := ⟨[.string (bstr x.1), .int .i64 x.2], 69, true⟩
theorem op_allocK {ρ : Operand → Value} {h : Heap} {K : Value → Heap → Prop} {dst : Option Tmp} {ty : TypeId} {pos : String} {aft : Array Edge} {g : Option (Nat × Bool)} (kk : K (ptr h.next) (h.alloc (keepB ([], 0)))) : AOp Try.prog ⟨dst, .alloc 69, ty, pos, aft, g⟩ ρ h K := op_alloc (z := .agg #[.string ⟨#[]⟩, .int .i64 0]) kk
theorem op_storeK {ρ : Operand → Value} {h : Heap} {K : Value → Heap → Prop} {dst : Option Tmp} {ty : TypeId} {pos : String} {aft : Array Edge} {g : Option (Nat × Bool)} {x y : Operand} {j : Nat} (f f' : List UInt8 × Int) (hx : ρ x = ptr j) (hy : ρ y = keepV f') (hj : h.get j = some (keepB f)) (kk : K undef (h.set j (keepB f'))) :
    AOp Try.prog ⟨dst, .store 69 x y, ty, pos, aft, g⟩ ρ h K := op_storeA (sz := 2) hx hy rfl rfl hj rfl (Nat.le_refl _) kk
theorem op_loadKS {ρ : Operand → Value} {h : Heap} {K : Value → Heap → Prop} {dst : Option Tmp} {ty : TypeId} {pos : String} {aft : Array Edge} {g : Option (Nat × Bool)} {x : Operand} {i o : Nat} {b : Blk} {f : List UInt8 × Int} (hx : ρ x = .pointer (some ⟨i, o, none⟩)) (hi : h.get i = some b)
    (h1 : b.cells[o]? = some (.string (bstr f.1))) (h2 : b.cells[o + 1]? = some (.int .i64 f.2)) (kk : K (keepV f) h) : AOp Try.prog ⟨dst, .load 69 x, ty, pos, aft, g⟩ ρ h K :=
  op_loadA (sz := 2) hx rfl hi (by have := (List.getElem?_eq_some_iff.1 h2).1; omega) (by rw [take2 h1 h2]; exact kk)
theorem op_lookupI {ρ : Operand → Value} {h : Heap} {K : Value → Heap → Prop} {dst : Option Tmp} {ty : TypeId} {pos : String} {aft : Array Edge} {g : Option (Nat × Bool)} {x y : Operand} {i c : Nat} {s : List UInt8} {out : KL} (hx : ρ x = .map (some i)) (hy : ρ y = .string (bstr s))
    (hi : h.obj i = some (.map (ents (kvI out)) c)) (kk : ∀ w, K (.tuple #[w, .bool (hasS out s)]) h) : AOp Try.prog ⟨dst, .lookup 99 x y true, ty, pos, aft, g⟩ ρ h K := by
  refine op_lookupOk (z := .int .i64 0) hx hy hi rfl ?_
  have : (getS (kvI out) s).isSome = hasS out s := by
    rw [← hasS_kvI]
    cases h1 : getS (kvI out) s with
    | none => rw [getS_none.1 h1]; rfl
    | some n =>
      cases h2 : hasS (kvI out) s with
      | true => rfl
      | false => rw [getS_none.2 h2] at h1; cases h1
  rw [this]
  exact kk _
set_option maxHeartbeats 4000000 in
theorem kept_c (i m room : Nat) (l : FL) (c : Nat) (v : Value) (ks : List (List UInt8 × Int)) (h : Heap) (a : At h i m room l c) (hv : KS h v ks) (hl : ks.length ≤ 1000000) (hn : ∀ x ∈ ks, x.1.length ≤ 4611686018427387904) :
    ACalls Try.prog 55 [ptr i, v] h fun u h' => ((keptS l ks = none ∧ u = .tuple #[.map none, .int .i64 2]) ∨ ∃ out cc e, keptS l ks = some (out, cc, e) ∧ u = .tuple #[.map (some h.next), .int .i64 e] ∧ h'.obj h.next = some (.map (ents (kvI out)) cc)) ∧ Ext h h' ∧ WF h' ∧ h.next < h'.next := by
  refine ACalls.wf fun wf => ?_
  refine ACalls.body Try.func55 rfl rfl ?_
  obtain ⟨va, vc, rfl⟩ : ∃ a c, v = .slice a ks.length c := by
    rcases hv with ⟨rfl, rfl⟩ | ⟨i, o, s, c, rfl, _⟩
    · exact ⟨_, _, rfl⟩
    · exact ⟨_, _, rfl⟩
  repeat (first | refine AL.nil ?_ | refine AWp.seq ?_ | refine AWp.region ?_ | refine AWp.block ?_ | refine AL.set rfl rfl (op_moveI rfl ?_) | refine AL.set rfl rfl (op_moveS rfl ?_) | refine AL.set rfl rfl (op_assignI rfl ?_) | refine AL.set rfl rfl (op_makeMap ?_) | refine AL.set rfl rfl (op_lenS rfl ?_) | refine AL.set rfl rfl (op_assign (by conv => lhs; whnf) ?_))
  have hx1 := wf.extO (.map (ents []) 0)
  have wf1 := wf.allocO (.map (ents []) 0)
  have g1 := Heap.allocO_new h (.map (ents []) 0)
  have hn1 : (h.allocO (.map (ents []) 0)).next = h.next + 1 := rfl
  generalize h.allocO (.map (ents []) 0) = H1 at hx1 wf1 g1 hn1 ⊢
  skip
  refine AWp.loop (α := Nat × KL × Nat × Int × Heap) (fun d => [(0, ptr i), (6, .map (some h.next)), (7, .int .i64 d.2.2.2.1), (13, .slice va ks.length vc), (14, .int .i64 (ks.length : Nat)), (15, .int .i64 (d.1 : Nat))]) (fun d => d.2.2.2.2)
    (fun d => d.1 ≤ ks.length ∧ keptS l (ks.take d.1) = some (d.2.1, d.2.2.1, d.2.2.2.1) ∧ d.2.2.2.2.obj h.next = some (.map (ents (kvI d.2.1)) d.2.2.1) ∧ Ext h d.2.2.2.2 ∧ WF d.2.2.2.2) (fun d => ks.length - d.1) (0, [], 0, 0, H1) ⟨Nat.zero_le _, rfl, g1, hx1, wf1⟩
    (Weak.same (EW.cons rfl (EW.cons rfl (EW.cons rfl (EW.cons rfl (EW.cons rfl (EW.cons rfl EW.nil))))))) ?_
  rintro ⟨k, out, cc, e, H⟩ ⟨hk, hS, hm, hx, wfH⟩
  replace hk : k ≤ ks.length := hk
  replace hS : keptS l (ks.take k) = some (out, cc, e) := hS
  replace hm : H.obj h.next = some (.map (ents (kvI out)) cc) := hm
  replace hx : Ext h H := hx
  replace wfH : WF H := wfH
  have hnH := wfH.ltO hm
  show AWp _ _ _ _ [(0, ptr i), (6, .map (some h.next)), (7, .int .i64 e), (13, .slice va ks.length vc), (14, .int .i64 (ks.length : Nat)), (15, .int .i64 (k : Nat))] H
  by_cases hlt : k < ks.length
  · obtain ⟨x, hxk⟩ : ∃ x, ks[k]? = some x := ⟨_, List.getElem?_eq_getElem hlt⟩
    rcases hv.ext hx with ⟨_, e1⟩ | ⟨bi, o, s, c', e1, hcell⟩
    · rw [e1] at hlt; simp at hlt
    cases e1
    obtain ⟨b, hg, hcell⟩ := hcell (by intro e; rw [e] at hlt; simp at hlt)
    obtain ⟨q1, q2⟩ := hcell k x hxk
    have hnx := hn x (List.mem_of_getElem? hxk)
    repeat (first | refine AL.nil ?_ | refine AWp.seq ?_ | refine AWp.region ?_ | refine AWp.condT rfl ?_ | refine AWp.block ?_ | refine AWp.skip ?_ | refine AL.set rfl rfl (op_intT rfl rfl rfl (by omega) ?_) | refine AL.set rfl rfl (op_indexS (sz := 2) rfl rfl (by omega) (by omega) ?_) | refine AL.set rfl rfl (op_loadKS (f := x) rfl hg q1 q2 ?_) | refine AL.set rfl rfl (op_allocK ?_))
    refine AL.eff rfl (op_storeK ([], 0) x rfl rfl (Heap.alloc_new _ _) ?_)
    refine AL.heap (Heap.set_alloc _ _ _) ?_
    have gk := Heap.alloc_new H (keepB x)
    have hx2 := wfH.ext (keepB x)
    have wf2 := wfH.alloc (keepB x)
    have n2 : (H.alloc (keepB x)).next = H.next + 1 := rfl
    generalize H.alloc (keepB x) = H2 at gk hx2 wf2 n2 ⊢
    have hm2 := hx2.o _ _ hm
    repeat (first | refine AL.nil ?_ | refine AWp.seq ?_ | refine AWp.region ?_ | refine AL.set rfl rfl (op_fa rfl ?_) | refine AL.set rfl rfl (op_load rfl rfl gk rfl ?_) | refine AL.set rfl rfl (op_move (by conv => lhs; whnf) ?_))
    refine AL.set rfl rfl (op_lookupI rfl rfl hm2 fun w => ?_)
    repeat (first | refine AL.nil ?_ | refine AWp.seq ?_ | refine AWp.region ?_ | refine AL.set rfl rfl (op_moveB rfl ?_) | refine AL.set rfl rfl (op_moveT rfl ?_) | refine AL.set rfl rfl (op_assignB rfl ?_) | refine AL.set rfl rfl (op_extract rfl rfl ?_) | refine AL.set rfl rfl (op_assign (v := w) rfl ?_))
    have hstep : keptS l (ks.take (k + 1)) = if hasS out x.1 || decide (x.2 < 0) || !goodN x.1 then none else some (putS out x.1 x.2 cc, cc + 1, if e = 0 then openE l x.1 [] else e) := by
      rw [kept_take l hxk, hS]; rfl
    cases hh : hasS out x.1 with
    | true =>
      have hno : keptS l ks = none := kept_stop l (j := k + 1) (by rw [hstep, hh]; rfl)
      repeat (first | refine AL.nil ?_ | refine AL.skip rfl rfl ?_ | refine AWp.seq ?_ | refine AWp.region ?_ | refine AWp.condT rfl ?_ | refine AWp.ret ?_ | refine AL.set rfl rfl (op_moveB rfl ?_) | refine AL.set rfl rfl (op_assignI rfl ?_) | refine AL.set rfl rfl (op_pick (v := .bool true) rfl rfl ?_) | refine AL.set rfl rfl (op_assign (by conv => lhs; whnf) ?_))
      exact ⟨_, ResV.tmp2 rfl, .inl ⟨hno, rfl⟩, hx.trans hx2, wf2, by omega⟩
    | false =>
      by_cases hneg : x.2 < 0
      · have hno : keptS l ks = none := kept_stop l (j := k + 1) (by rw [hstep, hh, decide_eq_true hneg]; rfl)
        repeat (first | refine AL.nil ?_ | refine AL.skip rfl rfl ?_ | refine AWp.seq ?_ | refine AWp.region ?_ | refine AWp.condT rfl ?_ | refine AWp.ret ?_ | refine AL.set rfl rfl (op_moveB rfl ?_) | refine AL.set rfl rfl (op_assignI rfl ?_) | refine AL.set rfl rfl (op_fa rfl ?_) | refine AL.set rfl rfl (op_load rfl rfl gk rfl ?_) | refine AL.set rfl rfl (op_intT rfl rfl rfl (by omega) ?_) | refine AL.set rfl rfl (op_pick (v := .bool true) rfl rfl ?_) | refine AL.set rfl rfl (op_assign (by conv => lhs; whnf) ?_))
        exact ⟨_, ResV.tmp2 rfl, .inl ⟨hno, rfl⟩, hx.trans hx2, wf2, by omega⟩
      · repeat (first | refine AL.set rfl rfl (op_moveB rfl ?_) | refine AL.set rfl rfl (op_fa rfl ?_) | refine AL.set rfl rfl (op_load rfl rfl gk rfl ?_) | refine AL.set rfl rfl (op_intF rfl rfl rfl (by omega) ?_) | refine AL.set rfl rfl (op_pick (v := .bool false) rfl rfl ?_))
        refine AL.set rfl rfl (op_row [.string (bstr x.1)] rfl rfl rfl rfl (by simp [oneB]) ?_)
        have gr := Heap.alloc_new H2 (nameB x.1)
        have hx3 := wf2.ext (nameB x.1)
        have wf3 := wf2.alloc (nameB x.1)
        have n3 : (H2.alloc (nameB x.1)).next = H2.next + 1 := rfl
        have hm3 := hx3.o _ _ hm2
        have gk3 := hx3.c _ _ gk
        generalize H2.alloc (nameB x.1) = H3 at gr hx3 wf3 n3 hm3 gk3 ⊢
        have cg := good_c (.slice (some ⟨H2.next, 0, some 1⟩) 1 1) [x.1] H3 (RS.own gr rfl) (by simpa using hnx) (by simp)
        rw [show [x.1].all goodN = goodN x.1 by simp] at cg
        cases hg2 : goodN x.1 with
        | false =>
          rw [hg2] at cg
          have hno : keptS l ks = none := kept_stop l (j := k + 1) (by rw [hstep, hh, decide_eq_false hneg, hg2]; rfl)
          repeat (first | refine AL.nil ?_ | refine AWp.seq ?_ | refine AWp.region ?_ | refine AWp.condT rfl ?_ | refine AWp.ret ?_ | refine AL.set rfl rfl (op_assignI rfl ?_) | refine AL.set rfl rfl (op_callS rfl rfl cg ?_) | refine AL.set rfl rfl (op_pick (v := .bool true) rfl rfl ?_) | refine AL.set rfl rfl (op_not rfl ?_) | refine AL.set rfl rfl (op_assign (by conv => lhs; whnf) ?_))
          exact ⟨_, ResV.tmp2 rfl, .inl ⟨hno, rfl⟩, (hx.trans hx2).trans hx3, wf3, by omega⟩
        | true =>
          rw [hg2] at cg
          rw [hh, decide_eq_false hneg, hg2] at hstep
          replace hstep : keptS l (ks.take (k + 1)) = some (putS out x.1 x.2 cc, cc + 1, if e = 0 then openE l x.1 [] else e) := hstep
          repeat (first | refine AL.nil ?_ | refine AWp.seq ?_ | refine AWp.region ?_ | refine AWp.condF rfl ?_ | refine AWp.skip ?_ | refine AL.set rfl rfl (op_callS rfl rfl cg ?_) | refine AL.set rfl rfl (op_pick (v := .bool false) rfl rfl ?_) | refine AL.set rfl rfl (op_fa rfl ?_) | refine AL.set rfl rfl (op_load rfl rfl gk3 rfl ?_) | refine AL.set rfl rfl (op_not rfl ?_) | refine AL.set rfl rfl (op_move (by conv => lhs; whnf) ?_))
          refine AL.eff rfl (op_mapUpdate (u := .int .i64 x.2) rfl rfl rfl hm3 ?_)
          rw [putS_kvI, hasS_kvI, hh, if_neg (by simp)]
          have gm := Heap.setO_at H3 h.next (.map (ents (kvI (putS out x.1 x.2 cc))) (cc + 1))
          have wf4 := wf3.setO (show h.next < H3.next by omega) (.map (ents (kvI (putS out x.1 x.2 cc))) (cc + 1))
          have gk4 : (H3.setO h.next (.map (ents (kvI (putS out x.1 x.2 cc))) (cc + 1))).get H.next = some (keepB x) := gk3
          have hx4 : Ext h (H3.setO h.next (.map (ents (kvI (putS out x.1 x.2 cc))) (cc + 1))) := ⟨fun j b e => ((hx.trans hx2).trans hx3).c j b e, fun j b e => (Heap.setO_other (by have := wf.ltO e; omega)).trans (((hx.trans hx2).trans hx3).o j b e)⟩
          generalize H3.setO h.next (.map (ents (kvI (putS out x.1 x.2 cc))) (cc + 1)) = H4 at gm wf4 gk4 hx4 ⊢
          have a4 : At H4 i m room l c := ⟨hx4.c _ _ a.box, hx4.o _ _ a.map, a.ok, a.big⟩
          have co := open_c i m room l c x.1 (.slice none 0 0) [] H4 a4 hnx (RS.nil _) (by simp) (by simp)
          by_cases he : e = 0
          · rw [if_pos he] at hstep
            repeat (first | refine AL.nil ?_ | refine AWp.seq ?_ | refine AWp.region ?_ | refine AWp.condT rfl ?_ | refine AL.set rfl rfl (op_moveI rfl ?_) | refine AL.set rfl rfl (op_moveP rfl ?_) | refine AL.set rfl rfl (op_moveT rfl ?_) | refine AL.set rfl rfl (op_assignI rfl ?_) | refine AL.set rfl rfl (op_intT rfl rfl rfl (by omega) ?_) | refine AL.set rfl rfl (op_fa rfl ?_) | refine AL.set rfl rfl (op_load rfl rfl gk4 rfl ?_) | refine AL.set rfl rfl (op_callS rfl rfl co ?_) | refine AL.set rfl rfl (op_extract rfl rfl ?_) | refine AL.set rfl rfl (op_add64 rfl rfl (by omega) ?_))
            exact ⟨(k + 1, putS out x.1 x.2 cc, cc + 1, openE l x.1 [], H4), ⟨hlt, hstep, gm, hx4, wf4⟩, by show ks.length - (k + 1) < ks.length - k; omega, Weak.same (EW.cons rfl (EW.cons rfl (EW.cons rfl (EW.cons rfl (EW.cons rfl (EW.cons rfl EW.nil))))))⟩
          · rw [if_neg he] at hstep
            repeat (first | refine AL.nil ?_ | refine AWp.seq ?_ | refine AWp.region ?_ | refine AWp.condF rfl ?_ | refine AWp.skip ?_ | refine AL.set rfl rfl (op_moveI rfl ?_) | refine AL.set rfl rfl (op_intF rfl rfl rfl (by omega) ?_) | refine AL.set rfl rfl (op_add64 rfl rfl (by omega) ?_))
            exact ⟨(k + 1, putS out x.1 x.2 cc, cc + 1, e, H4), ⟨hlt, hstep, gm, hx4, wf4⟩, by show ks.length - (k + 1) < ks.length - k; omega, Weak.same (EW.cons rfl (EW.cons rfl (EW.cons rfl (EW.cons rfl (EW.cons rfl (EW.cons rfl EW.nil))))))⟩
  · obtain rfl : k = ks.length := by omega
    rw [List.take_length] at hS
    repeat (first | refine AL.nil ?_ | refine AWp.seq ?_ | refine AWp.region ?_ | refine AWp.condF rfl ?_ | refine AWp.ret ?_ | refine AWp.exit ?_ | refine AL.set rfl rfl (op_moveI rfl ?_) | refine AL.set rfl rfl (op_assignI rfl ?_) | refine AL.set rfl rfl (op_intF rfl rfl rfl (by omega) ?_) | refine AL.set rfl rfl (op_move (by conv => lhs; whnf) ?_) | refine AL.set rfl rfl (op_assign (by conv => lhs; whnf) ?_))
    exact ⟨_, ResV.tmp2 rfl, .inr ⟨out, cc, e, hS, rfl, hm⟩, hx, wfH, hnH⟩
end Go.Proofs.Ytiebmncpdnbcjaa

/-
  What a crash leaves.
-/
namespace Go.Proofs.Ytiebmncpdnbcjaa
open Go Go.Eng Go.Dsk
attribute [local irreducible] AWp AL DAL AOp

instance : FnC Try.prog 41 := ⟨Try.f41, Try.func41, by kernel_rfl, by kernel_rfl⟩
theorem dall_c (d : Option Addr) (h : Heap) : ACalls Try.prog 41 [.pointer d] h fun u h' => u = .func (.func 56) #[] #[ptr h.next] ∧ Ext h h' ∧ h'.get h.next = some ⟨[.pointer d], 26, true⟩ ∧ WF h' ∧ h'.next = h.next + 1 := by
  refine ACalls.wf fun wf => ?_
  refine ACalls.body Try.func41 rfl rfl ?_
  repeat (first | refine AWp.seq ?_ | refine AWp.region ?_)
  refine AL.set rfl rfl (op_box (v := .pointer d) rfl (by intro e; cases e) ?_)
  repeat (first | refine AL.nil ?_ | refine AWp.seq ?_ | refine AWp.region ?_ | refine AWp.ret ?_ | refine AL.set rfl rfl (op_assignF rfl ?_) | refine AL.set rfl rfl (op_makeFunc rfl rfl ?_) | refine AL.set rfl rfl (op_assign (by conv => lhs; whnf) ?_))
  exact ⟨_, ResV.tmp rfl, rfl, wf.ext _, Heap.alloc_new _ _, wf.alloc _, rfl⟩
instance : FnC Try.prog 34 := ⟨Try.f34, Try.func34, by kernel_rfl, by kernel_rfl⟩
/-- A crash that is refused. -/
theorem crash_no (i m room : Nat) (l : FL) (c : Nat) (v : Value) (ks : List (List UInt8 × Int)) (h : Heap) (a : At h i m room l c) (hv : KS h v ks) (hl : ks.length ≤ 1000000) (hn : ∀ x ∈ ks, x.1.length ≤ 4611686018427387904) (hk : keptS l ks = none) :
    ACalls Try.prog 34 [ptr i, v] h fun u h' => u = .tuple #[.pointer none, .int .i64 2] ∧ Ext h h' ∧ WF h' := by
  refine ACalls.wf fun wf => ?_
  refine ACalls.bodyX Try.func34 rfl (Nat.le_of_ble_eq_true rfl) fun bb => ?_
  have hx1 := wf.ext ⟨[ptr i], 26, true⟩
  have wf1 := wf.alloc ⟨[ptr i], 26, true⟩
  have g1 := Heap.alloc_new h ⟨[ptr i], 26, true⟩
  repeat (first | refine XWp.seq ?_ | refine XWp.region ?_)
  refine XL.set rfl rfl rfl (op_box (v := ptr i) rfl (by intro e; cases e) ?_)
  refine XL.heap (show _ = h.alloc ⟨[ptr i], 26, true⟩ from rfl) ?_
  have hnn : (h.alloc ⟨[ptr i], 26, true⟩).next = h.next + 1 := rfl
  generalize h.alloc ⟨[ptr i], 26, true⟩ = H1 at hx1 wf1 g1 hnn ⊢
  have a1 : At H1 i m room l c := ⟨hx1.c _ _ a.box, hx1.o _ _ a.map, a.ok, a.big⟩
  obtain ⟨va, vc, rfl⟩ : ∃ a c, v = .slice a ks.length c := by
    rcases hv with ⟨rfl, rfl⟩ | ⟨i, o, s, c, rfl, _⟩
    · exact ⟨_, _, rfl⟩
    · exact ⟨_, _, rfl⟩
  repeat (first | refine XL.nil ?_ | refine XWp.seq ?_ | refine XWp.region ?_ | refine XWp.condF rfl ?_ | refine XWp.skip ?_ | refine XL.set rfl rfl rfl (op_moveS rfl ?_) | refine XL.set rfl rfl rfl (op_assignI rfl ?_) | refine XL.set rfl rfl rfl (op_assignP rfl ?_) | refine XL.set rfl rfl rfl (op_load rfl rfl g1 rfl ?_) | refine XL.set rfl rfl rfl (op_callS rfl rfl (on_c i room (used l : Nat) (some m) H1 a1.box) ?_) | refine XL.set rfl rfl rfl (op_call rfl rfl ((kept_c i m room l c _ ks H1 a1 (hv.ext hx1) hl hn).mono ?_)) | refine XL.set rfl rfl rfl (op_not rfl ?_))
  rintro u H2 ⟨(⟨_, rfl⟩ | ⟨out, cc, e, h1, _⟩), hx2, wf2, hn2⟩
  · repeat (first | refine XL.set rfl rfl rfl (op_moveT rfl ?_) | refine XL.set rfl rfl rfl (op_extract rfl rfl ?_) | refine XL.set rfl rfl rfl (op_alloc (z := .map none) ?_))
    have g3 := Heap.alloc_new H2 ⟨[.map none], 99, true⟩
    have wf3 := wf2.alloc ⟨[.map none], 99, true⟩
    have hx3 : Ext h (H2.alloc ⟨[.map none], 99, true⟩) := (hx1.trans hx2).trans (wf2.ext _)
    refine XL.eff rfl rfl (op_store (v := .map none) rfl rfl rfl g3 rfl (by decide) ?_)
    have hn1 : h.next ≤ H2.next := by omega
    repeat (first | refine XL.nil ?_ | refine XWp.seq ?_ | refine XWp.region ?_ | refine XWp.condT rfl ?_ | refine XWp.ret ?_ | refine XL.set rfl rfl rfl (op_moveI rfl ?_) | refine XL.set rfl rfl rfl (op_assignI rfl ?_) | refine XL.set rfl rfl rfl (op_assignP rfl ?_) | refine XL.set rfl rfl rfl (op_intT rfl rfl rfl (by omega) ?_))
    exact ⟨_, ResV.tmp2 rfl, rfl, wf.ext_set hx3 hn1 _, wf3.set (Nat.lt_succ_self _) _⟩
  · rw [hk] at h1; cases h1
/-- A crash that is told of a file that is not there. -/
theorem crash_err (i m room : Nat) (l : FL) (c : Nat) (v : Value) (ks : List (List UInt8 × Int)) (h : Heap) (a : At h i m room l c) (hv : KS h v ks) (hl : ks.length ≤ 1000000) (hn : ∀ x ∈ ks, x.1.length ≤ 4611686018427387904) (out : KL) (cc : Nat) (e : Int) (hk : keptS l ks = some (out, cc, e)) (he : e ≠ 0) :
    ACalls Try.prog 34 [ptr i, v] h fun u h' => u = .tuple #[.pointer none, .int .i64 e] ∧ Ext h h' ∧ WF h' := by
  refine ACalls.wf fun wf => ?_
  refine ACalls.bodyX Try.func34 rfl (Nat.le_of_ble_eq_true rfl) fun bb => ?_
  have hx1 := wf.ext ⟨[ptr i], 26, true⟩
  have wf1 := wf.alloc ⟨[ptr i], 26, true⟩
  have g1 := Heap.alloc_new h ⟨[ptr i], 26, true⟩
  repeat (first | refine XWp.seq ?_ | refine XWp.region ?_)
  refine XL.set rfl rfl rfl (op_box (v := ptr i) rfl (by intro e; cases e) ?_)
  refine XL.heap (show _ = h.alloc ⟨[ptr i], 26, true⟩ from rfl) ?_
  have hnn : (h.alloc ⟨[ptr i], 26, true⟩).next = h.next + 1 := rfl
  generalize h.alloc ⟨[ptr i], 26, true⟩ = H1 at hx1 wf1 g1 hnn ⊢
  have a1 : At H1 i m room l c := ⟨hx1.c _ _ a.box, hx1.o _ _ a.map, a.ok, a.big⟩
  obtain ⟨va, vc, rfl⟩ : ∃ a c, v = .slice a ks.length c := by
    rcases hv with ⟨rfl, rfl⟩ | ⟨i, o, s, c, rfl, _⟩
    · exact ⟨_, _, rfl⟩
    · exact ⟨_, _, rfl⟩
  repeat (first | refine XL.nil ?_ | refine XWp.seq ?_ | refine XWp.region ?_ | refine XWp.condF rfl ?_ | refine XWp.skip ?_ | refine XL.set rfl rfl rfl (op_moveS rfl ?_) | refine XL.set rfl rfl rfl (op_assignI rfl ?_) | refine XL.set rfl rfl rfl (op_assignP rfl ?_) | refine XL.set rfl rfl rfl (op_load rfl rfl g1 rfl ?_) | refine XL.set rfl rfl rfl (op_callS rfl rfl (on_c i room (used l : Nat) (some m) H1 a1.box) ?_) | refine XL.set rfl rfl rfl (op_call rfl rfl ((kept_c i m room l c _ ks H1 a1 (hv.ext hx1) hl hn).mono ?_)) | refine XL.set rfl rfl rfl (op_not rfl ?_))
  rintro u H2 ⟨(⟨h1, _⟩ | ⟨out', cc', e', h1, rfl, hmo⟩), hx2, wf2, hn2⟩
  · rw [hk] at h1; cases h1
  · rw [hk] at h1; cases h1
    repeat (first | refine XL.set rfl rfl rfl (op_moveT rfl ?_) | refine XL.set rfl rfl rfl (op_extract rfl rfl ?_) | refine XL.set rfl rfl rfl (op_alloc (z := .map none) ?_))
    have g3 := Heap.alloc_new H2 ⟨[.map none], 99, true⟩
    have wf3 := wf2.alloc ⟨[.map none], 99, true⟩
    have hx3 : Ext h (H2.alloc ⟨[.map none], 99, true⟩) := (hx1.trans hx2).trans (wf2.ext _)
    refine XL.eff rfl rfl (op_store (v := .map (some H1.next)) rfl rfl rfl g3 rfl (by decide) ?_)
    have hn1 : h.next ≤ H2.next := by omega
    repeat (first | refine XL.nil ?_ | refine XWp.seq ?_ | refine XWp.region ?_ | refine XWp.condT rfl ?_ | refine XWp.ret ?_ | refine XL.set rfl rfl rfl (op_moveI rfl ?_) | refine XL.set rfl rfl rfl (op_assignI rfl ?_) | refine XL.set rfl rfl rfl (op_assignP rfl ?_) | refine XL.set rfl rfl rfl (op_intT rfl rfl rfl (by omega) ?_))
    exact ⟨_, ResV.tmp2 rfl, rfl, wf.ext_set hx3 hn1 _, wf3.set (Nat.lt_succ_self _) _⟩
end Go.Proofs.Ytiebmncpdnbcjaa

/-
  The engine: arguments of any plain type, from the world to an abstract heap.
-/
namespace Go.Eng
open Go

/-! Lists of rows, one behind the other. -/
theorem flat_get {α : Type} {c : Nat} (hc : 0 < c) : ∀ {L : List (List α)}, (∀ l ∈ L, l.length = c) → ∀ m : Nat, L.flatten[m]? = (L[m / c]?).bind (·[m % c]?)
  | [], _, m => by simp
  | l :: L, h, m => by
    have hl := h l (by simp)
    rw [List.flatten_cons]
    by_cases hm : m < c
    · rw [List.getElem?_append_left (by omega), Nat.div_eq_of_lt hm, Nat.mod_eq_of_lt hm]
      rfl
    · rw [List.getElem?_append_right (by omega), hl, flat_get hc (fun x hx => h x (List.mem_cons_of_mem _ hx)) (m - c)]
      have h1 : m / c = (m - c) / c + 1 := by rw [Nat.div_eq m c, if_pos ⟨hc, by omega⟩]
      have h2 : m % c = (m - c) % c := by rw [Nat.mod_eq m c, if_pos ⟨hc, by omega⟩]
      rw [h1, h2, List.getElem?_cons_succ]
theorem flat_len {α : Type} {c : Nat} : ∀ {L : List (List α)}, (∀ l ∈ L, l.length = c) → L.flatten.length = L.length * c
  | [], _ => by simp
  | l :: L, h => by
    rw [List.flatten_cons, List.length_append, h l (by simp), flat_len (fun x hx => h x (List.mem_cons_of_mem _ hx)), List.length_cons, Nat.add_mul]
    omega
theorem flat_chunk {α : Type} {c : Nat} : ∀ {L : List (List α)}, (∀ l ∈ L, l.length = c) → ∀ {k : Nat} {l : List α}, L[k]? = some l → (L.flatten.drop (k * c)).take c = l
  | [], _, k, l, hk => by simp at hk
  | x :: L, h, 0, l, hk => by
    simp only [List.getElem?_cons_zero, Option.some.injEq] at hk
    subst hk
    have := h x (by simp)
    rw [Nat.zero_mul, List.drop_zero, List.flatten_cons, List.take_append_of_le_length (by omega), List.take_of_length_le (by omega)]
  | x :: L, h, k + 1, l, hk => by
    have hx := h x (by simp)
    rw [List.getElem?_cons_succ] at hk
    have := flat_chunk (fun y hy => h y (List.mem_cons_of_mem _ hy)) hk
    rw [List.flatten_cons, show (k + 1) * c = x.length + k * c by rw [Nat.add_mul]; omega, List.drop_length_add_append]
    exact this
/-- Pieces of unlike lengths. -/
theorem flat_piece {α : Type} : ∀ {L : List (List α)} {k : Nat} {l : List α}, L[k]? = some l → (L.flatten.drop ((L.take k).map List.length).sum).take l.length = l
  | [], k, l, hk => by simp at hk
  | x :: L, 0, l, hk => by
    simp only [List.getElem?_cons_zero, Option.some.injEq] at hk
    subst hk
    simp
  | x :: L, k + 1, l, hk => by
    rw [List.getElem?_cons_succ] at hk
    have := flat_piece hk
    rw [List.flatten_cons, List.take_succ_cons, List.map_cons, List.sum_cons, List.drop_length_add_append]
    exact this

theorem chunks_flat {α : Type} {c : Nat} : ∀ {m : Nat} {l : List α}, l.length = m * c → ((List.range m).map fun k => (l.drop (k * c)).take c).flatten = l
  | 0, l, h => by
    have : l = [] := List.eq_nil_of_length_eq_zero (by simpa using h)
    simp [this]
  | m + 1, l, h => by
    have hm : (m + 1) * c = m * c + c := by rw [Nat.add_mul]; omega
    rw [List.range_succ, List.map_append, List.flatten_append]
    have h1 : ((List.range m).map fun k => (l.drop (k * c)).take c) = (List.range m).map fun k => ((l.take (m * c)).drop (k * c)).take c := by
      refine List.map_congr_left fun k hk => ?_
      have hk := List.mem_range.1 hk
      have h2 : (k + 1) * c ≤ m * c := Nat.mul_le_mul_right _ (by omega)
      have h3 : (k + 1) * c = k * c + c := by rw [Nat.add_mul]; omega
      rw [List.drop_take, List.take_take, Nat.min_eq_left (by omega)]
    rw [h1, chunks_flat (l := l.take (m * c)) (by rw [List.length_take]; omega)]
    simp only [List.map_cons, List.map_nil, List.flatten_cons, List.flatten_nil, List.append_nil]
    rw [List.take_of_length_le (l := l.drop (m * c)) (by rw [List.length_drop]; omega), List.take_append_drop]

section
variable {P : Program}
/-- Fields lie one behind the other. -/
def laysF (P : Program) : List Field → Nat → Option Nat
  | [], o => some o
  | f :: r, o => if f.offset = o then laysF P r (o + P.cellsOf f.type) else none
/-- A type whose values hold booleans, integers, strings, slices, structs and arrays alone. -/
def plainT (P : Program) : Nat → TypeId → Bool
  | 0, _ => false
  | n + 1, t => match P.underlying t with
    | some .bool | some (.int _) | some .string => P.cellsOf t == 1
    | some (.slice e) => P.cellsOf t == 1 && Nat.blt 0 (P.cellsOf e) && plainT P n e
    | some (.struct fs) => laysF P fs.toList 0 == some (P.cellsOf t) && fs.toList.all fun f => plainT P n f.type
    | some (.array m e) => P.cellsOf t == m * P.cellsOf e && plainT P n e
    | _ => false
/-- Cells that read avs a value of such a type. -/
def Rd (P : Program) (h : Heap) : Nat → TypeId → List Value → Prop
  | 0, _, _ => False
  | n + 1, t, cs => match P.underlying t with
    | some .bool => ∃ b, cs = [.bool b]
    | some (.int k) => ∃ a, cs = [.int k a] ∧ (Lit.int k a).wf = true
    | some .string => ∃ s, cs = [.string (bstr s)] ∧ s.length ≤ reachBytes
    | some (.slice e) => cs = [.slice none 0 0] ∨ ∃ i len cap cells, cs = [.slice (some ⟨i, 0, none⟩) len cap] ∧ len * P.bytesOf e ≤ reachBytes ∧ cells.length = len * P.cellsOf e ∧ (cells ≠ [] → h.get i = some ⟨cells, 0, false⟩) ∧
        ∀ k, k < len → Rd P h n e ((cells.drop (k * P.cellsOf e)).take (P.cellsOf e))
    | some (.struct fs) => cs.length = P.cellsOf t ∧ ∀ f ∈ fs.toList, Rd P h n f.type ((cs.drop f.offset).take (P.cellsOf f.type))
    | some (.array m e) => cs.length = P.cellsOf t ∧ ∀ k, k < m → Rd P h n e ((cs.drop (k * P.cellsOf e)).take (P.cellsOf e))
    | _ => False
theorem Rd.ext {h h' : Heap} (hx : Ext h h') : ∀ {n : Nat} {t : TypeId} {cs : List Value}, Rd P h n t cs → Rd P h' n t cs
  | 0, _, _, r => r.elim
  | n + 1, t, cs, r => by
    unfold Rd at r ⊢
    split <;> simp_all only
    · rcases r with r | ⟨i, len, cap, cells, h1, h2, h3, h4, h5⟩
      · exact .inl r
      · exact .inr ⟨i, len, cap, cells, h1, h2, h3, fun hne => hx.c _ _ (h4 hne), fun k hk => (h5 k hk).ext hx⟩
    · exact ⟨trivial, fun f hf => (r.2 f hf).ext hx⟩
    · exact ⟨trivial, fun k hk => (r.2 k hk).ext hx⟩

theorem roRen_app {G : Nat} {bs bs' : List RoB} : ∀ i, i < G + bs.length → roRen G (bs ++ bs') i = roRen G bs i := by
  intro i hi
  unfold roRen
  split
  · rfl
  · rw [List.getElem?_append_left (by omega)]
theorem roHeap_ext {G : Nat} {bs bs' : List RoB} : Ext (roHeap G bs) (roHeap G (bs ++ bs')) := by
  refine ⟨fun i b hi => ?_, fun i o hi => hi⟩
  unfold roHeap at hi ⊢
  simp only at hi ⊢
  split at hi
  · cases hi
  · rename_i hg
    rw [if_neg hg]
    cases hq : bs[i - G]? with
    | none => rw [hq] at hi; cases hi
    | some rb =>
      rw [hq] at hi
      have := (List.getElem?_eq_some_iff.1 hq).1
      rw [List.getElem?_append_left this, hq]
      exact hi
theorem roVRels {G : Nat} {bs bs' : List RoB} {xs cs : List Value} (r : VRels (roRen G bs) (G + bs.length) xs cs) : VRels (roRen G (bs ++ bs')) (G + (bs ++ bs').length) xs cs :=
  r.mono roRen_app (by simp)
/-- Blocks that the world bears out. -/
def RoAll (G : Nat) (bs bs' : List RoB) (W : World) : Prop := ∀ b ∈ bs', b.at_.spot = none ∧ ∀ (k : Nat) v, b.cells[k]? = some v → ∃ c, W.cell? (b.at_.add k) = some c ∧ VRel (roRen G bs) (G + bs.length) v c
theorem RoAll.app {G : Nat} {bs b1 b2 : List RoB} {W : World} (r : RoAll G bs b1 W) : RoAll G (bs ++ b2) b1 W := by
  intro b hb
  obtain ⟨h1, h2⟩ := r b hb
  refine ⟨h1, fun k v hk => ?_⟩
  obtain ⟨c, q1, q2⟩ := h2 k v hk
  exact ⟨c, q1, q2.mono roRen_app (by simp)⟩
theorem RoAll.two {G : Nat} {bs b1 b2 : List RoB} {W : World} (r1 : RoAll G bs b1 W) (r2 : RoAll G bs b2 W) : RoAll G bs (b1 ++ b2) W := by
  intro b hb
  rcases List.mem_append.1 hb with h | h
  · exact r1 b h
  · exact r2 b h
/-- What opening gives: new blocks, and cells over them. -/
def Opens (P : Program) (G : Nat) (W : World) (n : Nat) (t : TypeId) (cs : List Value) : Prop :=
  ∀ bs : List RoB, ∃ (bs' : List RoB) (avs : List Value), RoAll G (bs ++ bs') bs' W ∧ VRels (roRen G (bs ++ bs')) (G + (bs ++ bs').length) avs cs ∧ Rd P (roHeap G (bs ++ bs')) n t avs
/-- Many, one behind the other. -/
theorem opens_list {G n : Nat} {W : World} : ∀ (items : List (TypeId × List Value)), (∀ x ∈ items, Opens P G W n x.1 x.2) → ∀ bs : List RoB, ∃ (bs' : List RoB) (avs : List (List Value)), RoAll G (bs ++ bs') bs' W ∧ avs.length = items.length ∧
    ∀ (k : Nat) x a, items[k]? = some x → avs[k]? = some a → VRels (roRen G (bs ++ bs')) (G + (bs ++ bs').length) a x.2 ∧ Rd P (roHeap G (bs ++ bs')) n x.1 a
  | [], _, bs => ⟨[], [], (fun b hb => by cases hb), rfl, fun k x a hx => by simp at hx⟩
  | y :: items, h, bs => by
    obtain ⟨b1, a1, r1, v1, d1⟩ := h y (by simp) bs
    obtain ⟨b2, a2, r2, l2, q2⟩ := opens_list items (fun x hx => h x (List.mem_cons_of_mem _ hx)) (bs ++ b1)
    refine ⟨b1 ++ b2, a1 :: a2, ?_, by simp [l2], fun k x a hx ha => ?_⟩
    · rw [← List.append_assoc]
      exact r1.app.two r2
    · rw [← List.append_assoc]
      cases k with
      | zero =>
        simp only [List.getElem?_cons_zero, Option.some.injEq] at hx ha
        subst hx ha
        exact ⟨roVRels v1, d1.ext roHeap_ext⟩
      | succ k =>
        simp only [List.getElem?_cons_succ] at hx ha
        exact q2 k x a hx ha
theorem VRels.flat {φ : Ren} {n : Nat} : ∀ {avs cs : List (List Value)}, avs.length = cs.length → (∀ (k : Nat) a c, avs[k]? = some a → cs[k]? = some c → VRels φ n a c) → VRels φ n avs.flatten cs.flatten
  | [], [], _, _ => .nil
  | a :: avs, c :: cs, hl, h => by
    rw [List.flatten_cons, List.flatten_cons]
    exact (h 0 a c rfl rfl).append (VRels.flat (by simpa using hl) fun k x y hx hy => h (k + 1) x y hx hy)
  | [], c :: cs, hl, _ => by simp at hl
  | a :: avs, [], hl, _ => by simp at hl
/-- Pieces of a row, by its fields. -/
theorem laysF_flat {cs : List Value} : ∀ {fs : List Field} {o T : Nat}, laysF P fs o = some T → T ≤ cs.length → (fs.map fun f => (cs.drop f.offset).take (P.cellsOf f.type)).flatten = (cs.drop o).take (T - o) ∧ o ≤ T
  | [], o, T, h, _ => by
    simp only [laysF, Option.some.injEq] at h
    subst h
    simp
  | f :: fs, o, T, h, hT => by
    unfold laysF at h
    split at h
    · rename_i ho
      obtain ⟨e, hle⟩ := laysF_flat (cs := cs) h hT
      refine ⟨?_, by omega⟩
      rw [List.map_cons, List.flatten_cons, e, ho, ← List.drop_drop, show T - o = P.cellsOf f.type + (T - (o + P.cellsOf f.type)) by omega, List.take_add]
    · cases h
theorem laysF_off : ∀ {fs : List Field} {o T : Nat}, laysF P fs o = some T → ∀ (k : Nat) f, fs[k]? = some f → f.offset = o + ((fs.take k).map fun f => P.cellsOf f.type).sum
  | [], o, T, h, k, f, hk => by simp at hk
  | g :: fs, o, T, h, k, f, hk => by
    unfold laysF at h
    split at h
    · rename_i ho
      cases k with
      | zero =>
        simp only [List.getElem?_cons_zero, Option.some.injEq] at hk
        subst hk
        simpa using ho
      | succ k =>
        rw [List.getElem?_cons_succ] at hk
        have := laysF_off h k f hk
        rw [this, List.take_succ_cons, List.map_cons, List.sum_cons]
        omega
    · cases h
theorem laysF_len : ∀ {fs : List Field} {o T : Nat}, laysF P fs o = some T → T = o + (fs.map fun f => P.cellsOf f.type).sum
  | [], o, T, h => by simp only [laysF, Option.some.injEq] at h; simp [h]
  | g :: fs, o, T, h => by
    unfold laysF at h
    split at h
    · have := laysF_len h
      rw [this, List.map_cons, List.sum_cons]
      omega
    · cases h
theorem weightsAll_in {H : Type} {e : TypeId} : ∀ {l : List (DataW H)} {d : DataW H}, d ∈ l → ∀ n ∈ d.weights P e, n ∈ DataW.weightsAll P e l
  | d' :: r, d, hd, n, hn => by
    simp only [DataW.weightsAll, List.mem_append]
    rcases List.mem_cons.1 hd with rfl | h
    · exact .inl hn
    · exact .inr (weightsAll_in h n hn)
theorem plainT_len {n : Nat} {t : TypeId} (hp : plainT P n t = true) {h : Heap} {cs : List Value} (r : Rd P h n t cs) : cs.length = P.cellsOf t := by
  cases n with
  | zero => exact r.elim
  | succ n =>
    unfold Rd at r
    unfold plainT at hp
    split at r
    · rename_i hu; rw [hu] at hp; obtain ⟨b, rfl⟩ := r; simpa using (beq_iff_eq.1 hp).symm
    · rename_i hu; rw [hu] at hp; obtain ⟨a, rfl, _⟩ := r; simpa using (beq_iff_eq.1 hp).symm
    · rename_i hu; rw [hu] at hp; obtain ⟨s, rfl, _⟩ := r; simpa using (beq_iff_eq.1 hp).symm
    · rename_i hu
      rw [hu] at hp
      simp only [Bool.and_eq_true, beq_iff_eq] at hp
      rcases r with rfl | ⟨i, len, cap, cells, rfl, _⟩
      · simpa using hp.1.1.symm
      · simpa using hp.1.1.symm
    · exact r.1
    · exact r.1
    · exact r.elim
section
variable {H : Type} {enc : TypeId × Value → H} {W : World} {base : Nat} {spare : Nat → Bool} {held : Bool}
theorem opens {G : Nat} (hall : ∀ b, spare b = true) : ∀ (n : Nat) (t : TypeId) (fuel : Nat) (cs : List Value) (x : DataW H × List MemPlace), plainT P n t = true → DataW.trod enc P W base spare held fuel t cs = some x →
    (x.1.weights P t).all (· ≤ reachBytes) = true → Opens P G W n t cs
  | 0, _, _, _, _, hp, _, _ => by simp [plainT] at hp
  | n + 1, t, fuel, cs, x, hp, ht, hs => by
    intro bs
    have hp0 := hp
    unfold plainT at hp
    split at hp
    · rename_i hu
      obtain ⟨b, rfl, rfl⟩ := DataW.trod_bool hu ht
      refine ⟨[], [.bool b], (fun b hb => by cases hb), .cons (.bool b) .nil, ?_⟩
      unfold Rd
      rw [hu]
      exact ⟨b, rfl⟩
    · rename_i k hu
      obtain ⟨a, rfl, rfl, hw⟩ := DataW.trod_int hu ht
      refine ⟨[], [.int k a], (fun b hb => by cases hb), .cons (.int k a) .nil, ?_⟩
      unfold Rd
      rw [hu]
      exact ⟨a, rfl, hw⟩
    · rename_i hu
      obtain ⟨s, rfl, rfl, _⟩ := DataW.trod_string hu ht
      have hsz : s.data.toList.length ≤ reachBytes := by
        have := List.all_eq_true.1 hs s.data.toList.length (by simp [DataW.weights])
        simpa using this
      have hb : s = bstr s.data.toList := by
        unfold bstr
        cases s
        simp
      refine ⟨[], [.string s], (fun b hb => by cases hb), .cons (.string s) .nil, ?_⟩
      unfold Rd
      rw [hu]
      exact ⟨s.data.toList, by rw [← hb], hsz⟩
    · rename_i e hu
      simp only [Bool.and_eq_true, beq_iff_eq, Nat.blt_eq] at hp
      obtain ⟨⟨hc1, hc0⟩, hpe⟩ := hp
      rcases DataW.trod_slice hu ht with ⟨rfl, rfl⟩ | ⟨a, len, cap, elems, rest, m, _, rfl, rfl, hb, hl, hm, hlen, hel, hsp, hns⟩
      · refine ⟨[], [.slice none 0 0], (fun b hb => by cases hb), .cons .nilSlice .nil, ?_⟩
        unfold Rd
        rw [hu]
        exact .inl rfl
      · have hws : ∀ y ∈ elems, (y.1.weights P e).all (· ≤ reachBytes) = true := by
          intro y hy
          refine List.all_eq_true.2 fun q hq => ?_
          refine List.all_eq_true.1 hs q ?_
          simp only [DataW.weights, hu]
          refine List.mem_cons_of_mem _ (List.mem_append_left _ ?_)
          exact weightsAll_in (List.mem_map.2 ⟨y, hy, rfl⟩) q hq
        have hsz : len * P.bytesOf e ≤ reachBytes := by
          have := List.all_eq_true.1 hs ((elems.length + rest.length) * P.bytesOf e) (by simp [DataW.weights, hu])
          have h2 : elems.length * P.bytesOf e ≤ (elems.length + rest.length) * P.bytesOf e := Nat.mul_le_mul_right _ (by omega)
          rw [hlen] at h2
          have h3 : (elems.length + rest.length) * P.bytesOf e ≤ reachBytes := of_decide_eq_true this
          rw [hlen] at h3
          omega
        have hget : ∀ i, i < len → ∃ ci y, W.cells? base (a.add (i * P.cellsOf e)) (P.cellsOf e) = some ci ∧ elems[i]? = some y ∧ DataW.trod enc P W base spare held m e ci = some y := by
          intro i hi
          have h1 := hel i hi
          rw [List.getElem?_eq_getElem (by omega)] at h1
          obtain ⟨ci, q1, q2⟩ := Option.bind_eq_some_iff.1 h1
          exact ⟨ci, elems[i], q1, List.getElem?_eq_getElem (by omega), q2⟩
        let items : List (TypeId × List Value) := (List.range len).map fun i => (e, (W.cells? base (a.add (i * P.cellsOf e)) (P.cellsOf e)).getD [])
        have hitems : ∀ y ∈ items, Opens P G W n y.1 y.2 := by
          intro y hy
          obtain ⟨i, hi, rfl⟩ := List.mem_map.1 hy
          obtain ⟨ci, z, q1, q2, q3⟩ := hget i (List.mem_range.1 hi)
          show Opens P G W n e _
          rw [q1]
          exact opens hall n e m ci z hpe q3 (hws z (List.mem_of_getElem? q2))
        obtain ⟨b1, avs, r1, l1, q⟩ := opens_list items hitems bs
        have hil : items.length = len := by simp [items]
        rw [hil] at l1
        have hit : ∀ (k : Nat), k < len → ∃ ci, items[k]? = some (e, ci) ∧ W.cells? base (a.add (k * P.cellsOf e)) (P.cellsOf e) = some ci := by
          intro k hk
          obtain ⟨ci, z, q1, _, _⟩ := hget k hk
          refine ⟨ci, ?_, q1⟩
          simp only [items, List.getElem?_map, List.getElem?_range hk, Option.map_some, q1, Option.getD_some]
        have hal : ∀ l ∈ avs, l.length = P.cellsOf e := by
          intro l hl'
          obtain ⟨k, hk⟩ := List.getElem?_of_mem hl'
          have hkl : k < len := by have := (List.getElem?_eq_some_iff.1 hk).1; omega
          obtain ⟨ci, q1, q2⟩ := hit k hkl
          exact plainT_len hpe (q k _ _ q1 hk).2
        have hfl := flat_len hal
        let blk : RoB := ⟨avs.flatten, if cap = 0 then ⟨0, 0, none⟩ else a⟩
        have hcell : ∀ (j : Nat) v, avs.flatten[j]? = some v → ∃ c, W.cell? (a.add j) = some c ∧ VRel (roRen G (bs ++ b1)) (G + (bs ++ b1).length) v c := by
          intro j v hj
          rw [flat_get hc0 hal] at hj
          obtain ⟨l, h1, h2⟩ := Option.bind_eq_some_iff.1 hj
          have hkl : j / P.cellsOf e < len := by have := (List.getElem?_eq_some_iff.1 h1).1; omega
          obtain ⟨ci, q1, q2⟩ := hit _ hkl
          obtain ⟨c, hc, hv⟩ := (q _ _ _ q1 h1).1.get h2
          refine ⟨c, ?_, hv⟩
          obtain ⟨_, _, g3⟩ := World.cells?_some q2
          have := g3 (j % P.cellsOf e) (Nat.mod_lt _ hc0)
          rw [hc] at this
          rw [← this, Go.Deep.add_add, Nat.mul_comm, Nat.div_add_mod]
        have hspot : cap ≠ 0 → a.spot = none := by
          intro hcap
          have hz : ∃ ci, W.cells? base (a.add (0 * P.cellsOf e)) (P.cellsOf e) = some ci := by
            by_cases hl0 : len = 0
            · obtain ⟨hr1, hr2⟩ := hsp (hall _)
              have := hr2 0 (by omega)
              rw [List.getElem?_eq_getElem (by omega)] at this
              simp only [hl0, Nat.add_zero] at this
              obtain ⟨ci, q1, _⟩ := Option.bind_eq_some_iff.1 this
              exact ⟨ci, q1⟩
            · obtain ⟨ci, z, q1, _⟩ := hget 0 (by omega)
              exact ⟨ci, q1⟩
          obtain ⟨ci, q1⟩ := hz
          obtain ⟨_, g2, g3⟩ := World.cells?_some q1
          have g4 := g3 0 hc0
          rw [List.getElem?_eq_getElem (by omega), Nat.zero_mul] at g4
          rw [Go.Deep.add_add] at g4
          exact spot_of g4
        have hq : (bs ++ (b1 ++ [blk]))[bs.length + b1.length]? = some blk := by
          rw [List.getElem?_append_right (by omega), List.getElem?_append_right (by omega)]
          simp
        have hren : roRen G (bs ++ (b1 ++ [blk])) (G + (bs.length + b1.length)) = ⟨blk.at_.block, blk.at_.off, 0⟩ := by
          unfold roRen
          rw [if_neg (by omega), show G + (bs.length + b1.length) - G = bs.length + b1.length by omega, hq]
        refine ⟨b1 ++ [blk], [.slice (some ⟨G + (bs.length + b1.length), 0, none⟩) len (if cap = len then len else len + 1)], ?_, ?_, ?_⟩
        · rw [← List.append_assoc]
          refine r1.app.two fun b hb => ?_
          rw [List.mem_singleton.1 hb]
          by_cases hcap : cap = 0
          · have hz : avs.flatten = [] := List.eq_nil_of_length_eq_zero (by rw [hfl, l1, show len = 0 by omega]; simp)
            refine ⟨by show (if cap = 0 then _ else a : Addr).spot = none; rw [if_pos hcap], fun k v hk => ?_⟩
            replace hk : avs.flatten[k]? = some v := hk
            rw [hz] at hk
            simp at hk
          · refine ⟨by show (if cap = 0 then _ else a : Addr).spot = none; rw [if_neg hcap]; exact hspot hcap, fun k v hk => ?_⟩
            obtain ⟨c, hc, hv⟩ := hcell k v hk
            refine ⟨c, ?_, hv.mono roRen_app (by simp)⟩
            show W.cell? ((if cap = 0 then _ else a : Addr).add k) = some c
            rw [if_neg hcap]
            exact hc
        · refine .cons (.slice _ _ _ _ _ _ _ (by simp) ?_ hl ?_ ?_ hm (by intro t ht; cases ht)) .nil
          · split <;> omega
          · simp only [maxLen] at hm
            split
            · exact ⟨fun _ => by omega, fun e => by omega⟩
            · exact ⟨fun e => by omega, fun e => by omega⟩
          · by_cases hcap : cap = 0
            · exact .inr hcap
            · left
              rw [hren]
              have h1 := hspot hcap
              show a = ⟨(if cap = 0 then _ else a : Addr).block, (if cap = 0 then _ else a : Addr).off + 0, none⟩
              rw [if_neg hcap]
              cases a
              simp only at h1
              subst h1
              rfl
        · unfold Rd
          rw [hu]
          right
          refine ⟨_, len, _, avs.flatten, rfl, hsz, by rw [hfl, l1], fun hne => ?_, fun k hk => ?_⟩
          · show (if _ < G then none else ((bs ++ (b1 ++ [blk]))[_]?).bind _) = _
            rw [if_neg (by omega), show G + (bs.length + b1.length) - G = bs.length + b1.length by omega, hq]
            show (if avs.flatten.isEmpty then none else some (⟨avs.flatten, 0, false⟩ : Blk)) = _
            rw [if_neg (by simpa using hne)]
          · obtain ⟨l, hk2⟩ : ∃ l, avs[k]? = some l := ⟨_, List.getElem?_eq_getElem (by omega)⟩
            rw [flat_chunk hal hk2]
            obtain ⟨ci, q1, _⟩ := hit k hk
            have := (q k _ _ q1 hk2).2
            rw [← List.append_assoc]
            exact this.ext roHeap_ext
    · rename_i fs hu
      simp only [Bool.and_eq_true, beq_iff_eq] at hp
      obtain ⟨hlay, hpf⟩ := hp
      obtain ⟨xs, m, _, rfl, hcl, hxl, hx⟩ := DataW.trod_struct hu ht
      let items : List (TypeId × List Value) := fs.toList.map fun f => (f.type, (cs.drop f.offset).take (P.cellsOf f.type))
      have hxt : ∀ (k : Nat) f, fs.toList[k]? = some f → ∃ y, xs[k]? = some y ∧ DataW.trod enc P W base spare held m f.type ((cs.drop f.offset).take (P.cellsOf f.type)) = some y := by
        intro k f hf
        have h1 := hx k f (by simpa using hf)
        have hk := (List.getElem?_eq_some_iff.1 hf).1
        rw [List.getElem?_eq_getElem (by simp at hk; omega)] at h1
        exact ⟨_, List.getElem?_eq_getElem (by simp at hk; omega), h1⟩
      have hwe : ∀ (k : Nat) f y, fs.toList[k]? = some f → xs[k]? = some y → (y.1.weights P f.type).all (· ≤ reachBytes) = true := by
        intro k f y hf hy
        refine List.all_eq_true.2 fun q hq => ?_
        refine List.all_eq_true.1 hs q ?_
        simp only [DataW.weights, hu]
        exact DataW.weights_mem_each (j := k) (t := f.type) (d := y.1) (by simp only [List.getElem?_map, hf, Option.map_some]) (by simp [List.getElem?_map, hy]) q hq
      have hitems : ∀ y ∈ items, Opens P G W n y.1 y.2 := by
        intro y hy
        obtain ⟨f, hf, rfl⟩ := List.mem_map.1 hy
        obtain ⟨k, hk⟩ := List.getElem?_of_mem hf
        obtain ⟨z, h1, h2⟩ := hxt k f hk
        exact opens hall n f.type m _ z (List.all_eq_true.1 hpf f hf) h2 (hwe k f z hk h1)
      obtain ⟨b1, avs, r1, l1, q⟩ := opens_list items hitems bs
      have hal : ∀ (k : Nat) f a, fs.toList[k]? = some f → avs[k]? = some a → VRels (roRen G (bs ++ b1)) (G + (bs ++ b1).length) a ((cs.drop f.offset).take (P.cellsOf f.type)) ∧ Rd P (roHeap G (bs ++ b1)) n f.type a ∧ a.length = P.cellsOf f.type := by
        intro k f a hf ha
        obtain ⟨h1, h2⟩ := q k (f.type, (cs.drop f.offset).take (P.cellsOf f.type)) a (by simp only [items, List.getElem?_map, hf, Option.map_some]) ha
        exact ⟨h1, h2, plainT_len (List.all_eq_true.1 hpf f (List.mem_of_getElem? hf)) h2⟩
      obtain ⟨hf1, _⟩ := laysF_flat (cs := cs) hlay (by omega)
      rw [List.drop_zero, Nat.sub_zero, List.take_of_length_le (by omega)] at hf1
      have hlens : avs.map List.length = fs.toList.map fun f => P.cellsOf f.type := by
        apply List.ext_getElem?
        intro k
        rw [List.getElem?_map, List.getElem?_map]
        cases hk : fs.toList[k]? with
        | none =>
          have : avs[k]? = none := by
            rw [List.getElem?_eq_none_iff] at hk ⊢
            simp [items] at l1
            simp at hk
            omega
          rw [this]; rfl
        | some f =>
          have hkl := (List.getElem?_eq_some_iff.1 hk).1
          have : ∃ a, avs[k]? = some a := ⟨_, List.getElem?_eq_getElem (by simp [items] at l1; simp at hkl; omega)⟩
          obtain ⟨a, ha⟩ := this
          rw [ha]
          simp [(hal k f a hk ha).2.2]
      refine ⟨b1, avs.flatten, r1, ?_, ?_⟩
      · rw [← hf1]
        refine VRels.flat (by simpa [items] using l1) fun k a c ha hc => ?_
        rw [List.getElem?_map] at hc
        cases hk : fs.toList[k]? with
        | none => rw [hk] at hc; cases hc
        | some f =>
          rw [hk] at hc
          simp only [Option.map_some, Option.some.injEq] at hc
          subst hc
          exact (hal k f a hk ha).1
      · unfold Rd
        rw [hu]
        refine ⟨?_, fun f hf => ?_⟩
        · rw [List.length_flatten, hlens]
          have := laysF_len hlay
          omega
        · obtain ⟨k, hk⟩ := List.getElem?_of_mem hf
          have hkl := (List.getElem?_eq_some_iff.1 hk).1
          obtain ⟨a, ha⟩ : ∃ a, avs[k]? = some a := ⟨_, List.getElem?_eq_getElem (by simp [items] at l1; simp at hkl; omega)⟩
          have h1 := laysF_off hlay k f hk
          have h2 := flat_piece ha
          rw [List.map_take, hlens, ← List.map_take, (hal k f a hk ha).2.2] at h2
          rw [h1, Nat.zero_add, h2]
          exact (hal k f a hk ha).2.1
    · rename_i m e hu
      simp only [Bool.and_eq_true, beq_iff_eq] at hp
      obtain ⟨hce, hpe⟩ := hp
      obtain ⟨xs, fu, _, rfl, hcl, hxl, hx⟩ := DataW.trod_array hu ht
      let items : List (TypeId × List Value) := (List.range m).map fun k => (e, (cs.drop (k * P.cellsOf e)).take (P.cellsOf e))
      have hxt : ∀ k, k < m → ∃ y, xs[k]? = some y ∧ DataW.trod enc P W base spare held fu e ((cs.drop (k * P.cellsOf e)).take (P.cellsOf e)) = some y := by
        intro k hk
        have h1 := hx k hk
        rw [List.getElem?_eq_getElem (by omega)] at h1
        exact ⟨_, List.getElem?_eq_getElem (by omega), h1⟩
      have hws : ∀ y ∈ xs, (y.1.weights P e).all (· ≤ reachBytes) = true := by
        intro y hy
        refine List.all_eq_true.2 fun q hq => ?_
        refine List.all_eq_true.1 hs q ?_
        simp only [DataW.weights, hu]
        exact weightsAll_in (List.mem_map.2 ⟨y, hy, rfl⟩) q hq
      have hitems : ∀ y ∈ items, Opens P G W n y.1 y.2 := by
        intro y hy
        obtain ⟨k, hk, rfl⟩ := List.mem_map.1 hy
        obtain ⟨z, h1, h2⟩ := hxt k (List.mem_range.1 hk)
        exact opens hall n e fu _ z hpe h2 (hws z (List.mem_of_getElem? h1))
      obtain ⟨b1, avs, r1, l1, q⟩ := opens_list items hitems bs
      have hil : items.length = m := by simp [items]
      rw [hil] at l1
      have hal : ∀ (k : Nat) a, k < m → avs[k]? = some a → VRels (roRen G (bs ++ b1)) (G + (bs ++ b1).length) a ((cs.drop (k * P.cellsOf e)).take (P.cellsOf e)) ∧ Rd P (roHeap G (bs ++ b1)) n e a := by
        intro k a hk ha
        exact q k (e, (cs.drop (k * P.cellsOf e)).take (P.cellsOf e)) a (by simp only [items, List.getElem?_map, List.getElem?_range hk, Option.map_some]) ha
      have hall : ∀ l ∈ avs, l.length = P.cellsOf e := by
        intro l hl
        obtain ⟨k, hk⟩ := List.getElem?_of_mem hl
        exact plainT_len hpe (hal k l (by have := (List.getElem?_eq_some_iff.1 hk).1; omega) hk).2
      have hcs : ((List.range m).map fun k => (cs.drop (k * P.cellsOf e)).take (P.cellsOf e)).flatten = cs := chunks_flat (by omega)
      refine ⟨b1, avs.flatten, r1, ?_, ?_⟩
      · conv => arg 4; rw [← hcs]
        refine VRels.flat (by simpa using l1) fun k a c ha hc => ?_
        have hk : k < m := by have := (List.getElem?_eq_some_iff.1 ha).1; omega
        rw [List.getElem?_map, List.getElem?_range hk] at hc
        simp only [Option.map_some, Option.some.injEq] at hc
        subst hc
        exact (hal k a hk ha).1
      · unfold Rd
        rw [hu]
        refine ⟨by rw [flat_len hall, l1, hce], fun k hk => ?_⟩
        obtain ⟨a, ha⟩ : ∃ a, avs[k]? = some a := ⟨_, List.getElem?_eq_getElem (by omega)⟩
        rw [flat_chunk hall ha]
        exact (hal k a hk ha).2
    · cases hp
end
end
end Go.Eng

/-
  The engine: slices whose elements have several cells.
-/
namespace Go.Eng
open Go

theorem splice_flat {α : Type} {c : Nat} : ∀ {L : List (List Value)} (_ : ∀ l ∈ L, l.length = c) {k : Nat} {r : List Value}, r.length = c → k < L.length → splice L.flatten (k * c) r = (L.set k r).flatten
  | [], _, k, r, _, hk => by simp at hk
  | x :: L, h, 0, r, hr, _ => by
    have hx := h x (by simp)
    simp only [splice, Nat.zero_mul, List.take_zero, List.nil_append, Nat.zero_add, List.flatten_cons, List.set_cons_zero]
    rw [List.drop_append_of_le_length (by omega), List.drop_of_length_le (by omega), List.nil_append]
  | x :: L, h, k + 1, r, hr, hk => by
    have hx := h x (by simp)
    have hk' : k < L.length := by simpa using hk
    have ih := splice_flat (α := α) (fun l hl => h l (List.mem_cons_of_mem _ hl)) hr hk'
    have e1 : (k + 1) * c = x.length + k * c := by rw [Nat.add_mul]; omega
    simp only [splice] at ih ⊢
    rw [e1, List.flatten_cons, List.take_length_add_append, Nat.add_assoc, List.drop_length_add_append, List.set_cons_succ, List.flatten_cons, ← ih]
    simp only [List.append_assoc]
section
variable {P : Program} {ρ : Operand → Value} {h : Heap} {K : Value → Heap → Prop} {dst : Option Tmp} {ty : TypeId} {pos : String} {aft : Array Edge} {g : Option (Nat × Bool)}
theorem op_sEqF {t t' : TypeId} {x y : Operand} {a b : List UInt8} (hx : ρ x = .string (bstr a)) (hy : ρ y = .string (bstr b)) (he : ¬ a = b) (kk : K (.bool false) h) : AOp P ⟨dst, .binOp .eql t x y t', ty, pos, aft, g⟩ ρ h K :=
  op_strB hx hy (c := false) (by simp only [strB, bstr_toList]; rw [show (a == b) = false from by simpa using he]) kk
theorem op_sLssB {t t' : TypeId} {x y : Operand} {a b : List UInt8} {c : Bool} (hx : ρ x = .string (bstr a)) (hy : ρ y = .string (bstr b)) (he : Op.bytesLess a b = c) (kk : K (.bool c) h) : AOp P ⟨dst, .binOp .lss t x y t', ty, pos, aft, g⟩ ρ h K :=
  op_sLss hx hy (by rw [he]; exact kk)
theorem bstr_extract (s : List UInt8) (l m : Nat) : (bstr s).extract l m = bstr ((s.take m).drop l) := by
  apply ByteArray.ext
  simp only [ByteArray.data_extract]
  apply Array.ext'
  simp [bstr, List.drop_take]
theorem op_sliceSB {t : TypeId} {x : Operand} {lo hi : Option Operand} {s : List UInt8} {l m : Int} [td : TyD P t .string] (hx : ρ x = .string (bstr s)) (hl : bnd ρ lo 0 = some l) (hm : bnd ρ hi s.length = some m) (h0 : 0 ≤ l) (h1 : l ≤ m) (h2 : m ≤ s.length)
    (kk : K (.string (bstr ((s.take m.toNat).drop l.toNat))) h) : AOp P ⟨dst, .slice t x lo hi none, ty, pos, aft, g⟩ ρ h K :=
  op_sliceStr hx hl (by rw [bstr_size]; exact hm) h0 h1 (by rw [bstr_size]; exact h2) (by rw [bstr_extract]; exact kk)
/-- The value is a slice whose elements, of c cells each, are rows. -/
structure RN (c : Nat) (h : Heap) (v : Value) (rows : List (List Value)) : Prop where
  len : ∀ r ∈ rows, r.length = c
  at_ : (v = .slice none 0 0 ∧ rows = []) ∨ ∃ i o s cap, v = .slice (some ⟨i, o, s⟩) rows.length cap ∧ (s = none ∨ s = some c) ∧ (rows ≠ [] → ∃ b, h.get i = some b ∧ o + rows.length * c ≤ b.cells.length ∧ (b.cells.drop o).take (rows.length * c) = rows.flatten)
/-- A pointer to a row of cells that is known. -/
def PR (h : Heap) (p : Value) (row : List Value) : Prop := ∃ i o s b, p = .pointer (some ⟨i, o, s⟩) ∧ h.get i = some b ∧ o + row.length ≤ b.cells.length ∧ (b.cells.drop o).take row.length = row
theorem RN.ext {c : Nat} {h h' : Heap} {v : Value} {rows : List (List Value)} (r : RN c h v rows) (hx : Ext h h') : RN c h' v rows :=
  ⟨r.len, r.at_.imp id fun ⟨i, o, s, cap, h1, h2, h3⟩ => ⟨i, o, s, cap, h1, h2, fun hv => by obtain ⟨b, h4, h5⟩ := h3 hv; exact ⟨b, hx.c i b h4, h5⟩⟩⟩
theorem PR.ext {h h' : Heap} {p : Value} {row : List Value} (r : PR h p row) (hx : Ext h h') : PR h' p row := by
  obtain ⟨i, o, s, b, h1, h2, h3⟩ := r
  exact ⟨i, o, s, b, h1, hx.c i b h2, h3⟩
theorem RN.nil (c : Nat) (h : Heap) : RN c h (.slice none 0 0) [] := ⟨by simp, .inl ⟨rfl, rfl⟩⟩
theorem RN.slice {c : Nat} {v : Value} {rows : List (List Value)} (r : RN c h v rows) : ∃ a k, v = .slice a rows.length k := by
  rcases r.at_ with ⟨rfl, rfl⟩ | ⟨i, o, s, cap, h1, _⟩
  · exact ⟨none, 0, rfl⟩
  · exact ⟨_, cap, h1⟩
theorem RN.own {c i n cap : Nat} {e : TypeId} {w : Bool} {rows : List (List Value)} (hl : ∀ r ∈ rows, r.length = c) (hi : h.get i = some ⟨rows.flatten, e, w⟩) (hn : rows.length = n) : RN c h (.slice (some ⟨i, 0, some c⟩) n cap) rows := by
  subst hn
  have := flat_len hl
  exact ⟨hl, .inr ⟨i, 0, some c, cap, rfl, .inr rfl, fun _ => ⟨_, hi, by simp only [Nat.zero_add]; omega, by simp only [List.drop_zero]; rw [List.take_of_length_le (by omega)]⟩⟩⟩
theorem RN.row1 {c i k : Nat} {e : TypeId} {w : Bool} {row : List Value} (hl : row.length = c) (hi : h.get i = some ⟨row, e, w⟩) : RN c h (.slice (some ⟨i, 0, some c⟩) 1 k) [row] :=
  RN.own (rows := [row]) (by intro r hr; rw [List.mem_singleton.1 hr]; exact hl) (by simpa using hi) rfl
theorem RN.src {c : Nat} {v : Value} {rows : List (List Value)} (r : RN c h v rows) : Src h c v rows.length rows.flatten := by
  rcases r.at_ with ⟨rfl, rfl⟩ | ⟨i, o, s, cap, rfl, hs, hb⟩
  · exact .nil
  · by_cases hv : rows = []
    · subst hv; exact .empty _ _
    · obtain ⟨b, h1, h2, h3⟩ := hb hv
      have := Src.slice (h := h) (sz := c) i o s rows.length cap b h1 h2
      rw [h3] at this
      exact this
/-- The block that a slice lies in. -/
def vblk : Value → Option Nat
  | .slice (some a) _ _ => some a.block
  | _ => none
theorem RN.keep {c : Nat} {h' : Heap} {v : Value} {rows : List (List Value)} (r : RN c h v rows) (hk : ∀ i b, vblk v = some i → h.get i = some b → h'.get i = some b) : RN c h' v rows :=
  ⟨r.len, r.at_.imp id fun ⟨i, o, s, cap, h1, h2, h3⟩ => ⟨i, o, s, cap, h1, h2, fun hv => by obtain ⟨b, h4, h5⟩ := h3 hv; exact ⟨b, hk i b (by rw [h1]; rfl) h4, h5⟩⟩⟩
def ptrN (c : Nat) (v : Value) (a : Int) : Value :=
  match v with
  | .slice (some ⟨i, o, _⟩) _ _ => .pointer (some ⟨i, o + a.toNat * c, none⟩)
  | _ => undef
theorem RN.elt {c : Nat} {v : Value} {rows : List (List Value)} (r : RN c h v rows) {a : Int} {u : List Value} (hu : rows[a.toNat]? = some u) : PR h (ptrN c v a) u := by
  have hl := (List.getElem?_eq_some_iff.1 hu).1
  have hul := r.len u (List.mem_of_getElem? hu)
  rcases r.at_ with ⟨rfl, rfl⟩ | ⟨i, o, s, cap, rfl, hs, hb⟩
  · simp at hl
  · obtain ⟨b, h1, h2, h3⟩ := hb (by intro e; subst e; simp at hl)
    have h4 := flat_chunk r.len hu
    have h5 : a.toNat * c + c ≤ rows.length * c := by have := Nat.mul_le_mul_right c (show a.toNat + 1 ≤ rows.length from hl); rw [Nat.add_mul] at this; omega
    refine ⟨i, o + a.toNat * c, none, b, rfl, h1, by omega, ?_⟩
    rw [hul, ← List.drop_drop]
    rw [← h3, List.drop_take, List.take_take, Nat.min_eq_left (by omega)] at h4
    exact h4
theorem op_lenN {c : Nat} {x : Operand} {t e : TypeId} {v : Value} {rows : List (List Value)} [td : TyD P t (.slice e)] (r : RN c h v rows) (hx : ρ x = v) (kk : K (.int .i64 rows.length) h) :
    AOp P ⟨dst, .call ⟨.builtin .len, #[x], #[t]⟩, ty, pos, aft, g⟩ ρ h K := by
  obtain ⟨a, k, e⟩ := r.slice
  exact op_lenS (hx.trans e) kk
theorem op_indexND {c : Nat} {t e : TypeId} {x y : Operand} {by_ : Nat} {z v : Value} {u : List Value} {k : IntKind} {a : Int} {rows : List (List Value)} [td : TyD P t (.slice e)] [ti : TyI P e c by_ z] (r : RN c h v rows) (hx : ρ x = v) (hy : ρ y = .int k a) (h0 : 0 ≤ a)
    (hu : rows[a.toNat]? = some u) (kk : K (ptrN c v a) h) : AOp P ⟨dst, .indexAddr t x y, ty, pos, aft, g⟩ ρ h K := by
  have hl := (List.getElem?_eq_some_iff.1 hu).1
  rcases r.at_ with ⟨rfl, rfl⟩ | ⟨i, o, s, cap, rfl, hs, hb⟩
  · simp at hl
  · exact op_indexS hx hy h0 (by omega) kk
theorem op_indexN {c : Nat} {t e : TypeId} {x y : Operand} {by_ : Nat} {z v : Value} {u : List Value} {k : IntKind} {a : Int} {rows : List (List Value)} [td : TyD P t (.slice e)] [ti : TyI P e c by_ z] (r : RN c h v rows) (hx : ρ x = v) (hy : ρ y = .int k a) (h0 : 0 ≤ a)
    (hu : rows[a.toNat]? = some u) (kk : ∀ p, PR h p u → K p h) : AOp P ⟨dst, .indexAddr t x y, ty, pos, aft, g⟩ ρ h K := op_indexND r hx hy h0 hu (kk _ (r.elt hu))
/-- A field of a row, by its pointer. -/
def offP (p : Value) (off : Nat) : Value :=
  match p with
  | .pointer (some ⟨i, o, _⟩) => .pointer (some ⟨i, o + off, none⟩)
  | _ => undef
theorem PR.field {p : Value} {row : List Value} (r : PR h p row) {off : Nat} {u : Value} (hu : row[off]? = some u) : PT h (offP p off) u := by
  obtain ⟨i, o, s, b, rfl, h1, h2, h3⟩ := r
  have hl := (List.getElem?_eq_some_iff.1 hu).1
  refine ⟨i, o + off, none, b, rfl, h1, ?_⟩
  rw [← h3, List.getElem?_take_of_lt hl, List.getElem?_drop] at hu
  exact hu
theorem PR.sub {p : Value} {row : List Value} (r : PR h p row) {off n : Nat} (hl : off + n ≤ row.length) : PR h (offP p off) ((row.drop off).take n) := by
  obtain ⟨i, o, s, b, rfl, h1, h2, h3⟩ := r
  have hlen : ((row.drop off).take n).length = n := by simp; omega
  refine ⟨i, o + off, none, b, rfl, h1, by omega, ?_⟩
  rw [hlen]
  have : (row.drop off).take n = ((((b.cells.drop o).take row.length).drop off).take n) := by rw [h3]
  rw [this, List.drop_take, List.take_take, Nat.min_eq_left (by omega), List.drop_drop]
theorem op_faN {t : TypeId} {x : Operand} {f off : Nat} {p : Value} {row : List Value} [fa : FAd P t f off] (r : PR h p row) (hx : ρ x = p) (kk : K (offP p off) h) : AOp P ⟨dst, .fieldAddr t x f, ty, pos, aft, g⟩ ρ h K := by
  obtain ⟨i, o, s, b, rfl, _⟩ := r
  exact op_fa hx kk
theorem op_ncN {x : Operand} {p : Value} {row : List Value} (r : PR h p row) (hx : ρ x = p) (kk : K p h) : AOp P ⟨dst, .nilCheck x, ty, pos, aft, g⟩ ρ h K := by
  obtain ⟨i, o, s, b, rfl, _⟩ := r
  exact op_nilCheck hx kk
theorem op_loadF0 {t : TypeId} {x : Operand} {p u : Value} {row : List Value} {off : Nat} {d : TypeDesc} [td : TyD P t d] (r : PR h p row) (hx : ρ x = offP p off) (hu : row[off]? = some u) (ha : aggB d = false) (kk : K u h) : AOp P ⟨dst, .load t x, ty, pos, aft, g⟩ ρ h K :=
  op_loadR (r.field hu) hx ha kk
theorem op_loadN {t : TypeId} {c by_ : Nat} {z : Value} {x : Operand} {p : Value} {row : List Value} {d : TypeDesc} [td : TyD P t d] [ti : TyI P t c by_ z] (r : PR h p row) (hc : row.length = c) (hx : ρ x = p) (ha : aggB d = true) (kk : K (.agg row.toArray) h) : AOp P ⟨dst, .load t x, ty, pos, aft, g⟩ ρ h K := by
  obtain ⟨i, o, s, b, rfl, h1, h2, h3⟩ := r
  subst hc
  exact op_loadA hx ha h1 h2 (by rw [h3]; exact kk)
def subN (c : Nat) (v : Value) (l m : Int) : Value :=
  match v with
  | .slice (some ⟨i, o, s⟩) _ k => .slice (some ⟨i, o + l.toNat * c, s⟩) (m - l).toNat (k - l.toNat)
  | _ => .slice none 0 0
theorem RN.sub {c : Nat} {v : Value} {rows : List (List Value)} {l m : Int} (r : RN c h v rows) (h0 : 0 ≤ l) (h1 : l ≤ m) (h2 : m ≤ rows.length) : RN c h (subN c v l m) ((rows.take m.toNat).drop l.toNat) := by
  refine ⟨fun x hx => r.len x (List.mem_of_mem_take (List.mem_of_mem_drop hx)), ?_⟩
  rcases r.at_ with ⟨rfl, rfl⟩ | ⟨i, o, s, cap, rfl, hs, hb⟩
  · exact .inl ⟨rfl, by simp⟩
  · have hlen : ((rows.take m.toNat).drop l.toNat).length = (m - l).toNat := by simp; omega
    refine .inr ⟨i, o + l.toNat * c, s, cap - l.toNat, by rw [hlen]; rfl, hs, fun hne => ?_⟩
    have hv : rows ≠ [] := by intro e; subst e; simp at hne
    obtain ⟨b, q1, q2, q3⟩ := hb hv
    have hmc : m.toNat * c ≤ rows.length * c := Nat.mul_le_mul_right _ (by omega)
    have hlm : l.toNat * c + (m - l).toNat * c = m.toNat * c := by rw [← Nat.add_mul]; congr 1; omega
    refine ⟨b, q1, by rw [hlen]; omega, ?_⟩
    rw [hlen]
    have e1 : ∀ (L : List (List Value)) (k : Nat), (∀ x ∈ L, x.length = c) → k ≤ L.length → L.flatten.take (k * c) = (L.take k).flatten ∧ L.flatten.drop (k * c) = (L.drop k).flatten := by
      intro L k hL hk
      have hf : (L.take k).flatten.length = k * c := by rw [flat_len (fun x hx => hL x (List.mem_of_mem_take hx)), List.length_take, Nat.min_eq_left hk]
      have e : L.flatten = (L.take k).flatten ++ (L.drop k).flatten := by rw [← List.flatten_append, List.take_append_drop]
      rw [e, List.take_append_of_le_length (by omega), List.take_of_length_le (by omega), List.drop_append_of_le_length (by omega), List.drop_of_length_le (by omega)]
      exact ⟨rfl, rfl⟩
    have f1 := (e1 rows m.toNat r.len (by omega)).1
    have f2 := (e1 (rows.take m.toNat) l.toNat (fun x hx => r.len x (List.mem_of_mem_take hx)) (by rw [List.length_take]; omega)).2
    rw [← f2, ← f1, ← q3, List.take_take, Nat.min_eq_left hmc, List.drop_take, List.drop_drop]
    congr 1
    omega
theorem op_sliceN {c : Nat} {t e : TypeId} {x : Operand} {lo hi : Option Operand} {by_ : Nat} {z v : Value} {l m : Int} {rows : List (List Value)} [td : TyD P t (.slice e)] [ti : TyI P e c by_ z] (r : RN c h v rows) (hx : ρ x = v)
    (hl : bnd ρ lo 0 = some l) (hm : bnd ρ hi rows.length = some m) (h0 : 0 ≤ l) (h1 : l ≤ m) (h2 : m ≤ rows.length) (kk : K (subN c v l m) h) : AOp P ⟨dst, .slice t x lo hi none, ty, pos, aft, g⟩ ρ h K := by
  rcases r.at_ with ⟨rfl, rfl⟩ | ⟨i, o, s, cap, rfl, hs, hb⟩
  · simp only [List.length_nil] at h2 hm
    obtain rfl : l = 0 := by omega
    obtain rfl : m = 0 := by omega
    exact op_sliceNil hx hl hm kk
  · exact op_slice hx hl hm h0 h1 h2 hs kk

/-- What a slice's piece asks of the slice alone. -/
def Shp (c : Nat) (v : Value) (n : Nat) : Prop := (v = .slice none 0 0 ∧ n = 0) ∨ ∃ i o s cap, v = .slice (some ⟨i, o, s⟩) n cap ∧ (s = none ∨ s = some c)
theorem RN.shp {c : Nat} {v : Value} {rows : List (List Value)} (r : RN c h v rows) : Shp c v rows.length :=
  r.at_.imp (fun ⟨h1, h2⟩ => ⟨h1, by rw [h2]; rfl⟩) fun ⟨i, o, s, cap, h1, h2, _⟩ => ⟨i, o, s, cap, h1, h2⟩
theorem op_sliceP {c n : Nat} {t e : TypeId} {x : Operand} {lo hi : Option Operand} {by_ : Nat} {z v : Value} {l m : Int} [td : TyD P t (.slice e)] [ti : TyI P e c by_ z] (r : Shp c v n) (hx : ρ x = v)
    (hl : bnd ρ lo 0 = some l) (hm : bnd ρ hi n = some m) (h0 : 0 ≤ l) (h1 : l ≤ m) (h2 : m ≤ n) (kk : K (subN c v l m) h) : AOp P ⟨dst, .slice t x lo hi none, ty, pos, aft, g⟩ ρ h K := by
  rcases r with ⟨rfl, rfl⟩ | ⟨i, o, s, cap, rfl, hs⟩
  · obtain rfl : l = 0 := by omega
    obtain rfl : m = 0 := by omega
    exact op_sliceNil hx hl hm kk
  · exact op_slice hx hl hm h0 h1 h2 hs kk
theorem Ext.keep {h0 h1 : Heap} {v : Value} (hx : Ext h0 h) (k : Keeps v h h1) (wf : WF h0) (hb : ∀ q, vblk v = some q → h0.next ≤ q) : Ext h0 h1 :=
  ⟨fun q b hq => k.c q b (hx.c q b hq) fun s n c hv => by have := hb q (by rw [hv]; rfl); have := wf.lt hq; omega, fun q b hq => k.o q b (hx.o q b hq)⟩
/-- A slice of the call's own, from block number B on, of elements of c cells: it is just its rows. -/
structure ON (B c : Nat) (h : Heap) (e : TypeId) (v : Value) (rows : List (List Value)) : Prop where
  len : ∀ r ∈ rows, r.length = c
  at_ : (v = .slice none 0 0 ∧ rows = []) ∨ ∃ i cap, B ≤ i ∧ v = .slice (some ⟨i, 0, some c⟩) rows.length cap ∧ h.get i = some ⟨rows.flatten, e, true⟩
section
variable {B c : Nat} {e : TypeId} {v : Value} {rows : List (List Value)} {h' : Heap}
theorem ON.rn (r : ON B c h e v rows) : RN c h v rows := by
  rcases r.at_ with ⟨rfl, rfl⟩ | ⟨i, cap, _, rfl, hi⟩
  · exact RN.nil c h
  · exact RN.own r.len hi rfl
theorem ON.nil (B c : Nat) (h : Heap) (e : TypeId) : ON B c h e (.slice none 0 0) [] := ⟨by simp, .inl ⟨rfl, rfl⟩⟩
theorem ON.ext (r : ON B c h e v rows) (hx : Ext h h') : ON B c h' e v rows :=
  ⟨r.len, r.at_.imp id fun ⟨i, cap, h1, h2, h3⟩ => ⟨i, cap, h1, h2, hx.c _ _ h3⟩⟩
theorem ON.low {B' : Nat} (r : ON B c h e v rows) (hb : B' ≤ B) : ON B' c h e v rows :=
  ⟨r.len, r.at_.imp id fun ⟨i, cap, h1, h2, h3⟩ => ⟨i, cap, by omega, h2, h3⟩⟩
theorem ON.blk (r : ON B c h e v rows) : ∀ i, vblk v = some i → B ≤ i := by
  intro i hi
  rcases r.at_ with ⟨rfl, _⟩ | ⟨i', cap, hi', rfl, _⟩
  · cases hi
  · cases hi; exact hi'
theorem vblk_sub (c : Nat) (v : Value) (l m : Int) (i : Nat) (h : vblk (subN c v l m) = some i) : vblk v = some i := by
  unfold subN at h
  split at h
  · exact h
  · cases h
theorem ON.one (r : ON B c h e v rows) : oneB v = true := by
  rcases r.at_ with ⟨rfl, _⟩ | ⟨i', cap, hi', rfl, _⟩ <;> rfl
theorem RN.one {c : Nat} {v : Value} {rows : List (List Value)} (r : RN c h v rows) : oneB v = true := by
  rcases r.at_ with ⟨rfl, _⟩ | ⟨i', o, s, cap, rfl, _⟩ <;> rfl
theorem Keeps.extN {h0 : Heap} (k : Keeps v h h') (r : ON B c h e v rows) (wf0 : WF h0) (hB : h0.next ≤ B) (hx : Ext h0 h) : Ext h0 h' := by
  refine ⟨fun j b hj => ?_, fun j o hj => k.o j o (hx.o j o hj)⟩
  refine k.c j b (hx.c j b hj) fun s n c' hv => ?_
  have hlt := wf0.lt hj
  rcases r.at_ with ⟨rfl, _⟩ | ⟨i, cap, hi, rfl, _⟩
  · cases hv
  · cases hv; omega
theorem ON.keep {u : Value} {us : List (List Value)} {c' : Nat} {e' : TypeId} (r : ON B c h e v rows) (k : Keeps u h h') (hd : ∀ i, vblk u = some i → vblk v ≠ some i) (_ : ON B c' h e' u us ∨ True) : ON B c h' e v rows :=
  ⟨r.len, r.at_.imp id fun ⟨i, cap, h1, h2, h3⟩ => ⟨i, cap, h1, h2, k.c i _ h3 fun s n q hv => hd i (by rw [hv]; rfl) (by rw [h2]; rfl)⟩⟩
end
/-- append to a slice of the call's own. -/
theorem op_appendN {t t2 e : TypeId} {d2 : TypeDesc} {x y : Operand} {c by_ B m : Nat} {z u v : Value} {rows news : List (List Value)} [td : TyD P t (.slice e)] [t2d : TyD P t2 d2] [ti : TyI P e c by_ z] (hd2 : appB d2 = true) (wf : WF h) (hB : B ≤ h.next)
    (r : ON B c h e u rows) (hx : ρ x = u) (hy : ρ y = v) (hs : Src h c v m news.flatten) (hm : news.length = m) (hl : ∀ r ∈ news, r.length = c) (hone : news.flatten.all oneB = true) (h1 : rows.length + m ≤ maxLen) (h2 : (rows.length + m) * by_ ≤ 140737488355328)
    (kk : ∀ u' h', ON B c h' e u' (rows ++ news) → (∀ j s n k, u' = .slice (some ⟨j, 0, s⟩) n k → h.next ≤ j) → Keeps u h h' → WF h' → h.next ≤ h'.next → K u' h') : AOp P ⟨dst, .call ⟨.builtin .append, #[x, y], #[t, t2]⟩, ty, pos, aft, g⟩ ρ h K := by
  have hlen : ∀ r' ∈ rows ++ news, r'.length = c := fun r' hr => (List.mem_append.1 hr).elim (r.len r') (hl r')
  rcases r.at_ with ⟨rfl, rfl⟩ | ⟨i, cap, hBi, rfl, hi⟩
  · refine op_appendNil (z := z) hd2 hx hy hs (by simpa using h1) (by simpa using h2) (fun hm0 => ?_) (fun hm0 => ?_)
    · have : news = [] := List.eq_nil_of_length_eq_zero (by omega)
      subst this
      exact kk _ _ ⟨hlen, .inl ⟨rfl, rfl⟩⟩ (fun j s n k e => by cases e) ⟨fun j b hj _ => hj, fun j b hj => hj⟩ wf (Nat.le_refl _)
    · exact kk _ _ ⟨hlen, .inr ⟨h.next, m + 1, hB, by simp [hm], by simp [Heap.alloc_new]⟩⟩ (fun j s n k e => by cases e; exact Nat.le_refl _) ⟨fun j b hj _ => (wf.ext _).c j b hj, fun j b hj => hj⟩ (wf.alloc _) (by simp [Heap.alloc])
  · refine op_append (z := z) hd2 hx hy hi rfl rfl (flat_len r.len) hs hone h1 h2 ?_
    refine kk _ _ ⟨hlen, .inr ⟨h.next, rows.length + m + 1, hB, by simp [hm], by rw [Heap.kill_alloc_new, List.flatten_append]⟩⟩ (fun j s n k e => by cases e; exact Nat.le_refl _) ⟨fun j b hj hne => ?_, fun j b hj => hj⟩ ((wf.kill i).alloc _) (by simp [Heap.alloc, Heap.kill])
    have := wf.lt hj
    rw [Heap.kill_alloc_old (by omega) (fun e => hne (some c) rows.length cap (by rw [e]))]
    exact hj
/-- append(nil, s...). -/
theorem op_cloneN {t t2 e : TypeId} {d2 : TypeDesc} {x y : Operand} {c by_ : Nat} {z v : Value} {rows : List (List Value)} [td : TyD P t (.slice e)] [t2d : TyD P t2 d2] [ti : TyI P e c by_ z] (hd2 : appB d2 = true) (wf : WF h)
    (r : RN c h v rows) (hx : ρ x = .slice none 0 0) (hy : ρ y = v) (h1 : rows.length ≤ maxLen) (h2 : rows.length * by_ ≤ 140737488355328)
    (kk : ∀ u' h', ON h.next c h' e u' rows → Ext h h' → WF h' → h.next ≤ h'.next → h'.next ≤ h.next + 1 → K u' h') : AOp P ⟨dst, .call ⟨.builtin .append, #[x, y], #[t, t2]⟩, ty, pos, aft, g⟩ ρ h K := by
  refine op_appendNil (z := z) hd2 hx hy r.src h1 h2 (fun hm0 => ?_) (fun hm0 => ?_)
  · have : rows = [] := List.eq_nil_of_length_eq_zero hm0
    subst this
    exact kk _ _ (ON.nil _ _ _ _) (Ext.refl _) wf (Nat.le_refl _) (by omega)
  · exact kk _ _ ⟨r.len, .inr ⟨h.next, rows.length + 1, Nat.le_refl _, rfl, Heap.alloc_new _ _⟩⟩ (wf.ext _) (wf.alloc _) (by simp [Heap.alloc]) (by simp [Heap.alloc])
/-- l[k] = row, where l is the call's own. -/
theorem op_storeN {t : TypeId} {x y : Operand} {c by_ B : Nat} {z v : Value} {a : Int} {rows : List (List Value)} {row : List Value} {e : TypeId} [ti : TyI P t c by_ z] (r : ON B c h e v rows) (wf : WF h) (hx : ρ x = ptrN c v a) (hy : ρ y = .agg row.toArray) (h1 : row.all oneB = true)
    (hl : row.length = c) (ha : a.toNat < rows.length) (kk : ∀ h', ON B c h' e v (rows.set a.toNat row) → Keeps v h h' → WF h' → h'.next = h.next → K undef h') : AOp P ⟨dst, .store t x y, ty, pos, aft, g⟩ ρ h K := by
  rcases r.at_ with ⟨rfl, rfl⟩ | ⟨i, cap, hBi, rfl, hi⟩
  · simp at ha
  · have hf := flat_len r.len
    have h5 : a.toNat * c + c ≤ rows.length * c := by have := Nat.mul_le_mul_right c (show a.toNat + 1 ≤ rows.length from ha); rw [Nat.add_mul] at this; omega
    have hx' : ρ x = .pointer (some ⟨i, 0 + a.toNat * c, none⟩) := hx
    rw [Nat.zero_add] at hx'
    refine op_storeA (sz := c) hx' hy (by simpa using h1) (by simpa using hl) hi rfl (by show a.toNat * c + c ≤ rows.flatten.length; omega) ?_
    have hsp : splice rows.flatten (a.toNat * c) row = (rows.set a.toNat row).flatten := splice_flat (α := Value) r.len hl ha
    show K undef (h.set i ⟨splice rows.flatten (a.toNat * c) row.toArray.toList, e, true⟩)
    rw [show row.toArray.toList = row from rfl, hsp]
    refine kk _ ⟨fun r' hr => ?_, .inr ⟨i, cap, hBi, by rw [List.length_set], Heap.set_at _ _ _⟩⟩ ⟨fun j b hj hne => ?_, fun j b hj => hj⟩ (wf.set (wf.lt hi) _) rfl
    · rcases List.mem_or_eq_of_mem_set hr with h6 | h6
      · exact r.len r' h6
      · rw [h6]; exact hl
    · rw [Heap.set_other (fun e => hne (some c) rows.length cap (by rw [e]))]
      exact hj
/-- A slice's literal of elements of several cells. -/
theorem op_buildSliceN {t e sz by_ : Nat} {z : Value} {len : Nat} {parts : Array (Nat × Operand)} {out : List Value} [td : TyD P t (.slice e)] [ti : TyI P e sz by_ z] (hl : len * sz ≤ 16777216) (hl0 : 0 < len) (hs0 : 0 < sz) (hu : ∀ p ∈ parts.toList, ρ p.2 ≠ undef)
    (hf : fillA (fun i => some (i * sz, sz)) ((List.range (len * sz)).map fun k => z.cells.toList.getD (k % sz) undef) (parts.toList.map fun p => (p.1, ρ p.2)) = some out) (hlen : out.length = len * sz)
    (kk : K (.slice (some ⟨h.next, 0, some sz⟩) len len) (h.alloc ⟨out, e, true⟩)) : AOp P ⟨dst, .buildSlice t len parts, ty, pos, aft, g⟩ ρ h K :=
  .of_run fun φ ac w r => by
    have hzs : z.cells.size = sz := ti.sz
    have hzp := ti.plain
    have hget : ∀ k, z.cells.toList.getD (k % sz) undef = z.cells[k % z.cells.size]! := by
      intro k
      have hk : k % sz < z.cells.size := by rw [hzs]; exact Nat.mod_lt _ hs0
      rw [hzs, getElem!_pos z.cells (k % sz) hk]
      simp [List.getD_eq_getElem?_getD, hk]
    have hinit : (Array.map (fun x => z.cells[x % z.cells.size]!) (Array.range (len * sz))).toList = (List.range (len * sz)).map fun k => z.cells.toList.getD (k % sz) undef := by
      rw [Array.toList_map, Array.toList_range]
      exact List.map_congr_left fun k _ => (hget k).symm
    obtain ⟨arr', h1, h2⟩ := fill_run (φ := φ) (n := h.next) (fun i => some (i * sz, sz)) ac parts.toList _ out (Array.map (fun x => z.cells[x % z.cells.size]!) (Array.range (len * sz))) (by
      rw [hinit]
      refine VRels.scalars (List.all_eq_true.2 fun v hv => ?_)
      obtain ⟨k, _, rfl⟩ := List.mem_map.1 hv
      have hk : k % sz < z.cells.toList.length := by rw [Array.length_toList, hzs]; exact Nat.mod_lt _ hs0
      rw [List.getD_eq_getElem?_getD, List.getElem?_eq_getElem hk]
      exact List.all_eq_true.1 hzp _ (List.getElem_mem hk)) (fun p hp => r.ev p.2 (by simp [Op.operands]; exact ⟨p.1, by simpa using hp⟩)) hu hf
    have hal : arr'.size = len * sz := by have := h2.length; simp at this; omega
    obtain ⟨s1, s2⟩ := r.sim.alloc out arr' e (0, 0) (.inl rfl) (by omega) h2.toArr
    have he : (parts.map fun (p : Nat × Operand) => (p.1, ac.eval p.2)).toList = parts.toList.map fun p => (p.1, ac.eval p.2) := by simp
    have hn0 : ¬ (len * sz = 0) := by
      have := Nat.mul_pos hl0 hs0
      omega
    have hrun : (Instr.buildSlice t len (parts.map fun (p : Nat × Operand) => (p.1, ac.eval p.2))).run P w = .ok (.slice (some ⟨w.heap.size, 0, none⟩) len len) (w.alloc (.cells arr' e)) := by
      have hb : ¬ (len * sz > 2 ^ 24) := by omega
      simp only [Instr.buildSlice, Sem.run_bind, td.run, Result.andThen_ok, ti.size, if_neg hb, if_neg hn0, ti.zero, Sem.run_pure, he]
      rw [h1]
      simp [newRow]
    refine ⟨_, _, _, _, _, by simp [execOp, hrun]; rfl, kk, ?_, s1, s2⟩
    have h3 : len * 1 ≤ len * sz := Nat.mul_le_mul_left _ hs0
    have h24 : len ≤ maxLen := by simp only [maxLen]; omega
    refine .newSlice (Nat.le_refl _) (Nat.le_refl _) ⟨fun _ => rfl, fun hb => by simp only [maxLen] at h24; omega⟩ h24 ?_
    intro t ht
    cases ht
    omega
/-- A literal of one element. -/
theorem op_rowN1 {t e sz by_ : Nat} {z : Value} {x : Operand} {row : List Value} [td : TyD P t (.slice e)] [ti : TyI P e sz by_ z] (hl : sz ≤ 16777216) (hs0 : 0 < sz) (hx : ρ x = .agg row.toArray) (hr : row.length = sz)
    (kk : K (.slice (some ⟨h.next, 0, some sz⟩) 1 1) (h.alloc ⟨row, e, true⟩)) : AOp P ⟨dst, .buildSlice t 1 #[(0, x)], ty, pos, aft, g⟩ ρ h K := by
  refine op_buildSliceN (out := row) (by omega) (by omega) hs0 (fun p hp => ?_) ?_ (by omega) kk
  · simp only [List.mem_singleton] at hp
    rw [hp, hx]; intro e; cases e
  · show fillA _ _ [(0, ρ x)] = _
    rw [hx]
    have hc : (Value.agg row.toArray).cells = row.toArray := rfl
    simp only [fillA, hc, List.size_toArray, hr, Nat.zero_mul, List.length_map, List.length_range, Nat.one_mul, Nat.zero_add]
    rw [if_neg (by simp)]
    congr 1
    exact splice_all _ _ (by simp [hr])
end
end Go.Eng

/-
  The document's disk, in plain words: files in a row; how the two hang together.
-/
namespace Go.Dsk
open Go Go.Eng

abbrev RF := List UInt8 × List UInt8 × List UInt8
def rowR (f : RF) : List Value := [.string (bstr f.1), .string (bstr f.2.1), .string (bstr f.2.2)]
theorem rowR_len (f : RF) : (rowR f).length = 3 := rfl
theorem rows_len (F : List RF) : ∀ r ∈ F.map rowR, r.length = 3 := by
  intro r hr
  obtain ⟨f, _, rfl⟩ := List.mem_map.1 hr
  rfl
theorem rowR_one (f : RF) : (rowR f).all oneB = true := rfl
def flat (l : FL) : List RF := l.map fun e => (e.1, e.2.1.1, e.2.1.2)
def usedR (F : List RF) : Nat := (F.map fun f => f.2.1.length + f.2.2.length).sum
def seekN (F : List RF) (s : List UInt8) : Option Nat := F.findIdx? fun f => f.1 == s
def eR (F : List RF) (s : List UInt8) : Int := if !goodN s then 2 else if (seekN F s).isSome then 0 else 6
def iR (F : List RF) (s : List UInt8) : Int := if !goodN s then -1 else match seekN F s with
  | some i => (i : Nat)
  | none => -1
/-- The two disks have the same files. -/
abbrev Sm (l : FL) (F : List RF) : Prop := (flat l).Perm F
theorem flat_names (l : FL) : (flat l).map (·.1) = l.map (·.1) := by simp [flat]
theorem flat_append (a b : FL) : flat (a ++ b) = flat a ++ flat b := by simp [flat]
theorem used_flat (l : FL) : used l = usedR (flat l) := by
  unfold used usedR flat
  rw [List.map_map]
  congr 1
  apply List.map_congr_left
  intro e _
  simp [allF]
section
variable {l : FL} {F : List RF} {s : List UInt8}
theorem Sm.names (m : Sm l F) (hn : (l.map (·.1)).Nodup) : (F.map (·.1)).Nodup := by
  rw [← flat_names] at hn
  exact (m.map _).nodup_iff.1 hn
theorem Sm.used (m : Sm l F) : used l = usedR F := by
  rw [used_flat]
  exact (m.map _).sum_nat
theorem Sm.len (m : Sm l F) : l.length = F.length := by
  have := m.length_eq
  simpa [flat] using this
theorem Sm.mem (m : Sm l F) (x : List UInt8) : x ∈ l.map (·.1) ↔ x ∈ F.map (·.1) := by
  rw [← flat_names]
  exact (m.map _).mem_iff
theorem seekN_some (F : List RF) (s : List UInt8) : (seekN F s).isSome = true ↔ s ∈ F.map (·.1) := by
  unfold seekN
  rw [List.findIdx?_isSome, List.any_eq_true]
  simp
theorem Sm.has (m : Sm l F) (s : List UInt8) : hasS l s = (seekN F s).isSome := by
  rw [Bool.eq_iff_iff, has_mem, seekN_some]
  exact m.mem s
theorem seekN_at {i : Nat} (h : seekN F s = some i) : ∃ x, F[i]? = some x ∧ x.1 = s := by
  unfold seekN at h
  obtain ⟨h1, h2, _⟩ := List.findIdx?_eq_some_iff_getElem.1 h
  exact ⟨F[i], List.getElem?_eq_getElem h1, by simpa using h2⟩
theorem perm_nodup_name {R : List RF} {x : RF} (hp : F.Perm (x :: R)) (hn : (F.map (·.1)).Nodup) : x.1 ∉ R.map (·.1) := by
  have := (hp.map (·.1)).nodup_iff.1 hn
  rw [List.map_cons, List.nodup_cons] at this
  exact this.1
theorem flat_del {R : List RF} {x : RF} : ∀ {l : FL}, (l.map (·.1)).Nodup → (flat l).Perm (x :: R) → (flat (delS l x.1)).Perm R := by
  intro l hn hp
  have hx : x ∈ flat l := hp.symm.subset (by simp)
  obtain ⟨e, he, hxe⟩ := List.mem_map.1 hx
  subst hxe
  have key : (flat l).Perm ((e.1, e.2.1.1, e.2.1.2) :: flat (delS l e.1)) := by
    clear hp hx
    induction l with
    | nil => cases he
    | cons a l ih =>
      obtain ⟨k, u, b⟩ := a
      rw [List.map_cons, List.nodup_cons] at hn
      show (flat ((k, u, b) :: l)).Perm (_ :: flat (if k == e.1 then l else (k, u, b) :: delS l e.1))
      by_cases hk : k = e.1
      · have : e = (k, u, b) := by
          rcases List.mem_cons.1 he with h | h
          · exact h
          · exact (hn.1 (List.mem_map.2 ⟨e, h, hk.symm⟩)).elim
        subst this
        simp [flat]
      · rw [if_neg (by simpa using hk)]
        have he' : e ∈ l := by
          rcases List.mem_cons.1 he with h | h
          · rw [h] at hk; exact absurd rfl hk
          · exact h
        have := ih hn.2 he'
        show ((k, u.1, u.2) :: flat l).Perm (_ :: (k, u.1, u.2) :: flat (delS l e.1))
        exact (List.Perm.cons _ this).trans (List.Perm.swap _ _ _)
  exact (hp.symm.trans key).cons_inv.symm
theorem eraseIdx_perm : ∀ {F : List RF} {i : Nat} {x : RF}, F[i]? = some x → F.Perm (x :: F.eraseIdx i)
  | [], i, x, h => by simp at h
  | a :: F, 0, x, h => by simp at h; subst h; simp
  | a :: F, i + 1, x, h => by
    rw [List.getElem?_cons_succ] at h
    rw [List.eraseIdx_cons_succ]
    exact (List.Perm.cons _ (eraseIdx_perm h)).trans (List.Perm.swap _ _ _)
theorem set_perm : ∀ {F : List RF} {i : Nat} {x : RF}, i < F.length → (F.set i x).Perm (x :: F.eraseIdx i)
  | [], i, x, h => by simp at h
  | a :: F, 0, x, h => by simp
  | a :: F, i + 1, x, h => by
    rw [List.set_cons_succ, List.eraseIdx_cons_succ]
    exact (List.Perm.cons _ (set_perm (by simpa using h))).trans (List.Perm.swap _ _ _)
theorem Sm.file (m : Sm l F) (hn : (l.map (·.1)).Nodup) {x : RF} (hx : x ∈ F) : fileOf l x.1 = (x.2.1, x.2.2) ∧ hasS l x.1 = true := by
  have h1 := m.symm.subset hx
  obtain ⟨e, he, rfl⟩ := List.mem_map.1 h1
  have h2 : getS l e.1 = some e.2.1 := mem_get hn (s := e.1) (v := e.2.1) (b := e.2.2) (by simpa using he)
  refine ⟨?_, has_mem.2 (List.mem_map.2 ⟨e, he, rfl⟩)⟩
  unfold fileOf
  rw [h2]
  rfl
/-- A file goes. -/
theorem Sm.del (m : Sm l F) (hn : (l.map (·.1)).Nodup) {i : Nat} {x : RF} (hx : F[i]? = some x) : Sm (delS l x.1) (F.eraseIdx i) := flat_del hn (m.trans (eraseIdx_perm hx))
/-- A file is another one. -/
theorem Sm.put (m : Sm l F) (hn : (l.map (·.1)).Nodup) {i : Nat} {x : RF} (hx : F[i]? = some x) (f : File) (c : Nat) : Sm (putD l x.1 f c) (F.set i (x.1, f.1, f.2)) := by
  have hl := (List.getElem?_eq_some_iff.1 hx).1
  unfold putD
  show (flat _).Perm _
  rw [flat_append]
  refine ((m.del hn hx).append_right _).trans ?_
  exact (List.perm_append_comm).trans (set_perm hl).symm
/-- A file more. -/
theorem Sm.push (m : Sm l F) {s : List UInt8} (hs : hasS l s = false) (f : File) (c : Nat) : Sm (putD l s f c) (F ++ [(s, f.1, f.2)]) := by
  unfold putD
  rw [del_none hs]
  show (flat _).Perm _
  rw [flat_append]
  exact m.append_right _
/-- The last one in the place of one that goes. -/
def dropR (F : List RF) (i : Nat) : List RF := (F.set i ((F[F.length - 1]?).getD ([], [], []))).take (F.length - 1)
theorem dropR_perm {i : Nat} (hi : i < F.length) : (dropR F i).Perm (F.eraseIdx i) := by
  obtain ⟨G, y, rfl⟩ : ∃ G y, F = G ++ [y] := by
    rcases List.eq_nil_or_concat F with h | ⟨G, y, h⟩
    · subst h; simp at hi
    · exact ⟨G, y, by simpa using h⟩
  have hlen : (G ++ [y]).length - 1 = G.length := by simp
  unfold dropR
  rw [hlen]
  simp only [List.getElem?_append_right (Nat.le_refl _), Nat.sub_self, List.getElem?_cons_zero, Option.getD_some]
  by_cases hg : i < G.length
  · rw [List.set_append_left _ _ hg, List.take_append_of_le_length (by simp), List.take_of_length_le (by simp), List.eraseIdx_append_of_lt_length hg]
    refine (set_perm hg).trans ?_
    exact List.perm_append_comm (l₁ := [y])
  · have hgi : i = G.length := by simp at hi; omega
    subst hgi
    rw [List.set_append_right _ _ (Nat.le_refl _), List.eraseIdx_append_of_length_le (Nat.le_refl _)]
    simp
theorem usedR_perm {F G : List RF} (h : F.Perm G) : usedR F = usedR G := (h.map _).sum_nat
theorem usedR_drop {i : Nat} (hi : i < F.length) : usedR (dropR F i) ≤ usedR F := by
  rw [usedR_perm (dropR_perm hi), usedR_perm (eraseIdx_perm (List.getElem?_eq_getElem hi))]
  unfold usedR
  rw [List.map_cons, List.sum_cons]
  omega
theorem dropR_len {i : Nat} : (dropR F i).length = F.length - 1 := by
  unfold dropR
  rw [List.length_take, List.length_set]
  omega
theorem usedR_set {i : Nat} {x y : RF} (hx : F[i]? = some x) : usedR (F.set i y) + (x.2.1.length + x.2.2.length) = usedR F + (y.2.1.length + y.2.2.length) := by
  have hl := (List.getElem?_eq_some_iff.1 hx).1
  rw [usedR_perm (set_perm (x := y) hl), usedR_perm (eraseIdx_perm hx)]
  unfold usedR
  rw [List.map_cons, List.sum_cons, List.map_cons, List.sum_cons]
  omega
theorem usedR_push (F : List RF) (y : RF) : usedR (F ++ [y]) = usedR F + (y.2.1.length + y.2.2.length) := by
  unfold usedR
  rw [List.map_append, List.sum_append]
  simp
def appRE (room : Nat) (F : List RF) (s b : List UInt8) : Int := if eR F s = 2 then 2 else if room < usedR F + b.length ∨ (eR F s = 6 ∧ F.length = 128) then 5 else 0
/-- What becomes of a row of files. -/
def appR (room : Nat) (F : List RF) (s b : List UInt8) : List RF :=
  if eR F s = 2 ∨ room < usedR F + b.length ∨ (eR F s = 6 ∧ F.length = 128) then F else
    match seekN F s with
    | none => F ++ [(s, [], b)]
    | some i => match F[i]? with
      | some x => F.set i (x.1, x.2.1, x.2.2 ++ b)
      | none => F
theorem eR_eq (m : Sm l F) (s : List UInt8) : eR F s = openE l s [] := by
  unfold eR openE
  rw [← m.has s]
  simp
end
end Go.Dsk

/-
  The engine: a region that draws its order, where operations that make memory may come in either order: a tree of orders.
-/
namespace Go.Eng
open Go

/-- What an operation does to the heap: it never looks at it · it looks at what stays (J) · it looks · it lets be what was there · anything. -/
inductive KT where
  | P | S | R | X | W
def ktP : KT → Bool
  | .P => true
  | .S => true
  | _ => false
def ktR : KT → Bool
  | .R => true
  | _ => false
def ktW : KT → Bool
  | .W => true
  | _ => false
def pairT (ops : Array Oper) (A : Array Nat) (p q : Nat × KT) : Bool :=
  !edgeB ops p.1 q.1 && (ancB A q.1 p.1 || ((ktP p.2 || (ktR p.2 && !ktW q.2)) && apartB ops p.1 q.1))
def POp (P : Program) (o : Oper) (ρ : Operand → Value) (h : Heap) (v : Value) : Prop :=
  ∀ h', h.next ≤ h'.next → AOp P o ρ h' fun v' h'' => v' = v ∧ h'' = h'
def SOp (P : Program) (J : Heap → Prop) (o : Oper) (ρ : Operand → Value) (h : Heap) (v : Value) : Prop :=
  ∀ h', h.next ≤ h'.next → J h' → AOp P o ρ h' fun v' h'' => v' = v ∧ h'' = h'
theorem SOp.congr {P : Program} {J : Heap → Prop} {o : Oper} {ρ ρ' : Operand → Value} {h : Heap} {v : Value} (hq : ∀ x, x ∈ o.op.operands → ρ x = ρ' x) (p : SOp P J o ρ h v) : SOp P J o ρ' h v :=
  fun h' hn hj => (p h' hn hj).congr hq
theorem POp.congr {P : Program} {o : Oper} {ρ ρ' : Operand → Value} {h : Heap} {v : Value} (hq : ∀ x, x ∈ o.op.operands → ρ x = ρ' x) (p : POp P o ρ h v) : POp P o ρ' h v :=
  fun h' hn => (p h' hn).congr hq
/-- Orders: one operation, then others; or one of two. -/
inductive OT where
  | nil
  | op (i : Nat) (k : KT) (t : OT)
  | alt (a b : OT)
def OT.nodes : OT → List (Nat × KT)
  | .nil => []
  | .op i k t => (i, k) :: t.nodes
  | .alt a b => a.nodes ++ b.nodes
def OT.ids : OT → List Nat
  | .nil => []
  | .op i _ t => i :: t.ids
  | .alt a _ => a.ids
def OT.heads : OT → List Nat
  | .nil => []
  | .op i _ _ => [i]
  | .alt a b => a.heads ++ b.heads
/-- Operations one behind the other, ahead of a tree. -/
def OT.seq : List (Nat × KT) → OT → OT
  | [], t => t
  | (i, k) :: l, t => .op i k (OT.seq l t)

def TAL (P : Program) (N : Nat) (ops : Array Oper) (J : Heap → Prop) (Q : Exit → Env → Heap → Prop) : OT → Env → Heap → Prop
  | .nil, env, h => ∀ φ a w, a.defers = [] → Rel P N φ env h a.tmps w → Post P N φ h w (Q .normal) a w
  | .op i .P t, env, h => ∃ o, ops[i]? = some o ∧ dstB N o.dst = true ∧ ∃ v, ((gv ops env o = some true ∧ POp P o (ev P env) h v) ∨ (gv ops env o = some false ∧ v = skipV)) ∧ TAL P N ops J Q t (env.put o.dst v) h
  | .op i .S t, env, h => ∃ o, ops[i]? = some o ∧ dstB N o.dst = true ∧ ∃ v, ((gv ops env o = some true ∧ SOp P J o (ev P env) h v) ∨ (gv ops env o = some false ∧ v = skipV)) ∧ TAL P N ops J Q t (env.put o.dst v) h
  | .op i .R t, env, h => ∃ o, ops[i]? = some o ∧ dstB N o.dst = true ∧ ∃ v, ((gv ops env o = some true ∧ ROp P o (ev P env) h v) ∨ (gv ops env o = some false ∧ v = skipV)) ∧ TAL P N ops J Q t (env.put o.dst v) h
  | .op i .X t, env, h => ∃ o, ops[i]? = some o ∧ dstB N o.dst = true ∧
      ((gv ops env o = some true ∧ AOp P o (ev P env) h fun v h' => Ext h h' ∧ TAL P N ops J Q t (env.put o.dst v) h') ∨ (gv ops env o = some false ∧ TAL P N ops J Q t (env.put o.dst skipV) h))
  | .op i .W t, env, h => ∃ o, ops[i]? = some o ∧ dstB N o.dst = true ∧
      ((gv ops env o = some true ∧ AOp P o (ev P env) h fun v h' => J h' ∧ TAL P N ops J Q t (env.put o.dst v) h') ∨ (gv ops env o = some false ∧ TAL P N ops J Q t (env.put o.dst skipV) h))
  | .alt a b, env, h => TAL P N ops J Q a env h ∧ TAL P N ops J Q b env h

section
variable {P : Program} {N : Nat} {ops : Array Oper} {Q : Exit → Env → Heap → Prop} {J : Heap → Prop}
theorem TAL.eqE : ∀ {t : OT} {e e' : Env} {h : Heap}, TAL P N ops J Q t e h → EqE e e' → TAL P N ops J Q t e' h
  | .nil, _, _, _, p, q => fun φ a w hd r => p φ a w hd (r.eqE fun t => (q t).symm)
  | .op i .P t, _, _, _, ⟨o, ho, hd, v, hv, p⟩, q => by
    refine ⟨o, ho, hd, v, ?_, TAL.eqE p (q.put o.dst v)⟩
    rw [← q.gv o]
    exact hv.imp (fun ⟨a, b⟩ => ⟨a, b.congr fun x _ => q.ev x⟩) id
  | .op i .S t, _, _, _, ⟨o, ho, hd, v, hv, p⟩, q => by
    refine ⟨o, ho, hd, v, ?_, TAL.eqE p (q.put o.dst v)⟩
    rw [← q.gv o]
    exact hv.imp (fun ⟨a, b⟩ => ⟨a, b.congr fun x _ => q.ev x⟩) id
  | .op i .R t, _, _, _, ⟨o, ho, hd, v, hv, p⟩, q => by
    refine ⟨o, ho, hd, v, ?_, TAL.eqE p (q.put o.dst v)⟩
    rw [← q.gv o]
    exact hv.imp (fun ⟨a, b⟩ => ⟨a, b.congr fun x _ => q.ev x⟩) id
  | .op i .X t, _, _, _, ⟨o, ho, hd, hv⟩, q => by
    refine ⟨o, ho, hd, ?_⟩
    rw [← q.gv o]
    exact hv.imp (fun ⟨a, b⟩ => ⟨a, (b.congr fun x _ => q.ev x).mono fun v h' _ ⟨k1, k2⟩ => ⟨k1, TAL.eqE k2 (q.put o.dst v)⟩⟩) (fun ⟨a, b⟩ => ⟨a, TAL.eqE b (q.put o.dst skipV)⟩)
  | .op i .W t, _, _, _, ⟨o, ho, hd, hv⟩, q => by
    refine ⟨o, ho, hd, ?_⟩
    rw [← q.gv o]
    exact hv.imp (fun ⟨a, b⟩ => ⟨a, (b.congr fun x _ => q.ev x).mono fun v h' _ ⟨k1, k2⟩ => ⟨k1, TAL.eqE k2 (q.put o.dst v)⟩⟩) (fun ⟨a, b⟩ => ⟨a, TAL.eqE b (q.put o.dst skipV)⟩)
  | .alt _ _, _, _, _, ⟨p1, p2⟩, q => ⟨p1.eqE q, p2.eqE q⟩
theorem TAL.swap {i j : Nat} {k : KT} {oi oj : Oper} {t : OT} {e : Env} {h : Heap} (hi : ops[i]? = some oi) (hj : ops[j]? = some oj) (hap : oj.apart ops oi = true) (hk : ktW k = false)
    (p : TAL P N ops J Q (.op j .R (.op i k t)) e h) : TAL P N ops J Q (.op i k (.op j .R t)) e h := by
  obtain ⟨a1, a2, a3⟩ := Oper.apart_spec hap
  obtain ⟨o, ho, hd, vj, hvj, p⟩ := p
  rw [hj] at ho; cases ho
  have later : ∀ (vi : Value) (h' : Heap), Ext h h' → h.next ≤ h'.next → TAL P N ops J Q t ((e.put oj.dst vj).put oi.dst vi) h' → TAL P N ops J Q (.op j .R t) (e.put oi.dst vi) h' := by
    intro vi h' hx hn pk
    refine ⟨oj, hj, hd, vj, ?_, pk.eqE (EqE.swap e a2 vj vi)⟩
    rw [gv_put a3]
    exact hvj.imp (fun ⟨q1, q2⟩ => ⟨q1, (q2.ext hx hn).congr fun x hx => (ev_put a3 x hx).symm⟩) id
  cases k with
  | P =>
    obtain ⟨o, ho, hdi, vi, hvi, p⟩ := p
    rw [hi] at ho; cases ho
    rw [gv_put a1] at hvi
    exact ⟨oi, hi, hdi, vi, hvi.imp (fun ⟨q1, q2⟩ => ⟨q1, q2.congr (ev_put a1)⟩) id, later vi h (Ext.refl h) (Nat.le_refl _) p⟩
  | S =>
    obtain ⟨o, ho, hdi, vi, hvi, p⟩ := p
    rw [hi] at ho; cases ho
    rw [gv_put a1] at hvi
    exact ⟨oi, hi, hdi, vi, hvi.imp (fun ⟨q1, q2⟩ => ⟨q1, q2.congr (ev_put a1)⟩) id, later vi h (Ext.refl h) (Nat.le_refl _) p⟩
  | R =>
    obtain ⟨o, ho, hdi, vi, hvi, p⟩ := p
    rw [hi] at ho; cases ho
    rw [gv_put a1] at hvi
    exact ⟨oi, hi, hdi, vi, hvi.imp (fun ⟨q1, q2⟩ => ⟨q1, q2.congr (ev_put a1)⟩) id, later vi h (Ext.refl h) (Nat.le_refl _) p⟩
  | X =>
    obtain ⟨o, ho, hdi, hvi⟩ := p
    rw [hi] at ho; cases ho
    rw [gv_put a1] at hvi
    refine ⟨oi, hi, hdi, ?_⟩
    exact hvi.imp (fun ⟨q1, q2⟩ => ⟨q1, (q2.congr (ev_put a1)).mono fun v h' hn ⟨k1, k2⟩ => ⟨k1, later v h' k1 hn k2⟩⟩) (fun ⟨q1, q2⟩ => ⟨q1, later skipV h (Ext.refl h) (Nat.le_refl _) q2⟩)
  | W => cases hk
theorem TAL.swapP {i j : Nat} {k : KT} {oi oj : Oper} {t : OT} {e : Env} {h : Heap} (hi : ops[i]? = some oi) (hj : ops[j]? = some oj) (hap : oj.apart ops oi = true)
    (p : TAL P N ops J Q (.op j .P (.op i k t)) e h) : TAL P N ops J Q (.op i k (.op j .P t)) e h := by
  obtain ⟨a1, a2, a3⟩ := Oper.apart_spec hap
  obtain ⟨o, ho, hd, vj, hvj, p⟩ := p
  rw [hj] at ho; cases ho
  have later : ∀ (vi : Value) (h' : Heap), h.next ≤ h'.next → TAL P N ops J Q t ((e.put oj.dst vj).put oi.dst vi) h' → TAL P N ops J Q (.op j .P t) (e.put oi.dst vi) h' := by
    intro vi h' hn pk
    refine ⟨oj, hj, hd, vj, ?_, pk.eqE (EqE.swap e a2 vj vi)⟩
    rw [gv_put a3]
    exact hvj.imp (fun ⟨q1, q2⟩ => ⟨q1, fun h2 hn2 => (q2 h2 (Nat.le_trans hn hn2)).congr fun x hx => (ev_put a3 x hx).symm⟩) id
  cases k with
  | P =>
    obtain ⟨o, ho, hdi, vi, hvi, p⟩ := p
    rw [hi] at ho; cases ho
    rw [gv_put a1] at hvi
    exact ⟨oi, hi, hdi, vi, hvi.imp (fun ⟨q1, q2⟩ => ⟨q1, q2.congr (ev_put a1)⟩) id, later vi h (Nat.le_refl _) p⟩
  | S =>
    obtain ⟨o, ho, hdi, vi, hvi, p⟩ := p
    rw [hi] at ho; cases ho
    rw [gv_put a1] at hvi
    exact ⟨oi, hi, hdi, vi, hvi.imp (fun ⟨q1, q2⟩ => ⟨q1, q2.congr (ev_put a1)⟩) id, later vi h (Nat.le_refl _) p⟩
  | R =>
    obtain ⟨o, ho, hdi, vi, hvi, p⟩ := p
    rw [hi] at ho; cases ho
    rw [gv_put a1] at hvi
    exact ⟨oi, hi, hdi, vi, hvi.imp (fun ⟨q1, q2⟩ => ⟨q1, q2.congr (ev_put a1)⟩) id, later vi h (Nat.le_refl _) p⟩
  | X =>
    obtain ⟨o, ho, hdi, hvi⟩ := p
    rw [hi] at ho; cases ho
    rw [gv_put a1] at hvi
    refine ⟨oi, hi, hdi, ?_⟩
    exact hvi.imp (fun ⟨q1, q2⟩ => ⟨q1, (q2.congr (ev_put a1)).mono fun v h' hn ⟨k1, k2⟩ => ⟨k1, later v h' hn k2⟩⟩) (fun ⟨q1, q2⟩ => ⟨q1, later skipV h (Nat.le_refl _) q2⟩)
  | W =>
    obtain ⟨o, ho, hdi, hvi⟩ := p
    rw [hi] at ho; cases ho
    rw [gv_put a1] at hvi
    refine ⟨oi, hi, hdi, ?_⟩
    exact hvi.imp (fun ⟨q1, q2⟩ => ⟨q1, (q2.congr (ev_put a1)).mono fun v h' hn ⟨k1, k2⟩ => ⟨k1, later v h' hn k2⟩⟩) (fun ⟨q1, q2⟩ => ⟨q1, later skipV h (Nat.le_refl _) q2⟩)

theorem TAL.swapS {i j : Nat} {k : KT} {oi oj : Oper} {t : OT} {e : Env} {h : Heap} (hi : ops[i]? = some oi) (hj : ops[j]? = some oj) (hap : oj.apart ops oi = true)
    (p : TAL P N ops J Q (.op j .S (.op i k t)) e h) : TAL P N ops J Q (.op i k (.op j .S t)) e h := by
  obtain ⟨a1, a2, a3⟩ := Oper.apart_spec hap
  obtain ⟨o, ho, hd, vj, hvj, p⟩ := p
  rw [hj] at ho; cases ho
  have later : ∀ (vi : Value) (h' : Heap), h.next ≤ h'.next → TAL P N ops J Q t ((e.put oj.dst vj).put oi.dst vi) h' → TAL P N ops J Q (.op j .S t) (e.put oi.dst vi) h' := by
    intro vi h' hn pk
    refine ⟨oj, hj, hd, vj, ?_, pk.eqE (EqE.swap e a2 vj vi)⟩
    rw [gv_put a3]
    exact hvj.imp (fun ⟨q1, q2⟩ => ⟨q1, fun h2 hn2 hj2 => (q2 h2 (Nat.le_trans hn hn2) hj2).congr fun x hx => (ev_put a3 x hx).symm⟩) id
  cases k with
  | P =>
    obtain ⟨o, ho, hdi, vi, hvi, p⟩ := p
    rw [hi] at ho; cases ho
    rw [gv_put a1] at hvi
    exact ⟨oi, hi, hdi, vi, hvi.imp (fun ⟨q1, q2⟩ => ⟨q1, q2.congr (ev_put a1)⟩) id, later vi h (Nat.le_refl _) p⟩
  | S =>
    obtain ⟨o, ho, hdi, vi, hvi, p⟩ := p
    rw [hi] at ho; cases ho
    rw [gv_put a1] at hvi
    exact ⟨oi, hi, hdi, vi, hvi.imp (fun ⟨q1, q2⟩ => ⟨q1, q2.congr (ev_put a1)⟩) id, later vi h (Nat.le_refl _) p⟩
  | R =>
    obtain ⟨o, ho, hdi, vi, hvi, p⟩ := p
    rw [hi] at ho; cases ho
    rw [gv_put a1] at hvi
    exact ⟨oi, hi, hdi, vi, hvi.imp (fun ⟨q1, q2⟩ => ⟨q1, q2.congr (ev_put a1)⟩) id, later vi h (Nat.le_refl _) p⟩
  | X =>
    obtain ⟨o, ho, hdi, hvi⟩ := p
    rw [hi] at ho; cases ho
    rw [gv_put a1] at hvi
    refine ⟨oi, hi, hdi, ?_⟩
    exact hvi.imp (fun ⟨q1, q2⟩ => ⟨q1, (q2.congr (ev_put a1)).mono fun v h' hn ⟨k1, k2⟩ => ⟨k1, later v h' hn k2⟩⟩) (fun ⟨q1, q2⟩ => ⟨q1, later skipV h (Nat.le_refl _) q2⟩)
  | W =>
    obtain ⟨o, ho, hdi, hvi⟩ := p
    rw [hi] at ho; cases ho
    rw [gv_put a1] at hvi
    refine ⟨oi, hi, hdi, ?_⟩
    exact hvi.imp (fun ⟨q1, q2⟩ => ⟨q1, (q2.congr (ev_put a1)).mono fun v h' hn ⟨k1, k2⟩ => ⟨k1, later v h' hn k2⟩⟩) (fun ⟨q1, q2⟩ => ⟨q1, later skipV h (Nat.le_refl _) q2⟩)

mutual
/-- The check of a tree. -/
def okB (ops : Array Oper) (A : Array Nat) : OT → Bool
  | .nil => true
  | .op i k t => !edgeB ops i i && t.nodes.all (fun q => !Nat.beq i q.1 && pairT ops A (i, k) q) && okB ops A t
  | .alt a b => okA ops A a && okA ops A b && a.ids.all (b.ids.contains ·) && b.ids.all (a.ids.contains ·) && Nat.beq a.ids.length b.ids.length &&
      (a.ids.all fun q => (a.heads ++ b.heads).any fun x => Nat.beq q x || ancB A q x)
/-- The check of a branch. -/
def okA (ops : Array Oper) (A : Array Nat) : OT → Bool
  | .nil => false
  | .op i _ t => !edgeB ops i i && t.nodes.all (fun q => !Nat.beq i q.1 && !edgeB ops i q.1) && okB ops A t
  | .alt a b => okA ops A a && okA ops A b && a.ids.all (b.ids.contains ·) && b.ids.all (a.ids.contains ·) && Nat.beq a.ids.length b.ids.length
end
theorem OT.heads_ids {A : Array Nat} : ∀ {t : OT}, okA ops A t = true ∨ okB ops A t = true → ∀ x, x ∈ t.heads → x ∈ t.ids
  | .nil, _, x, hx => by cases hx
  | .op i k t, _, x, hx => by
    simp only [OT.heads, List.mem_singleton] at hx
    simp [OT.ids, hx]
  | .alt a b, ok, x, hx => by
    have ok' : okA ops A a = true ∧ okA ops A b = true ∧ b.ids.all (a.ids.contains ·) = true := by
      rcases ok with ok | ok
      · simp only [okA, Bool.and_eq_true] at ok; exact ⟨ok.1.1.1.1, ok.1.1.1.2, ok.1.2⟩
      · simp only [okB, Bool.and_eq_true] at ok; exact ⟨ok.1.1.1.1.1, ok.1.1.1.1.2, ok.1.1.2⟩
    rcases List.mem_append.1 hx with h | h
    · exact OT.heads_ids (.inl ok'.1) x h
    · have := OT.heads_ids (.inl ok'.2.1) x h
      have q := List.all_eq_true.1 ok'.2.2 x this
      show x ∈ a.ids
      simpa using q
theorem OT.ids_nodes {A : Array Nat} : ∀ {t : OT}, okA ops A t = true ∨ okB ops A t = true → ∀ x, x ∈ t.ids ↔ ∃ k, (x, k) ∈ t.nodes
  | .nil, _, x => by simp [OT.ids, OT.nodes]
  | .op i k t, ok, x => by
    have ok' : okB ops A t = true := by
      rcases ok with ok | ok
      · simp only [okA, Bool.and_eq_true] at ok; exact ok.2
      · simp only [okB, Bool.and_eq_true] at ok; exact ok.2
    have ih := OT.ids_nodes (.inr ok') x
    simp only [OT.ids, OT.nodes, List.mem_cons, ih]
    constructor
    · rintro (rfl | ⟨k', h⟩)
      · exact ⟨k, .inl rfl⟩
      · exact ⟨k', .inr h⟩
    · rintro ⟨k', h | h⟩
      · cases h; exact .inl rfl
      · exact .inr ⟨k', h⟩
  | .alt a b, ok, x => by
    have ok' : okA ops A a = true ∧ okA ops A b = true ∧ b.ids.all (a.ids.contains ·) = true := by
      rcases ok with ok | ok
      · simp only [okA, Bool.and_eq_true] at ok; exact ⟨ok.1.1.1.1, ok.1.1.1.2, ok.1.2⟩
      · simp only [okB, Bool.and_eq_true] at ok; exact ⟨ok.1.1.1.1.1, ok.1.1.1.1.2, ok.1.1.2⟩
    have ia := OT.ids_nodes (.inl ok'.1) x
    have ib := OT.ids_nodes (.inl ok'.2.1) x
    have hba : x ∈ b.ids → x ∈ a.ids := fun h => by simpa using List.all_eq_true.1 ok'.2.2 x h
    simp only [OT.ids, OT.nodes, List.mem_append]
    constructor
    · intro h
      obtain ⟨k, hk⟩ := ia.1 h
      exact ⟨k, .inl hk⟩
    · rintro ⟨k, h | h⟩
      · exact ia.2 ⟨k, h⟩
      · exact hba (ib.2 ⟨k, h⟩)
/-- What is left once an operation has come first. -/
def Left (P : Program) (N : Nat) (ops : Array Oper) (J : Heap → Prop) (A : Array Nat) (Q : Exit → Env → Heap → Prop) (i : Nat) (ids : List Nat) (nodes : List (Nat × KT)) (e : Env) (h : Heap) : Prop :=
  ∃ k t, okB ops A t = true ∧ (∀ j, j ∈ t.ids ↔ j ∈ ids ∧ j ≠ i) ∧ t.ids.length + 1 = ids.length ∧ (i, k) ∈ nodes ∧ (∀ q ∈ t.nodes, q ∈ nodes) ∧ TAL P N ops J Q (.op i k t) e h
theorem OT.head_front {A : Array Nat} {i : Nat} : ∀ {t : OT} {e : Env} {h : Heap}, okA ops A t = true → i ∈ t.heads → TAL P N ops J Q t e h → Left P N ops J A Q i t.ids t.nodes e h
  | .nil, _, _, ok, _, _ => by simp [okA] at ok
  | .op j k t, e, h, ok, hi, p => by
    simp only [okA, Bool.and_eq_true] at ok
    simp only [OT.heads, List.mem_singleton] at hi
    subst hi
    refine ⟨k, t, ok.2, fun j => ?_, by simp [OT.ids], by simp [OT.nodes], fun q hq => by simp [OT.nodes, hq], p⟩
    simp only [OT.ids, List.mem_cons]
    constructor
    · intro hj
      refine ⟨.inr hj, fun he => ?_⟩
      subst he
      obtain ⟨kk, hk⟩ := (OT.ids_nodes (.inr ok.2) j).1 hj
      have := List.all_eq_true.1 ok.1.2 _ hk
      simp at this
    · rintro ⟨h1 | h1, h2⟩
      · exact absurd h1 h2
      · exact h1
  | .alt a b, e, h, ok, hi, ⟨p1, p2⟩ => by
    simp only [okA, Bool.and_eq_true, Nat.beq_eq] at ok
    obtain ⟨⟨⟨⟨o1, o2⟩, o3⟩, o4⟩, o5⟩ := ok
    rcases List.mem_append.1 hi with hi | hi
    · obtain ⟨k, t, h1, h2, h3, h4, h5, h6⟩ := OT.head_front o1 hi p1
      exact ⟨k, t, h1, h2, h3, by simp [OT.nodes, h4], fun q hq => by simp [OT.nodes, h5 q hq], h6⟩
    · obtain ⟨k, t, h1, h2, h3, h4, h5, h6⟩ := OT.head_front o2 hi p2
      refine ⟨k, t, h1, fun j => ?_, by simp only [OT.ids]; omega, by simp [OT.nodes, h4], fun q hq => by simp [OT.nodes, h5 q hq], h6⟩
      rw [h2]
      have q1 : j ∈ b.ids → j ∈ a.ids := fun h => by simpa using List.all_eq_true.1 o4 j h
      have q2 : j ∈ a.ids → j ∈ b.ids := fun h => by simpa using List.all_eq_true.1 o3 j h
      exact ⟨fun ⟨x, y⟩ => ⟨q1 x, y⟩, fun ⟨x, y⟩ => ⟨q2 x, y⟩⟩
theorem okB_op {A : Array Nat} {j : Nat} {kj : KT} {t t' : OT} (ok : okB ops A (.op j kj t) = true) (hs : ∀ q ∈ t'.nodes, q ∈ t.nodes) (ok' : okB ops A t' = true) : okB ops A (.op j kj t') = true := by
  simp only [okB, Bool.and_eq_true] at ok ⊢
  exact ⟨⟨ok.1.1, List.all_eq_true.2 fun q hq => List.all_eq_true.1 ok.1.2 q (hs q hq)⟩, ok'⟩
theorem OT.front {A : Array Nat} {i : Nat} {oi : Oper} (hi : ops[i]? = some oi) : ∀ {t : OT} {e : Env} {h : Heap}, okB ops A t = true → i ∈ t.ids → (∀ j, j ∈ t.ids → ancB A i j = false) → TAL P N ops J Q t e h → Left P N ops J A Q i t.ids t.nodes e h
  | .nil, _, _, _, hm, _, _ => by cases hm
  | .op j kj t, e, h, ok, hm, ha, p => by
    have ok0 := ok
    simp only [okB, Bool.and_eq_true] at ok
    obtain ⟨⟨o1, o2⟩, o3⟩ := ok
    have hne : ∀ x, x ∈ t.ids → x ≠ j := by
      intro x hx he
      subst he
      obtain ⟨kk, hk⟩ := (OT.ids_nodes (.inr o3) x).1 hx
      have := List.all_eq_true.1 o2 _ hk
      simp at this
    by_cases hji : j = i
    · subst hji
      refine ⟨kj, t, o3, fun x => ?_, by simp [OT.ids], by simp [OT.nodes], fun q hq => by simp [OT.nodes, hq], p⟩
      simp only [OT.ids, List.mem_cons]
      constructor
      · intro hx; exact ⟨.inr hx, hne x hx⟩
      · rintro ⟨h1 | h1, h2⟩
        · exact absurd h1 h2
        · exact h1
    · have hit : i ∈ t.ids := by
        simp only [OT.ids, List.mem_cons] at hm
        rcases hm with h1 | h1
        · exact absurd h1.symm hji
        · exact h1
      have hj0 := ha j (by simp [OT.ids])
      have hpair : ∀ k, (i, k) ∈ t.nodes → (kj = .P ∨ kj = .S ∨ (kj = .R ∧ ktW k = false)) ∧ ∃ oj, ops[j]? = some oj ∧ oj.apart ops oi = true := by
        intro k hk
        have h1 := List.all_eq_true.1 o2 _ hk
        simp only [pairT, Bool.and_eq_true, Bool.or_eq_true, Bool.not_eq_eq_eq_not, Bool.not_true, hj0, Bool.false_eq_true, false_or] at h1
        obtain ⟨_, _, u3, u5⟩ := h1
        refine ⟨?_, ?_⟩
        · rcases u3 with u3 | ⟨u3, u4⟩
          · cases kj with
            | P => exact .inl rfl
            | S => exact .inr (.inl rfl)
            | _ => cases u3
          · cases kj with
            | R => exact .inr (.inr ⟨rfl, u4⟩)
            | _ => cases u3
        · unfold apartB at u5
          rw [hi] at u5
          cases hoj : ops[j]? with
          | none => rw [hoj] at u5; cases u5
          | some oj => rw [hoj] at u5; exact ⟨oj, rfl, u5⟩
      obtain ⟨k0, hk0⟩ := (OT.ids_nodes (.inr o3) i).1 hit
      have fin : ∃ k t', okB ops A t' = true ∧ (∀ j, j ∈ t'.ids ↔ j ∈ t.ids ∧ j ≠ i) ∧ t'.ids.length + 1 = t.ids.length ∧ (i, k) ∈ t.nodes ∧ (∀ q ∈ t'.nodes, q ∈ t.nodes) ∧ TAL P N ops J Q (.op i k (.op j kj t')) e h := by
        rcases (hpair k0 hk0).1 with rfl | rfl | ⟨rfl, _⟩
        · obtain ⟨o, ho, hd, v, hv, p⟩ := p
          obtain ⟨k, t', h1, h2, h3, h4, h5, h6⟩ := OT.front hi o3 hit (fun x hx => ha x (by simp [OT.ids, hx])) p
          obtain ⟨_, oj, hoj, hap⟩ := hpair k h4
          exact ⟨k, t', h1, h2, h3, h4, h5, TAL.swapP hi hoj hap ⟨o, ho, hd, v, hv, h6⟩⟩
        · obtain ⟨o, ho, hd, v, hv, p⟩ := p
          obtain ⟨k, t', h1, h2, h3, h4, h5, h6⟩ := OT.front hi o3 hit (fun x hx => ha x (by simp [OT.ids, hx])) p
          obtain ⟨_, oj, hoj, hap⟩ := hpair k h4
          exact ⟨k, t', h1, h2, h3, h4, h5, TAL.swapS hi hoj hap ⟨o, ho, hd, v, hv, h6⟩⟩
        · obtain ⟨o, ho, hd, v, hv, p⟩ := p
          obtain ⟨k, t', h1, h2, h3, h4, h5, h6⟩ := OT.front hi o3 hit (fun x hx => ha x (by simp [OT.ids, hx])) p
          obtain ⟨hkw, oj, hoj, hap⟩ := hpair k h4
          have hkw : ktW k = false := by
            rcases hkw with h | h | h
            · cases h
            · cases h
            · exact h.2
          exact ⟨k, t', h1, h2, h3, h4, h5, TAL.swap hi hoj hap hkw ⟨o, ho, hd, v, hv, h6⟩⟩
      obtain ⟨k, t', h1, h2, h3, h4, h5, h6⟩ := fin
      refine ⟨k, .op j kj t', okB_op ok0 h5 h1, fun x => ?_, by simp only [OT.ids, List.length_cons]; omega, by simp [OT.nodes, h4], fun q hq => ?_, h6⟩
      · simp only [OT.ids, List.mem_cons, h2]
        constructor
        · rintro (rfl | ⟨q1, q2⟩)
          · exact ⟨.inl rfl, hji⟩
          · exact ⟨.inr q1, q2⟩
        · rintro ⟨rfl | q1, q2⟩
          · exact .inl rfl
          · exact .inr ⟨q1, q2⟩
      · simp only [OT.nodes, List.mem_cons] at hq ⊢
        rcases hq with hq | hq
        · exact .inl hq
        · exact .inr (h5 q hq)
  | .alt a b, e, h, ok, hm, ha, ⟨p1, p2⟩ => by
    have ok0 := ok
    simp only [okB, Bool.and_eq_true, Nat.beq_eq] at ok
    obtain ⟨⟨⟨⟨⟨o1, o2⟩, o3⟩, o4⟩, o5⟩, o6⟩ := ok
    have hh : i ∈ a.heads ++ b.heads := by
      obtain ⟨x, hx, hx2⟩ := List.any_eq_true.1 (List.all_eq_true.1 o6 i hm)
      rw [Bool.or_eq_true] at hx2
      rcases hx2 with e1 | e1
      · rw [Nat.eq_of_beq_eq_true e1]; exact hx
      · have := ha x (OT.heads_ids (ops := ops) (A := A) (t := .alt a b) (.inr ok0) x hx)
        rw [this] at e1; cases e1
    rcases List.mem_append.1 hh with hi' | hi'
    · obtain ⟨k, t, h1, h2, h3, h4, h5, h6⟩ := OT.head_front o1 hi' p1
      exact ⟨k, t, h1, h2, h3, by simp [OT.nodes, h4], fun q hq => by simp [OT.nodes, h5 q hq], h6⟩
    · obtain ⟨k, t, h1, h2, h3, h4, h5, h6⟩ := OT.head_front o2 hi' p2
      refine ⟨k, t, h1, fun j => ?_, by simp only [OT.ids]; omega, by simp [OT.nodes, h4], fun q hq => by simp [OT.nodes, h5 q hq], h6⟩
      rw [h2]
      have q1 : j ∈ b.ids → j ∈ a.ids := fun h => by simpa using List.all_eq_true.1 o4 j h
      have q2 : j ∈ a.ids → j ∈ b.ids := fun h => by simpa using List.all_eq_true.1 o3 j h
      exact ⟨fun ⟨x, y⟩ => ⟨q1 x, y⟩, fun ⟨x, y⟩ => ⟨q2 x, y⟩⟩
/-- One that hangs on none that is left. -/
theorem OT.first {A : Array Nat} : ∀ {t : OT}, okA ops A t = true ∨ okB ops A t = true → t.ids ≠ [] → ∃ i, i ∈ t.ids ∧ ∀ j, j ∈ t.ids → edgeB ops i j = false
  | .nil, _, hn => absurd rfl hn
  | .op i k t, ok, _ => by
    refine ⟨i, by simp [OT.ids], fun j hj => ?_⟩
    have ok' : okB ops A t = true := by
      rcases ok with ok | ok
      · simp only [okA, Bool.and_eq_true] at ok; exact ok.2
      · simp only [okB, Bool.and_eq_true] at ok; exact ok.2
    simp only [OT.ids, List.mem_cons] at hj
    rcases hj with rfl | hj
    · rcases ok with ok | ok
      · simp only [okA, Bool.and_eq_true] at ok; simpa using ok.1.1
      · simp only [okB, Bool.and_eq_true] at ok; simpa using ok.1.1
    · obtain ⟨kk, hk⟩ := (OT.ids_nodes (.inr ok') j).1 hj
      rcases ok with ok | ok
      · simp only [okA, Bool.and_eq_true] at ok
        have := List.all_eq_true.1 ok.1.2 _ hk
        simp only [Bool.and_eq_true] at this
        simpa using this.2
      · simp only [okB, Bool.and_eq_true] at ok
        have := List.all_eq_true.1 ok.1.2 _ hk
        simp only [Bool.and_eq_true, pairT] at this
        simpa using this.2.1
  | .alt a b, ok, hn => by
    have ok' : okA ops A a = true := by
      rcases ok with ok | ok
      · simp only [okA, Bool.and_eq_true] at ok; exact ok.1.1.1.1
      · simp only [okB, Bool.and_eq_true] at ok; exact ok.1.1.1.1.1
    exact OT.first (t := a) (.inl ok') hn
def treeB (ops : Array Oper) (t : OT) : Bool :=
  let A := Region.before ops
  Nat.beq t.ids.length ops.size && (List.range ops.size).all (fun i => t.ids.any fun p => Nat.beq p i) && t.ids.all (fun p => Nat.blt p ops.size) && A.all (fun x => Nat.blt x (2 ^ ops.size)) && rangeB ops && okB ops A t && closeB ops A
theorem any_tree (hJ : ∀ h h', J h → Ext h h' → J h') (A : Array Nat) (hr : rangeB ops = true) (hc : closeB ops A = true) (hA : ∀ i j, ancB A i j = true → j < ops.size) : ∀ (n : Nat) (t : OT) (L : Array Bool) (env : Env) (h : Heap) (φ : Ren) (a : Act) (w : World), t.ids.length = n → L.size = ops.size →
    (∀ i, i < ops.size → (L.getD i true = false ↔ i ∈ t.ids)) → (∀ s ∈ t.ids, s < ops.size) → (∀ i j, L.getD i false = true → ancB A i j = true → L.getD j false = true) → okB ops A t = true →
    a.defers = [] → Rel P N φ env h a.tmps w → J h → TAL P N ops J Q t env h → wpAny P .any ops (fun ex a' w' => Post P N φ h w (Q ex) a' w') n L a w := by
  intro n
  induction n with
  | zero =>
    intro t L env h φ a w hn hL hmem _ _ ok hd r _ p
    have hnil : t.ids = [] := List.eq_nil_of_length_eq_zero hn
    have ht : Post P N φ h w (Q .normal) a w := by
      have key : ∀ (t : OT), okA ops A t = true ∨ okB ops A t = true → t.ids = [] → TAL P N ops J Q t env h → Post P N φ h w (Q .normal) a w := by
        intro t
        induction t with
        | nil => intro _ _ p; exact p φ a w hd r
        | op i k t _ => intro _ e _; simp [OT.ids] at e
        | alt x y ihx _ =>
          intro ok e p
          refine ihx (.inl ?_) e p.1
          rcases ok with ok | ok
          · simp only [okA, Bool.and_eq_true] at ok; exact ok.1.1.1.1
          · simp only [okB, Bool.and_eq_true] at ok; exact ok.1.1.1.1.1
      exact key t (.inr ok) hnil p
    refine ⟨?_, ht⟩
    apply List.eq_nil_iff_forall_not_mem.2
    intro i hi
    obtain ⟨h1, o, h2, _⟩ := mem_ready.1 hi
    have hlt : i < ops.size := (Array.getElem?_eq_some_iff.1 h2).1
    have := (hmem i hlt).1 h1
    rw [hnil] at this
    cases this
  | succ n ih =>
    intro t L env h φ a w hn hL hmem hlt hclo ok hd r hj p
    have hin : ∀ j, j < ops.size → ¬ j ∈ t.ids → L.getD j false = true := by
      intro j hj hno
      cases hq : L.getD j true with
      | false => exact absurd ((hmem j hj).1 hq) hno
      | true =>
        have hjl : j < L.size := by omega
        simp only [Array.getD_eq_getD_getElem?, Array.getElem?_eq_getElem hjl, Option.getD_some] at hq ⊢
        exact hq
    have hrange : ∀ (i : Nat) (o : Oper), ops[i]? = some o → ∀ e ∈ o.after, Region.binds .any e = true → e.on < ops.size := by
      intro i o ho e he hb
      have h1 := Array.all_eq_true_iff_forall_mem.1 hr o (Array.mem_of_getElem? ho)
      have h2 := Array.all_eq_true_iff_forall_mem.1 h1 e he
      simp only [hb, Bool.not_true, Bool.false_or] at h2
      simpa [Nat.blt_eq] using h2
    refine ⟨fun hnil => ?_, fun i hi => ?_⟩
    · exfalso
      obtain ⟨i0, hi0, hfree⟩ := OT.first (.inr ok) (by intro e; rw [e] at hn; simp at hn)
      have hi0' := hlt i0 hi0
      have ho0 : ops[i0]? = some ops[i0] := Array.getElem?_eq_getElem hi0'
      have : i0 ∈ Region.ready .any ops L := by
        refine mem_ready.2 ⟨(hmem i0 hi0').2 hi0, ops[i0], ho0, fun e he hb => ?_⟩
        have hedge : edgeB ops i0 e.on = true := (edgeB_iff ho0).2 ⟨e, he, hb, rfl⟩
        refine hin e.on (hrange i0 _ ho0 e he hb) fun hmm => ?_
        rw [hfree e.on hmm] at hedge; cases hedge
      rw [hnil] at this
      cases this
    · obtain ⟨hi1, o, ho, hedges⟩ := mem_ready.1 hi
      have hilt : i < ops.size := (Array.getElem?_eq_some_iff.1 ho).1
      have him := (hmem i hilt).1 hi1
      have hanc : ∀ j, ancB A i j = true → L.getD j false = true := by
        intro j hj
        have hjl := hA i j hj
        have h1 := List.all_eq_true.1 (List.all_eq_true.1 hc i (List.mem_range.2 hilt)) j (List.mem_range.2 hjl)
        simp only [hj, Bool.not_true, Bool.false_or, Bool.or_eq_true, List.any_eq_true, Bool.and_eq_true] at h1
        rcases h1 with h1 | ⟨m, _, h2, h3⟩
        · obtain ⟨e, he, hb, rfl⟩ := (edgeB_iff ho).1 h1
          exact hedges e he hb
        · obtain ⟨e, he, hb, rfl⟩ := (edgeB_iff ho).1 h2
          exact hclo _ j (hedges e he hb) h3
      have hfree : ∀ j, j ∈ t.ids → ancB A i j = false := by
        intro j hj
        cases hq : ancB A i j with
        | false => rfl
        | true =>
          exfalso
          have h1 := hanc j hq
          have hjl := hlt j hj
          have h2 := (hmem j hjl).2 hj
          have hjl' : j < L.size := by omega
          simp only [Array.getD_eq_getD_getElem?, Array.getElem?_eq_getElem hjl', Option.getD_some] at h1 h2
          rw [h1] at h2; cases h2
      obtain ⟨k, t', q1, q2, q3, _, _, pf⟩ := OT.front ho ok him hfree p
      have hL' : (L.setIfInBounds i true).size = ops.size := by simp [hL]
      have hlen' : t'.ids.length = n := by omega
      have hmem' : ∀ j, j < ops.size → ((L.setIfInBounds i true).getD j true = false ↔ j ∈ t'.ids) := by
        intro j hj
        rw [q2]
        by_cases hji : i = j
        · subst hji
          have : (L.setIfInBounds i true).getD i true = true := by
            simp [Array.getD_eq_getD_getElem?]
          rw [this]
          simp
        · rw [getD_set_ne _ hji, hmem j hj]
          exact ⟨fun x => ⟨x, fun e => hji e.symm⟩, fun x => x.1⟩
      have hlt' : ∀ s ∈ t'.ids, s < ops.size := fun s hs => hlt s ((q2 s).1 hs).1
      have hclo' : ∀ x y, (L.setIfInBounds i true).getD x false = true → ancB A x y = true → (L.setIfInBounds i true).getD y false = true := by
        intro x y hx hxy
        refine getD_set_true ?_
        by_cases hxi : i = x
        · subst hxi; exact hanc y hxy
        · rw [getD_set_ne _ hxi] at hx
          exact hclo x y hx hxy
      have go : ∀ (φ' : Ren) (env' : Env) (h' : Heap) (a' : Act) (w' : World), a'.defers = [] → Rel P N φ' env' h' a'.tmps w' → Step φ h w φ' h' w' → J h' → TAL P N ops J Q t' env' h' →
          wpAny P .any ops (fun ex a2 w2 => Post P N φ h w (Q ex) a2 w2) n (L.setIfInBounds i true) a' w' := by
        intro φ' env' h' a' w' hd' r' st hj' p'
        exact wpAny_mono (fun _ _ _ hp => hp.trans st) _ _ _ _ (ih t' _ env' h' φ' a' w' hlen' hL' hmem' hlt' hclo' q1 hd' r' hj' p')
      have run : ∀ (K : Value → Heap → Prop), dstB N o.dst = true → gv ops env o = some true → AOp P o (ev P env) h K → (∀ v h', K v h' → J h' ∧ TAL P N ops J Q t' (env.put o.dst v) h') →
          wpOp P ops (fun ex a2 w2 => Post P N φ h w (Q ex) a2 w2) i (wpAny P .any ops (fun ex a2 w2 => Post P N φ h w (Q ex) a2 w2) n (L.setIfInBounds i true)) a w := by
        intro K hdst hg hop hk
        simp only [wpOp, ho, wanted_of r hg, if_true]
        refine .inl (hop φ a w ⟨r.sim, fun x _ => r.ev x⟩ _ _ fun c w' φ' h' v kv vr s st => ?_)
        exact go φ' _ h' _ w' (by rw [put_defers]; exact hd) ((r.step s st).put o.dst (dstB_lt hdst) vr) st (hk v h' kv).1 (hk v h' kv).2
      have skip : dstB N o.dst = true → gv ops env o = some false → TAL P N ops J Q t' (env.put o.dst skipV) h →
          wpOp P ops (fun ex a2 w2 => Post P N φ h w (Q ex) a2 w2) i (wpAny P .any ops (fun ex a2 w2 => Post P N φ h w (Q ex) a2 w2) n (L.setIfInBounds i true)) a w := by
        intro hdst hg hk
        simp only [wpOp, ho, wanted_of r hg, Bool.false_eq_true, if_false]
        exact go φ _ h _ w (by rw [put_defers]; exact hd) (r.put o.dst (dstB_lt hdst) .skip) (Step.refl _ _ _) hj hk
      cases k with
      | P =>
        obtain ⟨o', ho', hdst, v, hv, pk⟩ := pf
        rw [ho] at ho'; cases ho'
        rcases hv with ⟨g1, g2⟩ | ⟨g1, rfl⟩
        · exact run _ hdst g1 (g2 h (Nat.le_refl _)) fun v' h' ⟨e1, e2⟩ => by subst e1 e2; exact ⟨hj, pk⟩
        · exact skip hdst g1 pk
      | S =>
        obtain ⟨o', ho', hdst, v, hv, pk⟩ := pf
        rw [ho] at ho'; cases ho'
        rcases hv with ⟨g1, g2⟩ | ⟨g1, rfl⟩
        · exact run _ hdst g1 (g2 h (Nat.le_refl _) hj) fun v' h' ⟨e1, e2⟩ => by subst e1 e2; exact ⟨hj, pk⟩
        · exact skip hdst g1 pk
      | R =>
        obtain ⟨o', ho', hdst, v, hv, pk⟩ := pf
        rw [ho] at ho'; cases ho'
        rcases hv with ⟨g1, g2⟩ | ⟨g1, rfl⟩
        · exact run _ hdst g1 (g2 h (Ext.refl h) (Nat.le_refl _)) fun v' h' ⟨e1, e2⟩ => by subst e1 e2; exact ⟨hj, pk⟩
        · exact skip hdst g1 pk
      | X =>
        obtain ⟨o', ho', hdst, hv⟩ := pf
        rw [ho] at ho'; cases ho'
        rcases hv with ⟨g1, g2⟩ | ⟨g1, g2⟩
        · exact run _ hdst g1 g2 fun v' h' ⟨e1, e2⟩ => ⟨hJ _ _ hj e1, e2⟩
        · exact skip hdst g1 g2
      | W =>
        obtain ⟨o', ho', hdst, hv⟩ := pf
        rw [ho] at ho'; cases ho'
        rcases hv with ⟨g1, g2⟩ | ⟨g1, g2⟩
        · exact run _ hdst g1 g2 fun v' h' e2 => e2
        · exact skip hdst g1 g2
/-- A region whose order is drawn, by a tree of orders. -/
theorem AWp.treeJ (J : Heap → Prop) (hJ : ∀ h h', J h → Ext h h' → J h') {id : Nat} {t : OT} {env : Env} {h : Heap} (hm : P.follows .mixedOrders = true) (hb : treeB ops t = true) (hj : J h) (p : TAL P N ops J Q t env h) : AWp P N (.region id ops true) Q env h := by
  intro φ a w hd r
  simp only [treeB, Bool.and_eq_true] at hb
  obtain ⟨⟨⟨⟨⟨⟨b1, b2⟩, b3⟩, b4⟩, b5⟩, b6⟩, b7⟩ := hb
  have b1' : t.ids.length = ops.size := Nat.eq_of_beq_eq_true b1
  refine wp_region_any hm ?_
  have r' : Rel P N φ env h a.tmps w.drew := ⟨r.sim.drew, r.size, r.env⟩
  refine wpAny_mono (fun _ _ _ hp => hp.trans Step.drew) _ _ _ _ (any_tree hJ (Region.before ops) b5 b7 ?_ ops.size t (Array.replicate ops.size false) env h φ a w.drew b1' (by simp) ?_ ?_ ?_ b6 hd r' hj p)
  · intro i j hij
    unfold ancB at hij
    rcases Nat.lt_or_ge j ops.size with hl | hl
    · exact hl
    · exfalso
      have hx : (Region.before ops).getD i 0 < 2 ^ ops.size := by
        rcases Nat.lt_or_ge i (Region.before ops).size with h1 | h1
        · have := Array.all_eq_true_iff_forall_mem.1 b4 ((Region.before ops)[i]) (by simp)
          rw [Array.getD_eq_getD_getElem?, Array.getElem?_eq_getElem h1]
          simpa [Nat.blt_eq] using this
        · rw [Array.getD_eq_getD_getElem?, Array.getElem?_eq_none h1]
          exact Nat.two_pow_pos _
      have := Nat.testBit_lt_two_pow (Nat.lt_of_lt_of_le hx (Nat.pow_le_pow_right (by omega) hl))
      rw [this] at hij
      cases hij
  · intro i hi
    have h1 : (Array.replicate ops.size false).getD i true = false := by
      simp [Array.getD_eq_getD_getElem?, hi]
    rw [h1]
    simp only [true_iff]
    have := List.all_eq_true.1 b2 i (List.mem_range.2 hi)
    obtain ⟨j, h2, h3⟩ := List.any_eq_true.1 this
    have : j = i := Nat.eq_of_beq_eq_true h3
    subst this
    exact h2
  · intro s hs
    simpa [Nat.blt_eq] using List.all_eq_true.1 b3 s hs
  · intro i j hi
    exfalso
    by_cases hl : i < ops.size
    · simp [Array.getD_eq_getD_getElem?, hl] at hi
    · simp [Array.getD_eq_getD_getElem?, hl] at hi

theorem AWp.tree {id : Nat} {t : OT} {env : Env} {h : Heap} (hm : P.follows .mixedOrders = true) (hb : treeB ops t = true) (p : TAL P N ops (fun _ => True) Q t env h) : AWp P N (.region id ops true) Q env h :=
  AWp.treeJ (fun _ => True) (fun _ _ _ _ => trivial) hm hb trivial p

/-! One step. -/
variable {i : Nat} {t : OT} {env : Env} {h : Heap} {d : Tmp} {op : Op} {ty : TypeId} {pos : String} {aft : Array Edge} {g : Option (Nat × Bool)}
theorem TAL.r {v : Value} (ho : ops[i]? = some ⟨some d, op, ty, pos, aft, g⟩) (hd : Nat.blt d N = true) (hg : gv ops env ⟨some d, op, ty, pos, aft, g⟩ = some true) (hv : ∀ h', Ext h h' → h.next ≤ h'.next → AOp P ⟨some d, op, ty, pos, aft, g⟩ (ev P env) h' fun v' h'' => v' = v ∧ h'' = h')
    (k : TAL P N ops J Q t ((d, v) :: env) h) : TAL P N ops J Q (.op i .R t) env h := ⟨_, ho, hd, v, .inl ⟨hg, hv⟩, k⟩
theorem TAL.p {v : Value} (ho : ops[i]? = some ⟨some d, op, ty, pos, aft, g⟩) (hd : Nat.blt d N = true) (hg : gv ops env ⟨some d, op, ty, pos, aft, g⟩ = some true) (hv : ∀ h', h.next ≤ h'.next → AOp P ⟨some d, op, ty, pos, aft, g⟩ (ev P env) h' fun v' h'' => v' = v ∧ h'' = h')
    (k : TAL P N ops J Q t ((d, v) :: env) h) : TAL P N ops J Q (.op i .P t) env h := ⟨_, ho, hd, v, .inl ⟨hg, hv⟩, k⟩
theorem TAL.skip {kd : KT} (ho : ops[i]? = some ⟨some d, op, ty, pos, aft, g⟩) (hd : Nat.blt d N = true) (hg : gv ops env ⟨some d, op, ty, pos, aft, g⟩ = some false)
    (k : TAL P N ops J Q t ((d, skipV) :: env) h) : TAL P N ops J Q (.op i kd t) env h := by
  cases kd
  · exact ⟨_, ho, hd, skipV, .inr ⟨hg, rfl⟩, k⟩
  · exact ⟨_, ho, hd, skipV, .inr ⟨hg, rfl⟩, k⟩
  · exact ⟨_, ho, hd, skipV, .inr ⟨hg, rfl⟩, k⟩
  · exact ⟨_, ho, hd, .inr ⟨hg, k⟩⟩
  · exact ⟨_, ho, hd, .inr ⟨hg, k⟩⟩
theorem TAL.x (ho : ops[i]? = some ⟨some d, op, ty, pos, aft, g⟩) (hd : Nat.blt d N = true) (hg : gv ops env ⟨some d, op, ty, pos, aft, g⟩ = some true) (hv : AOp P ⟨some d, op, ty, pos, aft, g⟩ (ev P env) h fun v h' => Ext h h' ∧ TAL P N ops J Q t ((d, v) :: env) h') :
    TAL P N ops J Q (.op i .X t) env h := ⟨_, ho, hd, .inl ⟨hg, hv⟩⟩
theorem TAL.s {v : Value} (ho : ops[i]? = some ⟨some d, op, ty, pos, aft, g⟩) (hd : Nat.blt d N = true) (hg : gv ops env ⟨some d, op, ty, pos, aft, g⟩ = some true) (hv : ∀ h', h.next ≤ h'.next → J h' → AOp P ⟨some d, op, ty, pos, aft, g⟩ (ev P env) h' fun v' h'' => v' = v ∧ h'' = h')
    (k : TAL P N ops J Q t ((d, v) :: env) h) : TAL P N ops J Q (.op i .S t) env h := ⟨_, ho, hd, v, .inl ⟨hg, hv⟩, k⟩
theorem TAL.wj (ho : ops[i]? = some ⟨some d, op, ty, pos, aft, g⟩) (hd : Nat.blt d N = true) (hg : gv ops env ⟨some d, op, ty, pos, aft, g⟩ = some true) (hv : AOp P ⟨some d, op, ty, pos, aft, g⟩ (ev P env) h fun v h' => J h' ∧ TAL P N ops J Q t ((d, v) :: env) h') :
    TAL P N ops J Q (.op i .W t) env h := ⟨_, ho, hd, .inl ⟨hg, hv⟩⟩
theorem TAL.wj0 (ho : ops[i]? = some ⟨none, op, ty, pos, aft, g⟩) (hg : gv ops env ⟨none, op, ty, pos, aft, g⟩ = some true) (hv : AOp P ⟨none, op, ty, pos, aft, g⟩ (ev P env) h fun _ h' => J h' ∧ TAL P N ops J Q t env h') :
    TAL P N ops J Q (.op i .W t) env h := ⟨_, ho, rfl, .inl ⟨hg, hv⟩⟩
theorem TAL.w (ho : ops[i]? = some ⟨some d, op, ty, pos, aft, g⟩) (hd : Nat.blt d N = true) (hg : gv ops env ⟨some d, op, ty, pos, aft, g⟩ = some true) (hv : AOp P ⟨some d, op, ty, pos, aft, g⟩ (ev P env) h fun v h' => TAL P N ops (fun _ => True) Q t ((d, v) :: env) h') :
    TAL P N ops (fun _ => True) Q (.op i .W t) env h := ⟨_, ho, hd, .inl ⟨hg, hv.mono fun _ _ _ k => ⟨trivial, k⟩⟩⟩
theorem TAL.w0 (ho : ops[i]? = some ⟨none, op, ty, pos, aft, g⟩) (hg : gv ops env ⟨none, op, ty, pos, aft, g⟩ = some true) (hv : AOp P ⟨none, op, ty, pos, aft, g⟩ (ev P env) h fun _ h' => TAL P N ops (fun _ => True) Q t env h') :
    TAL P N ops (fun _ => True) Q (.op i .W t) env h := ⟨_, ho, rfl, .inl ⟨hg, hv.mono fun _ _ _ k => ⟨trivial, k⟩⟩⟩
theorem TAL.two {a b : OT} (k1 : TAL P N ops J Q a env h) (k2 : TAL P N ops J Q b env h) : TAL P N ops J Q (.alt a b) env h := ⟨k1, k2⟩
theorem TAL.heap {h' : Heap} (e : h' = h) (p : TAL P N ops J Q t env h) : TAL P N ops J Q t env h' := e ▸ p
theorem TAL.nil (k : Q .normal env h) : TAL P N ops J Q .nil env h := fun _ _ _ hd r => Post.now k hd r
end
end Go.Eng
