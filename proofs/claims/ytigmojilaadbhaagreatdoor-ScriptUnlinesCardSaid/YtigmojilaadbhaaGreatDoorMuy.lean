/-
  Texts of one claim, merged: 2 parts.
-/
import Derived.Test.YtigmojilaadbhaaGreatDoorMuu
import Derived.Test.YtigmojilaadbhaaGreatDoorMuv
import Derived.Test.YtigmojilaadbhaaGreatDoorMux
import Derived.Test.YtigmojilaadbhaaGreatDoorMut
set_option maxHeartbeats 16000000
/- . -/
namespace Go.Proofs.YtigmojilaadbhaaGreatDoor
open Go Go.Eng Go.Pln Go.Lib
attribute [local irreducible] AWp AL DAL AOp TAL
instance i_runline : FnC Tryz.prog 24 := ⟨Tryz.f24, Tryz.func24, by kernel_rfl, by kernel_rfl⟩
theorem kindI_none {w : Bytes} (h : ∀ j : Int, 1 ≤ j → j ≤ 13 → kword j ≠ w) : kindI w = 0 := by
 unfold kindI
 have : (List.range 13).find? (fun i : Nat => kword ((i : Int) + 1) == w) = none := by
  rw [List.find?_eq_none]
  intro i hi
  have := List.mem_range.1 hi
  simpa using h ((i : Int) + 1) (by omega) (by omega)
 rw [this]
structure UlI (h : Heap) (j4 j6 : Nat) (q : ActV) (a : ActM) (H : Heap) : Prop where
 ext : Ext h H
 wf : WF H
 nx : h.next ≤ H.next
 n4 : h.next ≤ j4
 n6 : h.next ≤ j6
 ne : j4 ≠ j6
 g4 : H.get j4 = some ⟨actC actV0 act0, 40, true⟩
 g6 : H.get j6 = some ⟨actC q a, 40, true⟩
 o : ActO h.next H q a
theorem ActO.ext {B : Nat} {h h' : Heap} {q : ActV} {a : ActM} (o : ActO B h q a) (hx : Ext h h') : ActO B h' q a := o.elem (fun j b hj _ => hx.c j b hj) (fun j b hj _ => hx.c j b hj)
theorem UlI.more {h H H' : Heap} {j4 j6 : Nat} {q : ActV} {a : ActM} (k : UlI h j4 j6 q a H) (hx : Ext H H') (wf : WF H') (hn : H.next ≤ H'.next) : UlI h j4 j6 q a H' := ⟨k.ext.trans hx, wf, Nat.le_trans k.nx hn, k.n4, k.n6, k.ne, hx.c _ _ k.g4, hx.c _ _ k.g6, k.o.ext hx⟩
theorem nea_u8 : (40 : TypeId) ≠ 5 := by decide
theorem qbn : (40 : TypeId) ≠ 9 := by decide
theorem qcR : (40 : TypeId) ≠ 79 := by decide
theorem UlI.set {h H : Heap} {j4 j6 : Nat} {q : ActV} {a : ActM} (k : UlI h j4 j6 q a H) (wf : WF h) (q' : ActV) (a' : ActM) (o : ActO h.next H q' a') : UlI h j4 j6 q' a' (H.set j6 ⟨actC q' a', 40, true⟩) :=
 ⟨wf.ext_set k.ext k.n6 _, k.wf.set (k.wf.lt k.g6) _, k.nx, k.n4, k.n6, k.ne, (Heap.set_other k.ne).trans k.g4, Heap.set_at _ _ _, o.put k.g6 nea_u8 qcR⟩
theorem keeps_elem {B c : Nat} {h h' : Heap} {e : TypeId} {u : Value} {rows : List (List Value)} (k : Keeps u h h') (r : ON B c h e u rows) : ∀ j b, h.get j = some b → b.elem ≠ e → h'.get j = some b := by
 intro j b hj hb
 refine k.c j b hj fun s n c' hu => ?_
 rcases r.at_ with ⟨h1, _⟩ | ⟨i, cap, _, h1, h3⟩
 ·
  rw [h1] at hu; cases hu
 ·
  rw [h1] at hu
  cases hu
  rw [hj] at h3
  cases h3
  exact hb rfl
theorem CmdO.low {B B' : Nat} {h : Heap} {q : CmdV} {c : CmdM} (o : CmdO B h q c) (hb : B' ≤ B) : CmdO B' h q c := ⟨o.hq, OS.low o.hk hb, o.hc⟩
theorem AskO.low {B B' : Nat} {h : Heap} {q : AskV} {c : AskM} (o : AskO B h q c) (hb : B' ≤ B) : AskO B' h q c := ⟨OS.low o.k hb, OS.low o.t hb, OS.low o.v hb, OS.low o.w hb⟩
theorem qgw {f : Nat} {l : List Bytes} (h : f = 0 ∨ l.length < 2) : keepI f l = [] := by
 rcases h with rfl | h
 ·
  rfl
 ·
  match f, l, h with
  | 0, _, _ => rfl
  | f + 1, [], _ => rfl
  | f + 1, [x], _ => rfl
theorem keepI_at {f : Nat} {l : List Bytes} {i : Nat} {x y : Bytes} (hx : l[i]? = some x) (hy : l[i + 1]? = some y) : keepI (f + 1) (l.drop i) = (x, numR y) :: keepI f (l.drop (i + 2)) := by
 rw [qc6 hx, qc6 hy]
 rfl
def ulV (s : Bytes) : ActM × Int := match unlineR s with
 | some a => (a, 0)
 | none => (act0, 4)
theorem qeT : ∀ (s : Bytes), (wordsS s).length ≤ s.length + 1 ∧ ∀ w ∈ wordsS s, w.length ≤ s.length
 | [] => ⟨Nat.le_refl _, fun w hw => by rw [List.mem_singleton.1 hw]; exact Nat.le_refl _⟩
 | c :: s => by
  obtain ⟨h1, h2⟩ := qeT s
  rw [wordsS]
  split
  ·
   refine ⟨by simp only [List.length_cons]; omega, fun w hw => ?_⟩
   rcases List.mem_cons.1 hw with rfl | hw
   ·
    simp
   ·
    have := h2 w hw; simp only [List.length_cons]; omega
  ·
   cases hq : wordsS s with
   | nil => exact absurd hq (qhY s)
   | cons x l =>
    rw [hq] at h1 h2
    refine ⟨by simp only [List.length_cons] at h1 ⊢; omega, fun w hw => ?_⟩
    rcases List.mem_cons.1 hw with rfl | hw
    ·
     have := h2 x List.mem_cons_self; simp only [List.length_cons]; omega
    ·
     have := h2 w (List.mem_cons_of_mem _ hw); simp only [List.length_cons]; omega
theorem runline_c (s : Bytes) (h : Heap) (t : Tabs h) (h8 : 8 ≤ h.next) (hl : s.length ≤ 100000000) : ACalls Tryz.prog 24 [str s] h fun u h' => ∃ q, u = .tuple #[.agg (actC q (ulV s).1).toArray, .int .i64 (ulV s).2] ∧ ActO h.next h' q (ulV s).1 ∧ Ext h h' := by
 refine ACalls.wf fun wf => ?_
 refine ACalls.body Tryz.func24 rfl rfl ?_
 obtain ⟨wl1, wl2⟩ := qeT s
 obtain ⟨w0, wr0, hw0⟩ : ∃ w0 r, wordsS s = w0 :: r := by
  cases hq : wordsS s with
  | nil => exact absurd hq (qhY s)
  | cons x l => exact ⟨x, l, rfl⟩
 repeat (first | refine W.w ?_)
 refine zz rfl (qaw ?_)
 refine AL.heap (h := h.alloc ⟨actC actV0 act0, 40, true⟩) rfl ?_
 obtain ⟨H1, hQ, g4, x4, w4, n4⟩ := aq wf ⟨actC actV0 act0, 40, true⟩
 rw [hQ]
 repeat (first | refine W.w ?_ | refine zz rfl (qai rfl ?_) | refine zz rfl (qad rfl ?_))
 refine zz rfl (qar (evs := [str s]) rfl rfl ((rwords_c s H1 (by omega)).mono ?_))
 intro v H2 gw
 have rA0 : RW H1.next H2 v (wordsS s) := ⟨gw.os, by omega, fun w hw => by have := wl2 w hw; omega⟩
 have x5 := gw.ext
 have w5 := gw.wf
 have n5 := gw.nx
 clear gw
 repeat (first | refine W.w ?_ | refine AL.eff rfl (qaE (vs := actC actV0 act0) rfl rfl rfl rfl rfl ?_) | (refine zz rfl ?_; first | refine qad rfl ?_ | refine qaq (v := v) rfl ?_ | refine qax (out := actC actV0 act0) rfl rfl ?_ | refine qaw ?_))
 have g6 := Heap.alloc_new H2 ⟨actC actV0 act0, 40, true⟩
 have x6 := w5.ext ⟨actC actV0 act0, 40, true⟩
 have w6 := w5.alloc ⟨actC actV0 act0, 40, true⟩
 have kA0 : UlI h h.next H2.next actV0 act0 (H2.alloc ⟨actC actV0 act0, 40, true⟩) := ⟨x4.trans (x5.trans x6), w6, by show h.next ≤ H2.next + 1; omega, Nat.le_refl _, by omega, by omega, x6.c _ _ (x5.c _ _ g4), g6, ActO.nil _ _ _ rfl rfl rfl⟩
 have rA := rA0.ext x6
 clear g6 x6 w6 rA0 x5 w5 g4
 refine AWp.heap (h := H2.alloc ⟨actC actV0 act0, 40, true⟩) rfl ?_
 generalize H2.alloc ⟨actC actV0 act0, 40, true⟩ = H3 at kA0 rA ⊢
 generalize hj6 : H2.next = j6 at kA0 ⊢
 clear hj6 n5
 have hat : (wordsS s)[0]? = some w0 := by rw [hw0]; rfl
 have hul : ulV s = match (if (readI (kindI w0) (wordsS s)).2 = true ∧ mayAct 5 5 (readI (kindI w0) (wordsS s)).1 = true ∧ lineM (readI (kindI w0) (wordsS s)).1 = s then some (readI (kindI w0) (wordsS s)).1 else none) with
  | some a => (a, 0)
  | none => (act0, 4) := by
  unfold ulV unlineR
  simp only [hat, Option.getD_some]
 have hlen1 : 1 ≤ (wordsS s).length := by rw [hw0]; simp
 generalize wordsS s = ws at rA hat hul wl1 wl2 hlen1 ⊢
 generalize H1.next = B at rA ⊢
 obtain ⟨va, vc, hv⟩ := RS.slice rA.os.rs
 have hml : (ws.map str).length = ws.length := List.length_map _
 clear hw0
 refine AWp.loop (α := Nat × Int × Heap) (fun d => [(0, str s), (2, ptr h.next), (4, v), (5, ptr j6), (6, .int .i64 (d.1 : Nat))]) (fun d => d.2.2) (fun d => (1 ≤ d.1 ∧ d.1 ≤ 14) ∧ UlI h h.next j6 actV0 { act0 with kind := d.2.1 } d.2.2 ∧ RW B d.2.2 v ws ∧ ((d.2.1 = 0 ∧ ∀ j : Int, 1 ≤ j → j < (d.1 : Nat) → kword j ≠ w0) ∨ (1 ≤ d.2.1 ∧ d.2.1 < (d.1 : Nat) ∧ kword d.2.1 = w0))) (fun d => 14 - d.1) (1, 0, H3)
  ⟨⟨Nat.le_refl _, Nat.le_of_ble_eq_true rfl⟩, kA0, rA, .inl ⟨rfl, fun j h1 h2 => by simp only at h2; omega⟩⟩ (Weak.same (EW.cons rfl (EW.cons rfl (EW.cons rfl (EW.cons rfl (EW.cons rfl EW.nil)))))) ?_
 rintro ⟨k, z, H⟩ ⟨⟨hk1, hk2⟩, kA, rB, hz⟩
 replace hk1 : 1 ≤ k := hk1
 replace hk2 : k ≤ 14 := hk2
 replace kA : UlI h h.next j6 actV0 { act0 with kind := z } H := kA
 replace rB : RW B H v ws := rB
 replace hz : (z = 0 ∧ ∀ j : Int, 1 ≤ j → j < (k : Nat) → kword j ≠ w0) ∨ (1 ≤ z ∧ z < (k : Nat) ∧ kword z = w0) := hz
 show AWp _ _ _ _ [(0, str s), (2, ptr h.next), (4, v), (5, ptr j6), (6, .int .i64 (k : Nat))] H
 clear rA kA0
 by_cases hlt : k ≤ 13
 ·
  have cn := fun h' => rName_c ((k : Nat) : Int) ⟨by omega, by omega⟩ h'
  have hw2 : (ws.map str)[(0 : Int).toNat]? = some (str w0) := by
   show (ws.map str)[0]? = _
   rw [List.getElem?_map, hat]
   rfl
  by_cases hkw : kword ((k : Nat) : Int) = w0
  ·
   repeat (first | refine W.w ?_ | refine AWp.c8 rfl ?_ | refine zz rfl (qac rfl ?_) | refine zz rfl (qam rfl rfl rfl (by omega) ?_))
   refine AWp.draw (σ := [(0, .R), (1, .R), (2, .R), (3, .R), (4, .R), (5, .R)]) mixed (by kernel_rfl) ?_
   repeat (first | refine DAL.r rfl rfl rfl (fun h' hx hn => qac rfl ⟨rfl, rfl⟩) ?_ | refine DAL.r rfl rfl rfl (fun h' hx hn => qal (v := v) rfl ⟨rfl, rfl⟩) ?_ | refine DAL.r rfl rfl rfl (fun h' hx hn => qab rfl rfl (cn h') ⟨rfl, rfl⟩) ?_ | refine DAL.r rfl rfl rfl (fun h' hx hn => qaA (rB.os.rs.ext hx) rfl rfl (by omega) hw2 fun _ => ⟨rfl, rfl⟩) ?_ | refine DAL.r rfl rfl rfl (fun h' hx hn => qat (PT.of (rB.os.rs.ext hx) hw2) rfl rfl ⟨rfl, rfl⟩) ?_ | refine DAL.r rfl rfl rfl (fun h' hx hn => qaO rfl rfl hkw ⟨rfl, rfl⟩) ?_)
   refine DAL.nil ?_
   repeat (first | refine W.w ?_ | refine AWp.c8 rfl ?_ | refine AL.eff rfl (qau (b := ⟨actC actV0 { act0 with kind := z }, 40, true⟩) rfl rfl rfl kA.g6 rfl (by exact Nat.le_of_ble_eq_true rfl) ?_) | (refine zz rfl ?_; first | refine qac rfl ?_ | refine qad rfl ?_ | refine qao rfl ?_ | refine qas rfl rfl (by omega) ?_))
   refine ⟨(k + 1, (k : Int), H.set j6 ⟨actC actV0 { act0 with kind := (k : Int) }, 40, true⟩), ⟨⟨by show 1 ≤ k + 1; omega, by show k + 1 ≤ 14; omega⟩, kA.set wf _ _ (ActO.nil _ _ _ rfl rfl rfl), rB.put kA.g6 qbn _, .inr ⟨by show (1 : Int) ≤ k; omega, by show (k : Int) < ((k + 1 : Nat) : Int); omega, hkw⟩⟩, by show 14 - (k + 1) < 14 - k; omega, Weak.same (EW.cons rfl (EW.cons rfl (EW.cons rfl (EW.cons rfl (EW.cons rfl EW.nil)))))⟩
  ·
   repeat (first | refine W.w ?_ | refine AWp.c8 rfl ?_ | refine zz rfl (qac rfl ?_) | refine zz rfl (qam rfl rfl rfl (by omega) ?_))
   refine AWp.draw (σ := [(0, .R), (1, .R), (2, .R), (3, .R), (4, .R), (5, .R)]) mixed (by kernel_rfl) ?_
   repeat (first | refine DAL.r rfl rfl rfl (fun h' hx hn => qac rfl ⟨rfl, rfl⟩) ?_ | refine DAL.r rfl rfl rfl (fun h' hx hn => qal (v := v) rfl ⟨rfl, rfl⟩) ?_ | refine DAL.r rfl rfl rfl (fun h' hx hn => qab rfl rfl (cn h') ⟨rfl, rfl⟩) ?_ | refine DAL.r rfl rfl rfl (fun h' hx hn => qaA (rB.os.rs.ext hx) rfl rfl (by omega) hw2 fun _ => ⟨rfl, rfl⟩) ?_ | refine DAL.r rfl rfl rfl (fun h' hx hn => qat (PT.of (rB.os.rs.ext hx) hw2) rfl rfl ⟨rfl, rfl⟩) ?_ | refine DAL.r rfl rfl rfl (fun h' hx hn => qaK rfl rfl hkw ⟨rfl, rfl⟩) ?_)
   refine DAL.nil ?_
   repeat (first | refine W.w ?_ | refine AWp.c9 rfl ?_ | (refine zz rfl ?_; first | refine qac rfl ?_ | refine qad rfl ?_ | refine qas rfl rfl (by omega) ?_))
   refine ⟨(k + 1, z, H), ⟨⟨by show 1 ≤ k + 1; omega, by show k + 1 ≤ 14; omega⟩, kA, rB, ?_⟩, by show 14 - (k + 1) < 14 - k; omega, Weak.same (EW.cons rfl (EW.cons rfl (EW.cons rfl (EW.cons rfl (EW.cons rfl EW.nil)))))⟩
   rcases hz with ⟨h1, h2⟩ | ⟨h1, h2, h3⟩
   ·
    refine .inl ⟨h1, fun j j1 j2 => ?_⟩
    replace j2 : j < ((k + 1 : Nat) : Int) := j2
    by_cases hj : j = (k : Int)
    ·
     subst hj; exact hkw
    ·
     exact h2 j j1 (by omega)
   ·
    exact .inr ⟨h1, by show z < ((k + 1 : Nat) : Int); omega, h3⟩
 ·
  obtain rfl : k = 14 := by omega
  have hkz : kindI w0 = z ∧ 0 ≤ z ∧ z ≤ 13 := by
   rcases hz with ⟨h1, h2⟩ | ⟨h1, h2, h3⟩
   ·
    exact ⟨by rw [h1]; exact kindI_none fun j j1 j2 => h2 j j1 (by omega), by omega, by omega⟩
   ·
    exact ⟨by rw [← h3]; exact qe6 ⟨h1, by omega⟩, by omega, by omega⟩
  rw [hkz.1] at hul
  obtain ⟨_, hz1, hz2⟩ := hkz
  clear hz hat hk1 hk2 hlt
  repeat (first | refine AL.nil ?_ | refine AWp.seq ?_ | refine AWp.r9 ?_ | refine AWp.c9 rfl ?_ | refine AWp.exit ?_ | refine zz rfl (qac rfl ?_) | refine zz rfl (qak rfl rfl rfl (by omega) ?_))
  refine zz rfl (qao rfl ?_)
  refine zz rfl (qaf rfl rfl kA.g6 rfl ?_)
  refine zz rfl (qaX (v := .bool (decide (0 < z))) rfl rfl rfl ?_)
  refine zz rfl (qaa rfl ?_)
  refine AL.nil ?_
  refine AWp.seq ?_
  refine AWp.cutI (α := ActV × ActM × Heap × Bool) (fun d => [(0, str s), (2, ptr h.next), (5, ptr j6), (7, .bool d.2.2.2)]) (fun d => d.2.2.1) (fun d => UlI h h.next j6 d.1 d.2.1 d.2.2.1 ∧ RW B d.2.2.1 v ws ∧ d.2.2.2 = (readI z ws).2 ∧ (d.2.2.2 = true → d.2.1 = (readI z ws).1) ∧ d.2.1.keep.length ≤ 1000) ?_ ?_
  ·
   have cn1 := qdc B v ws 1 1 rfl H rB (t.ext kA.ext)
   have cn2 := qdc B v ws 2 2 rfl H rB (t.ext kA.ext)
   have cn3 := qdc B v ws 3 3 rfl H rB (t.ext kA.ext)
   by_cases k1 : z = 3 ∨ z = 4 ∨ z = 5
   ·
    have hr : readI z ws = ({ act0 with kind := z, n := numI ws 1 }, true) := by unfold readI; simp only; rw [if_pos k1]
    rcases k1 with rfl | rfl | rfl
    ·
     repeat (first | refine W.w ?_ | refine AWp.c8 rfl ?_ | refine AL.eff rfl (qau (b := ⟨actC (actV0) ({ act0 with kind := 3 }), 40, true⟩) rfl rfl rfl kA.g6 rfl (by exact Nat.le_of_ble_eq_true rfl) ?_) | (refine zz rfl ?_; first | refine qaa rfl ?_ | refine qal (v := v) rfl ?_ | refine qab rfl rfl cn1 ?_ | refine qao rfl ?_ | refine qaf rfl rfl kA.g6 rfl ?_ | refine qaX rfl rfl rfl ?_))
     exact ⟨(actV0, { act0 with kind := 3, n := numI ws 1 }, H.set j6 ⟨actC (actV0) ({ act0 with kind := 3, n := numI ws 1 }), 40, true⟩, true), ⟨kA.set wf (actV0) ({ act0 with kind := 3, n := numI ws 1 }) ⟨kA.o.oa, kA.o.oc, kA.o.ok⟩, rB.put kA.g6 qbn _, (by rw [hr]), (fun _ => by rw [hr]), Nat.zero_le _⟩, Weak.same (EW.cons rfl (EW.cons rfl (EW.cons rfl (EW.cons rfl EW.nil))))⟩
    ·
     repeat (first | refine W.w ?_ | refine AWp.c8 rfl ?_ | refine AWp.c9 rfl ?_ | refine AL.eff rfl (qau (b := ⟨actC (actV0) ({ act0 with kind := 4 }), 40, true⟩) rfl rfl rfl kA.g6 rfl (by exact Nat.le_of_ble_eq_true rfl) ?_) | (refine zz rfl ?_; first | refine qaa rfl ?_ | refine qal (v := v) rfl ?_ | refine qab rfl rfl cn1 ?_ | refine qao rfl ?_ | refine qaf rfl rfl kA.g6 rfl ?_ | refine qaX rfl rfl rfl ?_))
     exact ⟨(actV0, { act0 with kind := 4, n := numI ws 1 }, H.set j6 ⟨actC (actV0) ({ act0 with kind := 4, n := numI ws 1 }), 40, true⟩, true), ⟨kA.set wf (actV0) ({ act0 with kind := 4, n := numI ws 1 }) ⟨kA.o.oa, kA.o.oc, kA.o.ok⟩, rB.put kA.g6 qbn _, (by rw [hr]), (fun _ => by rw [hr]), Nat.zero_le _⟩, Weak.same (EW.cons rfl (EW.cons rfl (EW.cons rfl (EW.cons rfl EW.nil))))⟩
    ·
     repeat (first | refine W.w ?_ | refine AWp.c8 rfl ?_ | refine AWp.c9 rfl ?_ | refine AL.eff rfl (qau (b := ⟨actC (actV0) ({ act0 with kind := 5 }), 40, true⟩) rfl rfl rfl kA.g6 rfl (by exact Nat.le_of_ble_eq_true rfl) ?_) | (refine zz rfl ?_; first | refine qaa rfl ?_ | refine qal (v := v) rfl ?_ | refine qab rfl rfl cn1 ?_ | refine qao rfl ?_ | refine qaf rfl rfl kA.g6 rfl ?_ | refine qaX rfl rfl rfl ?_))
     exact ⟨(actV0, { act0 with kind := 5, n := numI ws 1 }, H.set j6 ⟨actC (actV0) ({ act0 with kind := 5, n := numI ws 1 }), 40, true⟩, true), ⟨kA.set wf (actV0) ({ act0 with kind := 5, n := numI ws 1 }) ⟨kA.o.oa, kA.o.oc, kA.o.ok⟩, rB.put kA.g6 qbn _, (by rw [hr]), (fun _ => by rw [hr]), Nat.zero_le _⟩, Weak.same (EW.cons rfl (EW.cons rfl (EW.cons rfl (EW.cons rfl EW.nil))))⟩
   by_cases k2 : z = 9
   ·
    have hr : readI z ws = ({ act0 with kind := z, node := numI ws 1, cmd := (planI ws).1 }, (planI ws).2) := by unfold readI; simp only; rw [if_neg k1, if_pos k2]
    subst k2
    repeat (first | refine W.w ?_ | refine AWp.c8 rfl ?_ | refine AWp.c9 rfl ?_ | refine AL.eff rfl (qau (b := ⟨actC (actV0) ({ act0 with kind := 9 }), 40, true⟩) rfl rfl rfl kA.g6 rfl (by exact Nat.le_of_ble_eq_true rfl) ?_) | (refine zz rfl ?_; first | refine qaa rfl ?_ | refine qal (v := v) rfl ?_ | refine qab rfl rfl cn1 ?_ | refine qao rfl ?_ | refine qaf rfl rfl kA.g6 rfl ?_ | refine qaX rfl rfl rfl ?_))
    refine AL.heap (h := H.set j6 ⟨actC (actV0) ({ act0 with kind := 9, node := numI ws 1 }), 40, true⟩) rfl ?_
    have rC := rB.put kA.g6 qbn ⟨actC (actV0) ({ act0 with kind := 9, node := numI ws 1 }), 40, true⟩
    have kB := kA.set wf (actV0) ({ act0 with kind := 9, node := numI ws 1 }) ⟨kA.o.oa, kA.o.oc, kA.o.ok⟩
    generalize H.set j6 ⟨actC (actV0) ({ act0 with kind := 9, node := numI ws 1 }), 40, true⟩ = H4 at rC kB ⊢
    have cp := rplanI_c B v ws H4 rC (t.ext kB.ext)
    skip
    refine zz rfl (qar (evs := [v]) rfl rfl (cp.wf_post.mono ?_))
    rintro _ H5 ⟨⟨qc, c, rfl, oc, xc, hc⟩, wc, nc⟩
    have kC := kB.more xc wc nc
    have rD := rC.ext xc
    replace oc := oc.low kB.nx
    repeat (first | refine AL.nil ?_ | refine AL.eff rfl (qbd (vs := (cmdC qc c).toArray) rfl rfl (by simpa using qa5 oc.r) rfl kC.g6 rfl (Nat.le_of_ble_eq_true rfl) ?_) | (refine zz rfl ?_; first | refine qaH rfl ?_ | refine qaa rfl ?_ | refine qav rfl rfl ?_ | refine qao rfl ?_))
    exact ⟨({ actV0 with c := qc }, { act0 with kind := 9, node := numI ws 1, cmd := c }, H5.set j6 ⟨actC { actV0 with c := qc } { act0 with kind := 9, node := numI ws 1, cmd := c }, 40, true⟩, (planI ws).2), ⟨kC.set wf { actV0 with c := qc } { act0 with kind := 9, node := numI ws 1, cmd := c } ⟨kC.o.oa, oc, kC.o.ok⟩, rD.put kC.g6 qbn _, (by rw [hr]), (fun e => by rw [hr, ← hc e]), Nat.zero_le _⟩, Weak.same (EW.cons rfl (EW.cons rfl (EW.cons rfl (EW.cons rfl EW.nil))))⟩
   by_cases k3 : z = 10
   ·
    have hr : readI z ws = ({ act0 with kind := z, client := numI ws 1, node := numI ws 2, group := numI ws 3, ask := (askI ws 4).1 }, (askI ws 4).2) := by unfold readI; simp only; rw [if_neg k1, if_neg k2, if_pos k3]
    subst k3
    repeat (first | refine W.w ?_ | refine AWp.c8 rfl ?_ | refine AWp.c9 rfl ?_ | refine AL.eff rfl (qau (b := ⟨actC (actV0) ({ act0 with kind := 10 }), 40, true⟩) rfl rfl rfl kA.g6 rfl (by exact Nat.le_of_ble_eq_true rfl) ?_) | (refine zz rfl ?_; first | refine qaa rfl ?_ | refine qal (v := v) rfl ?_ | refine qab rfl rfl cn1 ?_ | refine qab rfl rfl cn2 ?_ | refine qab rfl rfl cn3 ?_ | refine qao rfl ?_ | refine qaf rfl rfl kA.g6 rfl ?_ | refine qak rfl rfl rfl (by omega) ?_ | refine qaX rfl rfl rfl ?_))
    refine AL.heap (h := H.set j6 ⟨actC (actV0) ({ act0 with kind := 10, client := numI ws 1 }), 40, true⟩) rfl ?_
    have rC := rB.put kA.g6 qbn ⟨actC (actV0) ({ act0 with kind := 10, client := numI ws 1 }), 40, true⟩
    have kB := kA.set wf (actV0) ({ act0 with kind := 10, client := numI ws 1 }) ⟨kA.o.oa, kA.o.oc, kA.o.ok⟩
    generalize H.set j6 ⟨actC (actV0) ({ act0 with kind := 10, client := numI ws 1 }), 40, true⟩ = H4 at rC kB ⊢
    repeat (first | refine zz rfl (qao rfl ?_) | refine AL.eff rfl (qau (b := ⟨actC (actV0) ({ act0 with kind := 10, client := numI ws 1 }), 40, true⟩) rfl rfl rfl kB.g6 rfl (by exact Nat.le_of_ble_eq_true rfl) ?_))
    refine AL.heap (h := H4.set j6 ⟨actC (actV0) ({ act0 with kind := 10, client := numI ws 1, node := numI ws 2 }), 40, true⟩) rfl ?_
    have rD := rC.put kB.g6 qbn ⟨actC (actV0) ({ act0 with kind := 10, client := numI ws 1, node := numI ws 2 }), 40, true⟩
    have kC := kB.set wf (actV0) ({ act0 with kind := 10, client := numI ws 1, node := numI ws 2 }) ⟨kB.o.oa, kB.o.oc, kB.o.ok⟩
    generalize H4.set j6 ⟨actC (actV0) ({ act0 with kind := 10, client := numI ws 1, node := numI ws 2 }), 40, true⟩ = H5 at rD kC ⊢
    repeat (first | refine W.w ?_ | refine zz rfl (qao rfl ?_) | refine AL.eff rfl (qau (b := ⟨actC (actV0) ({ act0 with kind := 10, client := numI ws 1, node := numI ws 2 }), 40, true⟩) rfl rfl rfl kC.g6 rfl (by exact Nat.le_of_ble_eq_true rfl) ?_))
    refine AL.heap (h := H5.set j6 ⟨actC (actV0) ({ act0 with kind := 10, client := numI ws 1, node := numI ws 2, group := numI ws 3 }), 40, true⟩) rfl ?_
    have rE := rD.put kC.g6 qbn ⟨actC (actV0) ({ act0 with kind := 10, client := numI ws 1, node := numI ws 2, group := numI ws 3 }), 40, true⟩
    have kD := kC.set wf (actV0) ({ act0 with kind := 10, client := numI ws 1, node := numI ws 2, group := numI ws 3 }) ⟨kC.o.oa, kC.o.oc, kC.o.ok⟩
    generalize H5.set j6 ⟨actC (actV0) ({ act0 with kind := 10, client := numI ws 1, node := numI ws 2, group := numI ws 3 }), 40, true⟩ = H6 at rE kD ⊢
    have cp := runask_c B v ws 4 (by omega) H6 rE (t.ext kD.ext) (by have := kD.nx; omega)
    repeat (first | refine W.w ?_ | refine AWp.c8 rfl ?_ | (refine zz rfl ?_; first | refine qal (v := v) rfl ?_ | refine qaf rfl rfl kD.g6 rfl ?_ | refine qaX rfl rfl rfl ?_))
    refine zz rfl (qar (evs := [v, .int .i64 4]) rfl rfl (cp.wf_post.mono ?_))
    rintro _ H7 ⟨⟨qc, c, rfl, oc, xc, hc⟩, wc, nc⟩
    have kE := kD.more xc wc nc
    have rF := rE.ext xc
    replace oc := oc.low kD.nx
    repeat (first | refine AL.nil ?_ | refine AL.eff rfl (qbd (vs := (askC qc c).toArray) rfl rfl (by simpa using qaU oc.r) rfl kE.g6 rfl (Nat.le_of_ble_eq_true rfl) ?_) | (refine zz rfl ?_; first | refine qaH rfl ?_ | refine qaa rfl ?_ | refine qav rfl rfl ?_ | refine qao rfl ?_))
    exact ⟨({ actV0 with q := qc }, { act0 with kind := 10, client := numI ws 1, node := numI ws 2, group := numI ws 3, ask := c }, H7.set j6 ⟨actC { actV0 with q := qc } { act0 with kind := 10, client := numI ws 1, node := numI ws 2, group := numI ws 3, ask := c }, 40, true⟩, (askI ws 4).2), ⟨kE.set wf { actV0 with q := qc } { act0 with kind := 10, client := numI ws 1, node := numI ws 2, group := numI ws 3, ask := c } ⟨oc, kE.o.oc, kE.o.ok⟩, rF.put kE.g6 qbn _, (by rw [hr]), (fun e => by rw [hr, ← hc e]), Nat.zero_le _⟩, Weak.same (EW.cons rfl (EW.cons rfl (EW.cons rfl (EW.cons rfl EW.nil))))⟩
   by_cases k4 : z = 11
   ·
    have hr : readI z ws = ({ act0 with kind := z, client := numI ws 1, node := numI ws 2, group := numI ws 3 }, true) := by unfold readI; simp only; rw [if_neg k1, if_neg k2, if_neg k3, if_pos k4]
    subst k4
    repeat (first | refine W.w ?_ | refine AWp.c8 rfl ?_ | refine AWp.c9 rfl ?_ | refine AL.eff rfl (qau (b := ⟨actC (actV0) ({ act0 with kind := 11 }), 40, true⟩) rfl rfl rfl kA.g6 rfl (by exact Nat.le_of_ble_eq_true rfl) ?_) | (refine zz rfl ?_; first | refine qaa rfl ?_ | refine qal (v := v) rfl ?_ | refine qab rfl rfl cn1 ?_ | refine qab rfl rfl cn2 ?_ | refine qab rfl rfl cn3 ?_ | refine qao rfl ?_ | refine qaf rfl rfl kA.g6 rfl ?_ | refine qak rfl rfl rfl (by omega) ?_ | refine qaX rfl rfl rfl ?_))
    refine AL.heap (h := H.set j6 ⟨actC (actV0) ({ act0 with kind := 11, client := numI ws 1 }), 40, true⟩) rfl ?_
    have rC := rB.put kA.g6 qbn ⟨actC (actV0) ({ act0 with kind := 11, client := numI ws 1 }), 40, true⟩
    have kB := kA.set wf (actV0) ({ act0 with kind := 11, client := numI ws 1 }) ⟨kA.o.oa, kA.o.oc, kA.o.ok⟩
    generalize H.set j6 ⟨actC (actV0) ({ act0 with kind := 11, client := numI ws 1 }), 40, true⟩ = H4 at rC kB ⊢
    repeat (first | refine zz rfl (qao rfl ?_) | refine AL.eff rfl (qau (b := ⟨actC (actV0) ({ act0 with kind := 11, client := numI ws 1 }), 40, true⟩) rfl rfl rfl kB.g6 rfl (by exact Nat.le_of_ble_eq_true rfl) ?_))
    refine AL.heap (h := H4.set j6 ⟨actC (actV0) ({ act0 with kind := 11, client := numI ws 1, node := numI ws 2 }), 40, true⟩) rfl ?_
    have rD := rC.put kB.g6 qbn ⟨actC (actV0) ({ act0 with kind := 11, client := numI ws 1, node := numI ws 2 }), 40, true⟩
    have kC := kB.set wf (actV0) ({ act0 with kind := 11, client := numI ws 1, node := numI ws 2 }) ⟨kB.o.oa, kB.o.oc, kB.o.ok⟩
    generalize H4.set j6 ⟨actC (actV0) ({ act0 with kind := 11, client := numI ws 1, node := numI ws 2 }), 40, true⟩ = H5 at rD kC ⊢
    repeat (first | refine W.w ?_ | refine zz rfl (qao rfl ?_) | refine AL.eff rfl (qau (b := ⟨actC (actV0) ({ act0 with kind := 11, client := numI ws 1, node := numI ws 2 }), 40, true⟩) rfl rfl rfl kC.g6 rfl (by exact Nat.le_of_ble_eq_true rfl) ?_))
    refine AL.heap (h := H5.set j6 ⟨actC (actV0) ({ act0 with kind := 11, client := numI ws 1, node := numI ws 2, group := numI ws 3 }), 40, true⟩) rfl ?_
    have rE := rD.put kC.g6 qbn ⟨actC (actV0) ({ act0 with kind := 11, client := numI ws 1, node := numI ws 2, group := numI ws 3 }), 40, true⟩
    have kD := kC.set wf (actV0) ({ act0 with kind := 11, client := numI ws 1, node := numI ws 2, group := numI ws 3 }) ⟨kC.o.oa, kC.o.oc, kC.o.ok⟩
    generalize H5.set j6 ⟨actC (actV0) ({ act0 with kind := 11, client := numI ws 1, node := numI ws 2, group := numI ws 3 }), 40, true⟩ = H6 at rE kD ⊢
    repeat (first | refine W.w ?_ | refine AWp.c9 rfl ?_ | refine zz rfl (qaf rfl rfl kD.g6 rfl ?_) | refine zz rfl (qak rfl rfl rfl (by omega) ?_))
    skip
    exact ⟨(actV0, { act0 with kind := 11, client := numI ws 1, node := numI ws 2, group := numI ws 3 }, H6, true), ⟨kD, rE, (by rw [hr]), (fun _ => by rw [hr]), Nat.zero_le _⟩, Weak.same (EW.cons rfl (EW.cons rfl (EW.cons rfl (EW.cons rfl EW.nil))))⟩
   by_cases k5 : z = 12
   ·
    have hr : readI z ws = ({ act0 with kind := z, node := numI ws 1, keep := keepI 129 (ws.drop 2) }, true) := by unfold readI; simp only; rw [if_neg k1, if_neg k2, if_neg k3, if_neg k4, if_pos k5]
    subst k5
    repeat (first | refine W.w ?_ | refine AWp.c8 rfl ?_ | refine AWp.c9 rfl ?_ | refine AL.eff rfl (qau (b := ⟨actC (actV0) ({ act0 with kind := 12 }), 40, true⟩) rfl rfl rfl kA.g6 rfl (by exact Nat.le_of_ble_eq_true rfl) ?_) | (refine zz rfl ?_; first | refine qad rfl ?_ | refine qaa rfl ?_ | refine qal (v := v) rfl ?_ | refine qab rfl rfl cn1 ?_ | refine qao rfl ?_ | refine qaf rfl rfl kA.g6 rfl ?_ | refine qak rfl rfl rfl (by omega) ?_ | refine qaX rfl rfl rfl ?_))
    refine AWp.heap (h := H.set j6 ⟨actC (actV0) ({ act0 with kind := 12, node := numI ws 1 }), 40, true⟩) rfl ?_
    have rC := rB.put kA.g6 qbn ⟨actC (actV0) ({ act0 with kind := 12, node := numI ws 1 }), 40, true⟩
    have kB := kA.set wf (actV0) ({ act0 with kind := 12, node := numI ws 1 }) ⟨kA.o.oa, kA.o.oc, kA.o.ok⟩
    generalize H.set j6 ⟨actC (actV0) ({ act0 with kind := 12, node := numI ws 1 }), 40, true⟩ = H4 at rC kB ⊢
    refine AWp.loop (α := List (Bytes × Int) × Heap × Value) (fun d => [(0, str s), (2, ptr h.next), (4, v), (5, ptr j6), (7, .bool true), (8, .int .i64 ((2 + 2 * d.1.length : Nat) : Int))]) (fun d => d.2.1) (fun d => UlI h h.next j6 { actV0 with k := d.2.2 } { act0 with kind := 12, node := numI ws 1, keep := d.1 } d.2.1 ∧ RW B d.2.1 v ws ∧ keepI 129 (ws.drop 2) = d.1 ++ keepI (129 - d.1.length) (ws.drop (2 + 2 * d.1.length)) ∧ d.1.length ≤ 129) (fun d => 200 - d.1.length) ([], H4, .slice none 0 0)
     ⟨kB, rC, rfl, Nat.zero_le _⟩ (Weak.same (EW.cons rfl (EW.cons rfl (EW.cons rfl (EW.cons rfl (EW.cons rfl (EW.cons rfl EW.nil))))))) ?_
    rintro ⟨acc, G, u⟩ ⟨kK, rK, hke, hkl⟩
    replace kK : UlI h h.next j6 { actV0 with k := u } { act0 with kind := 12, node := numI ws 1, keep := acc } G := kK
    replace rK : RW B G v ws := rK
    replace hke : keepI 129 (ws.drop 2) = acc ++ keepI (129 - acc.length) (ws.drop (2 + 2 * acc.length)) := hke
    replace hkl : acc.length ≤ 129 := hkl
    show AWp _ _ _ _ [(0, str s), (2, ptr h.next), (4, v), (5, ptr j6), (7, .bool true), (8, .int .i64 ((2 + 2 * acc.length : Nat) : Int))] G
    have rn : RN 2 G u (acc.map keptR) := kK.o.ok.rn
    have hml2 : (acc.map keptR).length = acc.length := List.length_map _
    have hwl := rK.len
    have fin : ∀ e, e = [] → keepI (129 - acc.length) (ws.drop (2 + 2 * acc.length)) = e → ({ act0 with kind := 12, node := numI ws 1, keep := acc } : ActM) = (readI 12 ws).1 := fun e e1 e2 => by rw [hr, hke, e2, e1, List.append_nil]
    by_cases q1 : 2 + 2 * acc.length + 1 < ws.length
    ·
     by_cases q2 : acc.length ≤ 128
     ·
      obtain ⟨x, hx⟩ : ∃ x, ws[2 + 2 * acc.length]? = some x := ⟨_, List.getElem?_eq_getElem (by omega)⟩
      obtain ⟨y, hy⟩ : ∃ y, ws[2 + 2 * acc.length + 1]? = some y := ⟨_, List.getElem?_eq_getElem q1⟩
      have hx2 : (ws.map str)[((2 + 2 * acc.length : Nat) : Int).toNat]? = some (str x) := rK.at hx
      have hny : numI ws (2 + 2 * acc.length + 1) = numR y := by unfold numI; rw [hy]
      have cn := fun (h' : Heap) (hx : Ext G h') => qdc B v ws (2 + 2 * acc.length + 1) (((2 + 2 * acc.length : Nat) : Int) + 1) (by omega) h' (rK.ext hx) (t.ext (kK.ext.trans hx))
      rw [hny] at cn
      repeat (first | refine W.w ?_ | refine AWp.c8 rfl ?_ | (refine zz rfl ?_; first | refine qac rfl ?_ | refine qae rfl ?_ | refine qal (v := v) rfl ?_ | refine qaS rK.os.rs rfl ?_ | refine qao rfl ?_ | refine qaf (v := u) rfl rfl kK.g6 rfl ?_ | refine qaB rn rfl ?_ | refine qam rfl rfl rfl (by omega) ?_ | refine qah (v := .bool _) rfl rfl ?_ | refine qas rfl rfl (by omega) ?_))
      refine AWp.tree (t := OT.seq [(0, .R), (1, .R), (2, .R), (3, .R), (4, .R), (5, .R), (6, .R), (7, .R), (8, .R), (9, .R), (10, .R), (11, .X), (12, .W), (13, .R), (14, .W)] .nil) mixed (by kernel_rfl) ?_
      repeat (first | refine TAL.r rfl rfl rfl (fun h' hx hn => qac rfl ⟨rfl, rfl⟩) ?_ | refine TAL.r rfl rfl rfl (fun h' hx hn => qao rfl ⟨rfl, rfl⟩) ?_ | refine TAL.r rfl rfl rfl (fun h' hx hn => qaf (v := u) rfl rfl (hx.c _ _ kK.g6) rfl ⟨rfl, rfl⟩) ?_ | refine TAL.r rfl rfl rfl (fun h' hx hn => qal (v := v) rfl ⟨rfl, rfl⟩) ?_ | refine TAL.r rfl rfl rfl (fun h' hx hn => qaA (rK.os.rs.ext hx) rfl rfl (by omega) hx2 fun _ => ⟨rfl, rfl⟩) ?_ | refine TAL.r rfl rfl rfl (fun h' hx hn => qat (PT.of (rK.os.rs.ext hx) hx2) rfl rfl ⟨rfl, rfl⟩) ?_ | refine TAL.r rfl rfl rfl (fun h' hx hn => qab rfl rfl (cn h' hx) ⟨rfl, rfl⟩) ?_ | refine TAL.r rfl rfl rfl (fun h' hx hn => qax (out := keptR (x, numR y)) rfl rfl ⟨rfl, rfl⟩) ?_ | refine TAL.r rfl rfl rfl (fun h' hx hn => qas rfl rfl (by omega) ⟨rfl, rfl⟩) ?_)
      refine TAL.x rfl rfl rfl (qe7 (sz := 2) (row := keptR (x, numR y)) (by decide) (by decide) rfl rfl ⟨kK.wf.ext _, ?_⟩)
      obtain ⟨G3, hQ, gr, xr, wr, nr⟩ := aq kK.wf ⟨keptR (x, numR y), 79, true⟩
      rw [hQ]
      have kR := kK.more xr wr (by omega)
      have rR := rK.ext xr
      have rn1 : RN 2 G3 (.slice (some ⟨G.next, 0, some 2⟩) 1 1) [keptR (x, numR y)] := RN.row1 rfl gr
      have o3 : ON h.next 2 G3 79 u (acc.map keptR) := kR.o.ok
      have n3 := kR.nx
      refine TAL.w rfl rfl rfl (qdh (m := 1) (by_ := 24) (z := .agg #[.string ⟨#[]⟩, .int .i64 0]) (B := h.next) (e := 79) (news := [keptR (x, numR y)]) rfl wr n3 o3 rfl rfl rn1.src rfl (by intro w hw; rw [List.mem_singleton.1 hw]; rfl) rfl (by rw [hml2]; simp only [maxLen]; omega) (by rw [hml2]; omega) ?_)
      intro u' G4 o4 _ k4 wf4 n4
      have ke := keeps_elem k4 o3
      have g4' := ke _ _ kR.g4 qcR
      have g6' := ke _ _ kR.g6 qcR
      have hx4 := k4.extN o3 wf (Nat.le_refl _) kR.ext
      have o4' : ON h.next 2 G4 79 u' ((acc ++ [(x, numR y)]).map keptR) := by rw [List.map_append]; exact o4
      have oa' : ActO h.next G4 { actV0 with k := u' } { act0 with kind := 12, node := numI ws 1, keep := acc ++ [(x, numR y)] } := ⟨AskO.nil _ _, CmdO.nil _ _, o4'⟩
      have rS : RW B G4 v ws := ⟨OS.elem rR.os fun j b hj hb => ke j b hj (by rw [hb]; decide), rR.len, rR.all⟩
      repeat (first | refine TAL.r rfl rfl rfl (fun h' hx hn => qao rfl ⟨rfl, rfl⟩) ?_)
      refine TAL.w0 rfl rfl (qau (b := ⟨actC { actV0 with k := u } { act0 with kind := 12, node := numI ws 1, keep := acc }, 40, true⟩) rfl rfl o4.one g6' rfl (by exact Nat.le_of_ble_eq_true rfl) ?_)
      refine TAL.nil ?_
      repeat (first | refine W.w ?_ | (refine zz rfl ?_; first | refine qac rfl ?_ | refine qad rfl ?_ | refine qas rfl rfl (by omega) ?_))
      refine ⟨(acc ++ [(x, numR y)], G4.set j6 ⟨actC { actV0 with k := u' } { act0 with kind := 12, node := numI ws 1, keep := acc ++ [(x, numR y)] }, 40, true⟩, u'), ⟨⟨wf.ext_set hx4 kK.n6 _, wf4.set (wf4.lt g6') _, by show h.next ≤ G4.next; omega, kK.n4, kK.n6, kK.ne, (Heap.set_other kK.ne).trans g4', Heap.set_at _ _ _, oa'.put g6' nea_u8 qcR⟩, rS.put g6' qbn _, ?_, ?_⟩, ?_, Weak.same (EW.cons rfl (EW.cons rfl (EW.cons rfl (EW.cons rfl (EW.cons rfl (EW.cons (congrArg (Value.int .i64) ?_) EW.nil))))))⟩
      ·
       show keepI 129 (ws.drop 2) = (acc ++ [(x, numR y)]) ++ keepI (129 - (acc ++ [(x, numR y)]).length) (ws.drop (2 + 2 * (acc ++ [(x, numR y)]).length))
       rw [hke, List.length_append, show 129 - acc.length = (129 - (acc.length + [(x, numR y)].length)) + 1 by simp only [List.length_cons, List.length_nil]; omega, keepI_at hx hy, show 2 + 2 * (acc.length + [(x, numR y)].length) = 2 + 2 * acc.length + 2 by simp only [List.length_cons, List.length_nil]; omega]
       simp
      ·
       show (acc ++ [(x, numR y)]).length ≤ 129
       rw [List.length_append, List.length_cons, List.length_nil]; omega
      ·
       show 200 - (acc ++ [(x, numR y)]).length < 200 - acc.length
       rw [List.length_append, List.length_cons, List.length_nil]; omega
      ·
       show ((2 + 2 * acc.length : Nat) : Int) + 2 = ((2 + 2 * (acc ++ [(x, numR y)]).length : Nat) : Int)
       rw [List.length_append, List.length_cons, List.length_nil]; omega
     ·
      repeat (first | refine AL.nil ?_ | refine AWp.seq ?_ | refine AWp.r9 ?_ | refine AWp.c9 rfl ?_ | refine AWp.exit ?_ | (refine zz rfl ?_; first | refine qac rfl ?_ | refine qae rfl ?_ | refine qal (v := v) rfl ?_ | refine qaS rK.os.rs rfl ?_ | refine qao rfl ?_ | refine qaf (v := u) rfl rfl kK.g6 rfl ?_ | refine qaB rn rfl ?_ | refine qam rfl rfl rfl (by omega) ?_ | refine qak rfl rfl rfl (by omega) ?_ | refine qah (v := .bool _) rfl rfl ?_ | refine qas rfl rfl (by omega) ?_))
      exact ⟨({ actV0 with k := u }, { act0 with kind := 12, node := numI ws 1, keep := acc }, G, true), ⟨kK, rK, (by rw [hr]), (fun _ => fin _ rfl (qgw (.inl (by omega)))), (by show acc.length ≤ 1000; omega)⟩, Weak.same (EW.cons rfl (EW.cons rfl (EW.cons rfl (EW.cons rfl EW.nil))))⟩
    ·
     repeat (first | refine AL.nil ?_ | refine AL.skip rfl rfl ?_ | refine AWp.seq ?_ | refine AWp.r9 ?_ | refine AWp.c9 rfl ?_ | refine AWp.exit ?_ | (refine zz rfl ?_; first | refine qac rfl ?_ | refine qae rfl ?_ | refine qal (v := v) rfl ?_ | refine qaS rK.os.rs rfl ?_ | refine qak rfl rfl rfl (by omega) ?_ | refine qah (v := .bool _) rfl rfl ?_ | refine qas rfl rfl (by omega) ?_))
     exact ⟨({ actV0 with k := u }, { act0 with kind := 12, node := numI ws 1, keep := acc }, G, true), ⟨kK, rK, (by rw [hr]), (fun _ => fin _ rfl (qgw (.inr (by rw [List.length_drop]; omega)))), (by show acc.length ≤ 1000; omega)⟩, Weak.same (EW.cons rfl (EW.cons rfl (EW.cons rfl (EW.cons rfl EW.nil))))⟩
   by_cases k6 : z = 8 ∨ z = 13
   ·
    have hr : readI z ws = ({ act0 with kind := z, node := numI ws 1 }, true) := by unfold readI; simp only; rw [if_neg k1, if_neg k2, if_neg k3, if_neg k4, if_neg k5, if_pos k6]
    rcases k6 with rfl | rfl
    ·
     repeat (first | refine W.w ?_ | refine AWp.c8 rfl ?_ | refine AWp.c9 rfl ?_ | refine AL.eff rfl (qau (b := ⟨actC (actV0) ({ act0 with kind := 8 }), 40, true⟩) rfl rfl rfl kA.g6 rfl (by exact Nat.le_of_ble_eq_true rfl) ?_) | (refine zz rfl ?_; first | refine qaa rfl ?_ | refine qal (v := v) rfl ?_ | refine qab rfl rfl cn1 ?_ | refine qao rfl ?_ | refine qaf rfl rfl kA.g6 rfl ?_ | refine qak rfl rfl rfl (by omega) ?_ | refine qaX rfl rfl rfl ?_))
     exact ⟨(actV0, { act0 with kind := 8, node := numI ws 1 }, H.set j6 ⟨actC (actV0) ({ act0 with kind := 8, node := numI ws 1 }), 40, true⟩, true), ⟨kA.set wf (actV0) ({ act0 with kind := 8, node := numI ws 1 }) ⟨kA.o.oa, kA.o.oc, kA.o.ok⟩, rB.put kA.g6 qbn _, (by rw [hr]), (fun _ => by rw [hr]), Nat.zero_le _⟩, Weak.same (EW.cons rfl (EW.cons rfl (EW.cons rfl (EW.cons rfl EW.nil))))⟩
    ·
     repeat (first | refine W.w ?_ | refine AWp.c8 rfl ?_ | refine AWp.c9 rfl ?_ | refine AL.eff rfl (qau (b := ⟨actC (actV0) ({ act0 with kind := 13 }), 40, true⟩) rfl rfl rfl kA.g6 rfl (by exact Nat.le_of_ble_eq_true rfl) ?_) | (refine zz rfl ?_; first | refine qaa rfl ?_ | refine qal (v := v) rfl ?_ | refine qab rfl rfl cn1 ?_ | refine qao rfl ?_ | refine qaf rfl rfl kA.g6 rfl ?_ | refine qak rfl rfl rfl (by omega) ?_ | refine qaX rfl rfl rfl ?_))
     exact ⟨(actV0, { act0 with kind := 13, node := numI ws 1 }, H.set j6 ⟨actC (actV0) ({ act0 with kind := 13, node := numI ws 1 }), 40, true⟩, true), ⟨kA.set wf (actV0) ({ act0 with kind := 13, node := numI ws 1 }) ⟨kA.o.oa, kA.o.oc, kA.o.ok⟩, rB.put kA.g6 qbn _, (by rw [hr]), (fun _ => by rw [hr]), Nat.zero_le _⟩, Weak.same (EW.cons rfl (EW.cons rfl (EW.cons rfl (EW.cons rfl EW.nil))))⟩
   ·
    have hr : readI z ws = ({ act0 with kind := z, node := numI ws 1, group := numI ws 2 }, decide (0 < z)) := by unfold readI; simp only; rw [if_neg k1, if_neg k2, if_neg k3, if_neg k4, if_neg k5, if_neg k6]
    repeat (first | refine W.w ?_ | refine AWp.c9 rfl ?_ | (refine zz rfl ?_; first | refine qaa rfl ?_ | refine qao rfl ?_ | refine qaf (v := .int .i64 z) rfl rfl kA.g6 rfl ?_ | refine qak rfl rfl rfl (by omega) ?_ | refine qal (v := v) rfl ?_))
    repeat (first | refine AL.eff rfl (qau (b := ⟨actC (actV0) ({ act0 with kind := z }), 40, true⟩) rfl rfl rfl kA.g6 rfl (by exact Nat.le_of_ble_eq_true rfl) ?_) | (refine zz rfl ?_; first | refine qal (v := v) rfl ?_ | refine qab rfl rfl cn1 ?_ | refine qab rfl rfl cn2 ?_ | refine qao rfl ?_))
    refine AL.heap (h := H.set j6 ⟨actC (actV0) ({ act0 with kind := z, node := numI ws 1 }), 40, true⟩) rfl ?_
    have rC := rB.put kA.g6 qbn ⟨actC (actV0) ({ act0 with kind := z, node := numI ws 1 }), 40, true⟩
    have kB := kA.set wf (actV0) ({ act0 with kind := z, node := numI ws 1 }) ⟨kA.o.oa, kA.o.oc, kA.o.ok⟩
    generalize H.set j6 ⟨actC (actV0) ({ act0 with kind := z, node := numI ws 1 }), 40, true⟩ = H4 at rC kB ⊢
    repeat (first | refine AL.nil ?_ | refine AL.eff rfl (qau (b := ⟨actC (actV0) ({ act0 with kind := z, node := numI ws 1 }), 40, true⟩) rfl rfl rfl kB.g6 rfl (by exact Nat.le_of_ble_eq_true rfl) ?_))
    exact ⟨(actV0, { act0 with kind := z, node := numI ws 1, group := numI ws 2 }, H4.set j6 ⟨actC (actV0) ({ act0 with kind := z, node := numI ws 1, group := numI ws 2 }), 40, true⟩, decide (0 < z)), ⟨kB.set wf (actV0) ({ act0 with kind := z, node := numI ws 1, group := numI ws 2 }) ⟨kB.o.oa, kB.o.oc, kB.o.ok⟩, rC.put kB.g6 qbn _, (by rw [hr]), (fun _ => by rw [hr]), Nat.zero_le _⟩, Weak.same (EW.cons rfl (EW.cons rfl (EW.cons rfl (EW.cons rfl EW.nil))))⟩
  ·
   rintro ⟨q, a, G, b⟩ ⟨kK, rK, hb, ha, hkl⟩
   replace kK : UlI h h.next j6 q a G := kK
   replace hb : b = (readI z ws).2 := hb
   replace ha : b = true → a = (readI z ws).1 := ha
   replace hkl : a.keep.length ≤ 1000 := hkl
   show AWp _ _ _ _ [(0, str s), (2, ptr h.next), (5, ptr j6), (7, .bool b)] G
   have ar := kK.o.r (by omega)
   have tG := t.ext kK.ext
   have cm := rmayLine_c q a G ar
   have no : ulV s = (act0, 4) → ∀ G', G' = G.set h.next ⟨actC actV0 act0, 40, true⟩ → ∃ q, Value.tuple #[.agg (actC actV0 act0).toArray, .int .i64 4] = .tuple #[.agg (actC q (ulV s).1).toArray, .int .i64 (ulV s).2] ∧ ActO h.next G' q (ulV s).1 ∧ Ext h G' := fun e G' eG => by
    rw [e, eG]
    exact ⟨actV0, rfl, ActO.nil _ _ _ rfl rfl rfl, wf.ext_set kK.ext (Nat.le_refl _) _⟩
   cases b with
   | false =>
    have e : ulV s = (act0, 4) := by rw [hul, if_neg fun g => by rw [← hb] at g; cases g.1]
    repeat (first | refine W.w ?_ | refine AL.skip rfl rfl ?_ | refine AWp.c8 rfl ?_ | refine AL.eff rfl (qan (vs := actC actV0 act0) rfl rfl rfl rfl kK.g4 rfl ?_) | (refine zz rfl ?_; first | refine qae rfl ?_ | refine qad rfl ?_ | refine qah (v := .bool _) rfl rfl ?_ | refine qax (out := actC actV0 act0) rfl rfl ?_ | refine qaL rfl ?_))
    exact ⟨_, ResV.cell2 rfl rfl rfl (Heap.set_at _ _ _) (Nat.le_refl _), no e _ rfl⟩
   | true =>
    replace ha := ha rfl
    rw [← hb, ← ha] at hul
    cases hm : mayAct 5 5 a with
    | false =>
     rw [hm] at cm
     have e : ulV s = (act0, 4) := by rw [hul, if_neg fun g => by rw [hm] at g; cases g.2.1]
     repeat (first | refine W.w ?_ | refine AL.skip rfl rfl ?_ | refine AWp.c8 rfl ?_ | refine AL.eff rfl (qan (vs := actC actV0 act0) rfl rfl rfl rfl kK.g4 rfl ?_) | (refine zz rfl ?_; first | refine qae rfl ?_ | refine qad rfl ?_ | refine qah (v := .bool _) rfl rfl ?_ | refine qaj (sz := 33) rfl rfl kK.g6 (Nat.le_refl _) ?_ | refine qab rfl rfl cm ?_ | refine qax (out := actC actV0 act0) rfl rfl ?_ | refine qaL rfl ?_))
     exact ⟨_, ResV.cell2 rfl rfl rfl (Heap.set_at _ _ _) (Nat.le_refl _), no e _ rfl⟩
    | true =>
     rw [hm] at cm
     have cl := rLine_c q a G tG ar hm
     by_cases hls : lineM a = s
     ·
      have e : ulV s = (a, 0) := by rw [hul, if_pos ⟨rfl, hm, hls⟩]
      repeat (first | refine W.w ?_ | refine AWp.c9 rfl ?_ | refine AL.eff rfl (qan (vs := actC q a) rfl rfl rfl (qaF ar) kK.g4 rfl ?_) | (refine zz rfl ?_; first | refine qae rfl ?_ | refine qai rfl ?_ | refine qad rfl ?_ | refine qah (v := .bool _) rfl rfl ?_ | refine qaj (sz := 33) rfl rfl kK.g6 (Nat.le_refl _) ?_ | refine qab rfl rfl cm ?_ | refine qab rfl rfl cl ?_ | refine qbY rfl rfl hls ?_ | refine qaL rfl ?_))
      refine ⟨_, ResV.cell2 rfl rfl rfl (Heap.set_at _ _ _) (Nat.le_refl _), ?_⟩
      rw [e]
      exact ⟨q, rfl, kK.o.put kK.g4 nea_u8 qcR, wf.ext_set kK.ext (Nat.le_refl _) _⟩
     ·
      have e : ulV s = (act0, 4) := by rw [hul, if_neg fun g => hls g.2.2]
      repeat (first | refine W.w ?_ | refine AWp.c8 rfl ?_ | refine AL.eff rfl (qan (vs := actC actV0 act0) rfl rfl rfl rfl kK.g4 rfl ?_) | (refine zz rfl ?_; first | refine qae rfl ?_ | refine qai rfl ?_ | refine qad rfl ?_ | refine qah (v := .bool _) rfl rfl ?_ | refine qaj (sz := 33) rfl rfl kK.g6 (Nat.le_refl _) ?_ | refine qab rfl rfl cm ?_ | refine qab rfl rfl cl ?_ | refine qbv rfl rfl hls ?_ | refine qax (out := actC actV0 act0) rfl rfl ?_ | refine qaL rfl ?_))
      exact ⟨_, ResV.cell2 rfl rfl rfl (Heap.set_at _ _ _) (Nat.le_refl _), no e _ rfl⟩
theorem unA_ulV (s : Bytes) : unA s = ulV s := by
 unfold unA ulV
 rw [unline_eq]
 cases unlineR s <;> rfl
theorem qgi (s : Bytes) (h : Heap) (t : Tabs h) (h8 : 8 ≤ h.next) : ACalls Tryz.prog 5 [str s] h fun u h' => u = .bool true ∧ h' = h := by
 refine ACalls.wf fun wf => ACalls.reset ?_
 refine ACalls.body Tryz.func5 rfl rfl ?_
 by_cases hl : 9000 < s.length
 ·
  have c0 := qhU h t h8
  repeat (first | refine W.w ?_ | refine AWp.c8 rfl ?_ | (refine zz rfl ?_; first | refine qai rfl ?_ | refine qaa rfl ?_ | refine qaI rfl ?_ | refine qam rfl rfl rfl (by omega) ?_ | refine qab rfl rfl c0 ?_))
  exact ⟨_, ResV.tmp rfl, rfl, Ext.refl _, rfl, rfl⟩
 ·
  repeat (first | refine W.w ?_ | refine AWp.c9 rfl ?_ | (refine zz rfl ?_; first | refine qai rfl ?_ | refine qaa rfl ?_ | refine qaI rfl ?_ | refine qak rfl rfl rfl (by omega) ?_))
  refine zz rfl (qar (evs := [str s]) rfl rfl ((qcw s h t h8 (by omega)).wf_post.mono ?_))
  rintro _ K1 ⟨⟨q1, rfl, ⟨⟨B1, o1⟩, k1⟩, y1⟩, v1, m1⟩
  have e1 := qaF (o1.r k1)
  repeat (first | (refine zz rfl ?_; first | refine qaH rfl ?_ | refine qav rfl rfl ?_ | refine qaw ?_))
  refine AL.eff rfl (qaE (vs := actC q1 (unA s).1) rfl rfl rfl rfl e1 ?_)
  refine AL.heap (h := K1.alloc ⟨actC q1 (unA s).1, 40, true⟩) rfl ?_
  obtain ⟨H1, hQ, g1, z1, w1, nQ⟩ := aq v1 ⟨actC q1 (unA s).1, 40, true⟩
  rw [hQ]
  have n1 : 8 ≤ H1.next := by omega
  have x1 := y1.trans z1
  repeat (first | refine W.w ?_ | refine zz rfl (qai rfl ?_) | refine zz rfl (qad rfl ?_))
  refine zz rfl (qar (evs := [str s]) rfl rfl ((runline_c s H1 (t.ext x1) n1 (by omega)).wf_post.mono ?_))
  rintro _ K2 ⟨⟨q2, rfl, o2, y2⟩, v2, m2⟩
  rw [← unA_ulV] at o2
  rw [← unA_ulV]
  have r2 := o2.r k1
  have e2 := qaF r2
  repeat (first | (refine zz rfl ?_; first | refine qaH rfl ?_ | refine qav rfl rfl ?_ | refine qaw ?_))
  refine AL.eff rfl (qaE (vs := actC q2 (unA s).1) rfl rfl rfl rfl e2 ?_)
  refine AL.heap (h := K2.alloc ⟨actC q2 (unA s).1, 40, true⟩) rfl ?_
  obtain ⟨H2, hQ, g2, z2, _, nQ⟩ := aq v2 ⟨actC q2 (unA s).1, 40, true⟩
  rw [hQ]
  have n2 : 8 ≤ H2.next := by omega
  have x2 := x1.trans (y2.trans z2)
  have f1 := (y2.trans z2).c _ _ g1
  have cs := qdg q1 q2 (unA s).1 (unA s).1 H2 ((o1.r k1).ext (z1.trans (y2.trans z2))) (r2.ext z2)
  rw [decide_eq_true rfl] at cs
  have cn := qfH (unA s).2 H2
  have ck := qhU H2 (t.ext x2) n2
  repeat (first | refine W.w ?_ | (refine zz rfl ?_; first | refine qac rfl ?_ | refine qae rfl ?_ | refine qad rfl ?_ | refine qaa rfl ?_ | refine qaj (sz := 33) rfl rfl f1 (Nat.le_refl _) ?_ | refine qaj (sz := 33) rfl rfl g2 (Nat.le_refl _) ?_ | refine qab rfl rfl cs ?_ | refine qab rfl rfl cn ?_ | refine qab rfl rfl ck ?_ | refine qam (a := (unA s).2) (b := (unA s).2) rfl rfl rfl rfl ?_ | refine qah (v := .bool _) rfl rfl ?_))
  exact ⟨_, ResV.tmp rfl, rfl, x2, rfl, rfl⟩
end Go.Proofs.YtigmojilaadbhaaGreatDoor
