/-
  Texts of one claim, merged: 4 parts.
-/
import Derived.Test.YtigmojilaadbhaaGreatDoorMpt
import Derived.Test.YtigmojilaadbhaaGreatDoorMpu
import Derived.Test.YtigmojilaadbhaaGreatDoorMpv
import Derived.Test.YtigmojilaadbhaaGreatDoorMpg
set_option maxHeartbeats 16000000
/- . -/
namespace Go.Proofs.YtigmojilaadbhaaGreatDoor
open Go Go.Eng Go.Pln Go.Lib Go.Proofs.Tryz
attribute [local irreducible] AWp AL DAL AOp TAL
instance i_runline : FnC prog 24 := ⟨Tryz.f24, func24, by kernel_rfl, by kernel_rfl⟩
theorem kindI_none {w : Bytes} (h : ∀ j : Int, 1 ≤ j → j ≤ 13 → kword j ≠ w) : kindI w = 0 := by
 unfold kindI
 have : (List.range 13).find? (fun i : Nat => kword ((i : Int) + 1) == w) = none := by
  rw [List.find?_eq_none]
  intro i hi
  have := Cl.1 hi
  simpa using h ((i : Int) + 1) (by omega) (by omega)
 rw [this]
structure UlI (h : Heap) (j4 j6 : Nat) (q : ActV) (a : ActM) (H : Heap) : Prop where
 ext : Ext h H
 wf : WF H
 nx : h.next ≤ H.next
 n4 : h.next ≤ j4
 n6 : h.next ≤ j6
 ne : j4 ≠ j6
 g4 : H.get j4 = some ⟨actC actV0 act0, 40, true⟩
 g6 : H.get j6 = some ⟨actC q a, 40, true⟩
 o : ActO h.next H q a
theorem ActO.ext {B : Nat} {h h' : Heap} {q : ActV} {a : ActM} (o : ActO B h q a) (hx : Ext h h') : ActO B h' q a := o.elem (fun j b hj _ => hx.c j b hj) (fun j b hj _ => hx.c j b hj)
theorem UlI.more {h H H' : Heap} {j4 j6 : Nat} {q : ActV} {a : ActM} (k : UlI h j4 j6 q a H) (hx : Ext H H') (wf : WF H') (hn : H.next ≤ H'.next) : UlI h j4 j6 q a H' := ⟨k.ext.trans hx, wf, Bi k.nx hn, k.n4, k.n6, k.ne, hx.c _ _ k.g4, hx.c _ _ k.g6, k.o.ext hx⟩
theorem nea_u8 : (40 : TypeId) ≠ 5 := by decide
theorem qbn : (40 : TypeId) ≠ 9 := by decide
theorem qcZ : (40 : TypeId) ≠ 79 := by decide
theorem UlI.set {h H : Heap} {j4 j6 : Nat} {q : ActV} {a : ActM} (k : UlI h j4 j6 q a H) (wf : WF h) (q' : ActV) (a' : ActM) (o : ActO h.next H q' a') : UlI h j4 j6 q' a' (H.set j6 ⟨actC q' a', 40, true⟩) :=
 ⟨wf.ext_set k.ext k.n6 _, k.wf.set (k.wf.lt k.g6) _, k.nx, k.n4, k.n6, k.ne, (aH k.ne).trans k.g4, aF _ _ _, o.put k.g6 nea_u8 qcZ⟩
theorem keeps_elem {B c : Nat} {h h' : Heap} {e : TypeId} {u : Value} {rows : List (List Value)} (k : Keeps u h h') (r : ON B c h e u rows) : ∀ j b, h.get j = some b → b.elem ≠ e → h'.get j = some b := by
 intro j b hj hb
 refine k.c j b hj fun s n c' hu => ?_
 rcases r.at_ with ⟨h1, _⟩ | ⟨i, cap, _, h1, h3⟩
 ·
  rw [h1] at hu; cases hu
 ·
  rw [h1] at hu
  cases hu
  rw [hj] at h3
  cases h3
  exact hb rfl
theorem CmdO.low {B B' : Nat} {h : Heap} {q : CmdV} {c : CmdM} (o : CmdO B h q c) (hb : B' ≤ B) : CmdO B' h q c := ⟨o.hq, cF o.hk hb, o.hc⟩
theorem AskO.low {B B' : Nat} {h : Heap} {q : AskV} {c : AskM} (o : AskO B h q c) (hb : B' ≤ B) : AskO B' h q c := ⟨cF o.k hb, cF o.t hb, cF o.v hb, cF o.w hb⟩
theorem qgw {f : Nat} {l : List Bytes} (h : f = 0 ∨ l.length < 2) : keepI f l = [] := by
 rcases h with rfl | h
 ·
  rfl
 ·
  match f, l, h with
  | 0, _, _ => rfl
  | f + 1, [], _ => rfl
  | f + 1, [x], _ => rfl
theorem keepI_at {f : Nat} {l : List Bytes} {i : Nat} {x y : Bytes} (hx : l[i]? = some x) (hy : l[i + 1]? = some y) : keepI (f + 1) (l.drop i) = (x, numR y) :: keepI f (l.drop (i + 2)) := by
 rw [qcN hx, qcN hy]
 rfl
def ulV (s : Bytes) : ActM × Int := match unlineR s with
 | some a => (a, 0)
 | none => (act0, 4)
theorem qcx : ∀ (s : Bytes), (wordsS s).length ≤ s.length + 1 ∧ ∀ w ∈ wordsS s, w.length ≤ s.length
 | [] => ⟨Aa _, fun w hw => by rw [Ax.1 hw]; exact Aa _⟩
 | c :: s => by
  obtain ⟨h1, h2⟩ := qcx s
  rw [wordsS]
  split
  ·
   refine ⟨by simp only [Ad]; omega, fun w hw => ?_⟩
   rcases Ak.1 hw with rfl | hw
   ·
    simp
   ·
    have := h2 w hw; simp only [Ad]; omega
  ·
   cases hq : wordsS s with
   | nil => exact absurd hq (qc1 s)
   | cons x l =>
    rw [hq] at h1 h2
    refine ⟨by simp only [Ad] at h1 ⊢; omega, fun w hw => ?_⟩
    rcases Ak.1 hw with rfl | hw
    ·
     have := h2 x Bl; simp only [Ad]; omega
    ·
     have := h2 w (Ay _ hw); simp only [Ad]; omega
theorem runline_c (s : Bytes) (h : Heap) (t : Tabs h) (h8 : 8 ≤ h.next) (hl : s.length ≤ 100000000) : ACalls prog 24 [str s] h fun u h' => ∃ q, u = .tuple #[.agg (actC q (ulV s).1).toArray, .int .i64 (ulV s).2] ∧ ActO h.next h' q (ulV s).1 ∧ Ext h h' := by
 refine aL fun wf => ?_
 refine aD func24 rfl rfl ?_
 obtain ⟨wl1, wl2⟩ := qcx s
 obtain ⟨w0, wr0, hw0⟩ : ∃ w0 r, wordsS s = w0 :: r := by
  cases hq : wordsS s with
  | nil => exact absurd hq (qc1 s)
  | cons x l => exact ⟨x, l, rfl⟩
 repeat (first | refine W.w ?_)
 refine zz rfl (qax ?_)
 refine aS (h := h.alloc ⟨actC actV0 act0, 40, true⟩) rfl ?_
 obtain ⟨H1, hQ, g4, x4, w4, n4⟩ := aq wf ⟨actC actV0 act0, 40, true⟩
 rw [hQ]
 repeat (first | refine W.w ?_ | refine zz rfl (qaj rfl ?_) | refine zz rfl (qad rfl ?_))
 refine zz rfl (qat (evs := [str s]) rfl rfl ((qfC s H1 (by omega)).mono ?_))
 intro v H2 gw
 have rA0 : RW H1.next H2 v (wordsS s) := ⟨gw.os, by omega, fun w hw => by have := wl2 w hw; omega⟩
 have x5 := gw.ext
 have w5 := gw.wf
 have n5 := gw.nx
 clear gw
 repeat (first | refine W.w ?_ | refine aJ rfl (qaL (vs := actC actV0 act0) rfl rfl rfl rfl rfl ?_) | (refine zz rfl ?_; first | refine qad rfl ?_ | refine qao (v := v) rfl ?_ | refine qay (out := actC actV0 act0) rfl rfl ?_ | refine qax ?_))
 have g6 := aB H2 ⟨actC actV0 act0, 40, true⟩
 have x6 := w5.ext ⟨actC actV0 act0, 40, true⟩
 have w6 := w5.alloc ⟨actC actV0 act0, 40, true⟩
 have kA0 : UlI h h.next H2.next actV0 act0 (H2.alloc ⟨actC actV0 act0, 40, true⟩) := ⟨x4.trans (x5.trans x6), w6, by show h.next ≤ H2.next + 1; omega, Aa _, by omega, by omega, x6.c _ _ (x5.c _ _ g4), g6, cR _ _ _ rfl rfl rfl⟩
 have rA := rA0.ext x6
 clear g6 x6 w6 rA0 x5 w5 g4
 refine cX (h := H2.alloc ⟨actC actV0 act0, 40, true⟩) rfl ?_
 generalize H2.alloc ⟨actC actV0 act0, 40, true⟩ = H3 at kA0 rA ⊢
 generalize hj6 : H2.next = j6 at kA0 ⊢
 clear hj6 n5
 have hat : (wordsS s)[0]? = some w0 := by rw [hw0]; rfl
 have hul : ulV s = match (if (readI (kindI w0) (wordsS s)).2 = true ∧ mayAct 5 5 (readI (kindI w0) (wordsS s)).1 = true ∧ lineM (readI (kindI w0) (wordsS s)).1 = s then some (readI (kindI w0) (wordsS s)).1 else none) with
  | some a => (a, 0)
  | none => (act0, 4) := by
  unfold ulV unlineR
  simp only [hat, Bj]
 have hlen1 : 1 ≤ (wordsS s).length := by rw [hw0]; simp
 generalize wordsS s = ws at rA hat hul wl1 wl2 hlen1 ⊢
 generalize H1.next = B at rA ⊢
 obtain ⟨va, vc, hv⟩ := bC rA.os.rs
 have hml : (ws.map str).length = ws.length := Ap _
 clear hw0
 refine bB (α := Nat × Int × Heap) (fun d => [(0, str s), (2, ptr h.next), (4, v), (5, ptr j6), (6, .int .i64 (d.1 : Nat))]) (fun d => d.2.2) (fun d => (1 ≤ d.1 ∧ d.1 ≤ 14) ∧ UlI h h.next j6 actV0 { act0 with kind := d.2.1 } d.2.2 ∧ RW B d.2.2 v ws ∧ ((d.2.1 = 0 ∧ ∀ j : Int, 1 ≤ j → j < (d.1 : Nat) → kword j ≠ w0) ∨ (1 ≤ d.2.1 ∧ d.2.1 < (d.1 : Nat) ∧ kword d.2.1 = w0))) (fun d => 14 - d.1) (1, 0, H3)
  ⟨⟨Aa _, Ab rfl⟩, kA0, rA, .inl ⟨rfl, fun j h1 h2 => by simp only at h2; omega⟩⟩ (aI (aA rfl (aA rfl (aA rfl (aA rfl (aA rfl aN)))))) ?_
 rintro ⟨k, z, H⟩ ⟨⟨hk1, hk2⟩, kA, rB, hz⟩
 replace hk1 : 1 ≤ k := hk1
 replace hk2 : k ≤ 14 := hk2
 replace kA : UlI h h.next j6 actV0 { act0 with kind := z } H := kA
 replace rB : RW B H v ws := rB
 replace hz : (z = 0 ∧ ∀ j : Int, 1 ≤ j → j < (k : Nat) → kword j ≠ w0) ∨ (1 ≤ z ∧ z < (k : Nat) ∧ kword z = w0) := hz
 show AWp _ _ _ _ [(0, str s), (2, ptr h.next), (4, v), (5, ptr j6), (6, .int .i64 (k : Nat))] H
 clear rA kA0
 by_cases hlt : k ≤ 13
 ·
  have cn := fun h' => rName_c ((k : Nat) : Int) ⟨by omega, by omega⟩ h'
  have hw2 : (ws.map str)[(0 : Int).toNat]? = some (str w0) := by
   show (ws.map str)[0]? = _
   rw [Bm, hat]
   rfl
  by_cases hkw : kword ((k : Nat) : Int) = w0
  ·
   repeat (first | refine W.w ?_ | refine aE rfl ?_ | refine zz rfl (qac rfl ?_) | refine zz rfl (qak rfl rfl rfl (by omega) ?_))
   refine bJ (σ := [(0, .R), (1, .R), (2, .R), (3, .R), (4, .R), (5, .R)]) mixed (by kernel_rfl) ?_
   repeat (first | refine dr rfl rfl (fun _ hx _ => qac rfl ⟨rfl, rfl⟩) ?_ | refine dr rfl rfl (fun _ hx _ => qal (v := v) rfl ⟨rfl, rfl⟩) ?_ | refine dr rfl rfl (fun h' hx _ => qab rfl rfl (cn h') ⟨rfl, rfl⟩) ?_ | refine dr rfl rfl (fun _ hx _ => qas (rB.os.rs.ext hx) rfl rfl (by omega) hw2 fun _ => ⟨rfl, rfl⟩) ?_ | refine dr rfl rfl (fun _ hx _ => qar (bL (rB.os.rs.ext hx) hw2) rfl rfl ⟨rfl, rfl⟩) ?_ | refine dr rfl rfl (fun _ hx _ => qaP rfl rfl hkw ⟨rfl, rfl⟩) ?_)
   refine aX ?_
   repeat (first | refine W.w ?_ | refine aE rfl ?_ | refine aJ rfl (qaw (b := ⟨actC actV0 { act0 with kind := z }, 40, true⟩) rfl rfl rfl kA.g6 rfl (by exact Ab rfl) ?_) | (refine zz rfl ?_; first | refine qac rfl ?_ | refine qad rfl ?_ | refine qan rfl ?_ | refine qau rfl rfl (by omega) ?_))
   refine ⟨(k + 1, (k : Int), H.set j6 ⟨actC actV0 { act0 with kind := (k : Int) }, 40, true⟩), ⟨⟨by show 1 ≤ k + 1; omega, by show k + 1 ≤ 14; omega⟩, kA.set wf _ _ (cR _ _ _ rfl rfl rfl), rB.put kA.g6 qbn _, .inr ⟨by show (1 : Int) ≤ k; omega, by show (k : Int) < ((k + 1 : Nat) : Int); omega, hkw⟩⟩, by show 14 - (k + 1) < 14 - k; omega, aI (aA rfl (aA rfl (aA rfl (aA rfl (aA rfl aN)))))⟩
  ·
   repeat (first | refine W.w ?_ | refine aE rfl ?_ | refine zz rfl (qac rfl ?_) | refine zz rfl (qak rfl rfl rfl (by omega) ?_))
   refine bJ (σ := [(0, .R), (1, .R), (2, .R), (3, .R), (4, .R), (5, .R)]) mixed (by kernel_rfl) ?_
   repeat (first | refine dr rfl rfl (fun _ hx _ => qac rfl ⟨rfl, rfl⟩) ?_ | refine dr rfl rfl (fun _ hx _ => qal (v := v) rfl ⟨rfl, rfl⟩) ?_ | refine dr rfl rfl (fun h' hx _ => qab rfl rfl (cn h') ⟨rfl, rfl⟩) ?_ | refine dr rfl rfl (fun _ hx _ => qas (rB.os.rs.ext hx) rfl rfl (by omega) hw2 fun _ => ⟨rfl, rfl⟩) ?_ | refine dr rfl rfl (fun _ hx _ => qar (bL (rB.os.rs.ext hx) hw2) rfl rfl ⟨rfl, rfl⟩) ?_ | refine dr rfl rfl (fun _ hx _ => qaM rfl rfl hkw ⟨rfl, rfl⟩) ?_)
   refine aX ?_
   repeat (first | refine W.w ?_ | refine aG rfl ?_ | (refine zz rfl ?_; first | refine qac rfl ?_ | refine qad rfl ?_ | refine qau rfl rfl (by omega) ?_))
   refine ⟨(k + 1, z, H), ⟨⟨by show 1 ≤ k + 1; omega, by show k + 1 ≤ 14; omega⟩, kA, rB, ?_⟩, by show 14 - (k + 1) < 14 - k; omega, aI (aA rfl (aA rfl (aA rfl (aA rfl (aA rfl aN)))))⟩
   rcases hz with ⟨h1, h2⟩ | ⟨h1, h2, h3⟩
   ·
    refine .inl ⟨h1, fun j j1 j2 => ?_⟩
    replace j2 : j < ((k + 1 : Nat) : Int) := j2
    by_cases hj : j = (k : Int)
    ·
     subst hj; exact hkw
    ·
     exact h2 j j1 (by omega)
   ·
    exact .inr ⟨h1, by show z < ((k + 1 : Nat) : Int); omega, h3⟩
 ·
  obtain rfl : k = 14 := by omega
  have hkz : kindI w0 = z ∧ 0 ≤ z ∧ z ≤ 13 := by
   rcases hz with ⟨h1, h2⟩ | ⟨h1, h2, h3⟩
   ·
    exact ⟨by rw [h1]; exact kindI_none fun j j1 j2 => h2 j j1 (by omega), by omega, by omega⟩
   ·
    exact ⟨by rw [← h3]; exact qfh ⟨h1, by omega⟩, by omega, by omega⟩
  rw [hkz.1] at hul
  obtain ⟨_, hz1, hz2⟩ := hkz
  clear hz hat hk1 hk2 hlt
  repeat (first | refine aW ?_ | refine aR ?_ | refine aY ?_ | refine aG rfl ?_ | refine aP ?_ | refine zz rfl (qac rfl ?_) | refine zz rfl (qai rfl rfl rfl (by omega) ?_))
  refine zz rfl (qan rfl ?_)
  refine zz rfl (qaf rfl rfl kA.g6 rfl ?_)
  refine zz rfl (qaZ (v := .bool (decide (0 < z))) rfl rfl rfl ?_)
  refine zz rfl (qaa rfl ?_)
  refine aW ?_
  refine aR ?_
  refine AWp.cutI (α := ActV × ActM × Heap × Bool) (fun d => [(0, str s), (2, ptr h.next), (5, ptr j6), (7, .bool d.2.2.2)]) (fun d => d.2.2.1) (fun d => UlI h h.next j6 d.1 d.2.1 d.2.2.1 ∧ RW B d.2.2.1 v ws ∧ d.2.2.2 = (readI z ws).2 ∧ (d.2.2.2 = true → d.2.1 = (readI z ws).1) ∧ d.2.1.keep.length ≤ 1000) ?_ ?_
  ·
   have cn1 := qdp B v ws 1 1 rfl H rB (t.ext kA.ext)
   have cn2 := qdp B v ws 2 2 rfl H rB (t.ext kA.ext)
   have cn3 := qdp B v ws 3 3 rfl H rB (t.ext kA.ext)
   by_cases k1 : z = 3 ∨ z = 4 ∨ z = 5
   ·
    have hr : readI z ws = ({ act0 with kind := z, n := numI ws 1 }, true) := by unfold readI; simp only; rw [Ah k1]
    rcases k1 with rfl | rfl | rfl
    ·
     repeat (first | refine W.w ?_ | refine aE rfl ?_ | refine aJ rfl (qaw (b := ⟨actC (actV0) ({ act0 with kind := 3 }), 40, true⟩) rfl rfl rfl kA.g6 rfl (by exact Ab rfl) ?_) | (refine zz rfl ?_; first | refine qaa rfl ?_ | refine qal (v := v) rfl ?_ | refine qab rfl rfl cn1 ?_ | refine qan rfl ?_ | refine qaf rfl rfl kA.g6 rfl ?_ | refine qaZ rfl rfl rfl ?_))
     exact ⟨(actV0, { act0 with kind := 3, n := numI ws 1 }, H.set j6 ⟨actC (actV0) ({ act0 with kind := 3, n := numI ws 1 }), 40, true⟩, true), ⟨kA.set wf (actV0) ({ act0 with kind := 3, n := numI ws 1 }) ⟨kA.o.oa, kA.o.oc, kA.o.ok⟩, rB.put kA.g6 qbn _, (by rw [hr]), (fun _ => by rw [hr]), Ao _⟩, aI (aA rfl (aA rfl (aA rfl (aA rfl aN))))⟩
    ·
     repeat (first | refine W.w ?_ | refine aE rfl ?_ | refine aG rfl ?_ | refine aJ rfl (qaw (b := ⟨actC (actV0) ({ act0 with kind := 4 }), 40, true⟩) rfl rfl rfl kA.g6 rfl (by exact Ab rfl) ?_) | (refine zz rfl ?_; first | refine qaa rfl ?_ | refine qal (v := v) rfl ?_ | refine qab rfl rfl cn1 ?_ | refine qan rfl ?_ | refine qaf rfl rfl kA.g6 rfl ?_ | refine qaZ rfl rfl rfl ?_))
     exact ⟨(actV0, { act0 with kind := 4, n := numI ws 1 }, H.set j6 ⟨actC (actV0) ({ act0 with kind := 4, n := numI ws 1 }), 40, true⟩, true), ⟨kA.set wf (actV0) ({ act0 with kind := 4, n := numI ws 1 }) ⟨kA.o.oa, kA.o.oc, kA.o.ok⟩, rB.put kA.g6 qbn _, (by rw [hr]), (fun _ => by rw [hr]), Ao _⟩, aI (aA rfl (aA rfl (aA rfl (aA rfl aN))))⟩
    ·
     repeat (first | refine W.w ?_ | refine aE rfl ?_ | refine aG rfl ?_ | refine aJ rfl (qaw (b := ⟨actC (actV0) ({ act0 with kind := 5 }), 40, true⟩) rfl rfl rfl kA.g6 rfl (by exact Ab rfl) ?_) | (refine zz rfl ?_; first | refine qaa rfl ?_ | refine qal (v := v) rfl ?_ | refine qab rfl rfl cn1 ?_ | refine qan rfl ?_ | refine qaf rfl rfl kA.g6 rfl ?_ | refine qaZ rfl rfl rfl ?_))
     exact ⟨(actV0, { act0 with kind := 5, n := numI ws 1 }, H.set j6 ⟨actC (actV0) ({ act0 with kind := 5, n := numI ws 1 }), 40, true⟩, true), ⟨kA.set wf (actV0) ({ act0 with kind := 5, n := numI ws 1 }) ⟨kA.o.oa, kA.o.oc, kA.o.ok⟩, rB.put kA.g6 qbn _, (by rw [hr]), (fun _ => by rw [hr]), Ao _⟩, aI (aA rfl (aA rfl (aA rfl (aA rfl aN))))⟩
   by_cases k2 : z = 9
   ·
    have hr : readI z ws = ({ act0 with kind := z, node := numI ws 1, cmd := (planI ws).1 }, (planI ws).2) := by unfold readI; simp only; rw [Ac k1, Ah k2]
    subst k2
    repeat (first | refine W.w ?_ | refine aE rfl ?_ | refine aG rfl ?_ | refine aJ rfl (qaw (b := ⟨actC (actV0) ({ act0 with kind := 9 }), 40, true⟩) rfl rfl rfl kA.g6 rfl (by exact Ab rfl) ?_) | (refine zz rfl ?_; first | refine qaa rfl ?_ | refine qal (v := v) rfl ?_ | refine qab rfl rfl cn1 ?_ | refine qan rfl ?_ | refine qaf rfl rfl kA.g6 rfl ?_ | refine qaZ rfl rfl rfl ?_))
    refine aS (h := H.set j6 ⟨actC (actV0) ({ act0 with kind := 9, node := numI ws 1 }), 40, true⟩) rfl ?_
    have rC := rB.put kA.g6 qbn ⟨actC (actV0) ({ act0 with kind := 9, node := numI ws 1 }), 40, true⟩
    have kB := kA.set wf (actV0) ({ act0 with kind := 9, node := numI ws 1 }) ⟨kA.o.oa, kA.o.oc, kA.o.ok⟩
    generalize H.set j6 ⟨actC (actV0) ({ act0 with kind := 9, node := numI ws 1 }), 40, true⟩ = H4 at rC kB ⊢
    have cp := rplanI_c B v ws H4 rC (t.ext kB.ext)
    skip
    refine zz rfl (qat (evs := [v]) rfl rfl (cp.wf_post.mono ?_))
    rintro _ H5 ⟨⟨qc, c, rfl, oc, xc, hc⟩, wc, nc⟩
    have kC := kB.more xc wc nc
    have rD := rC.ext xc
    replace oc := oc.low kB.nx
    repeat (first | refine aW ?_ | refine aJ rfl (qbt (vs := (cmdC qc c).toArray) rfl rfl (by simpa using qa4 oc.r) rfl kC.g6 rfl (Ab rfl) ?_) | (refine zz rfl ?_; first | refine qaC rfl ?_ | refine qaa rfl ?_ | refine qav rfl rfl ?_ | refine qan rfl ?_))
    exact ⟨({ actV0 with c := qc }, { act0 with kind := 9, node := numI ws 1, cmd := c }, H5.set j6 ⟨actC { actV0 with c := qc } { act0 with kind := 9, node := numI ws 1, cmd := c }, 40, true⟩, (planI ws).2), ⟨kC.set wf { actV0 with c := qc } { act0 with kind := 9, node := numI ws 1, cmd := c } ⟨kC.o.oa, oc, kC.o.ok⟩, rD.put kC.g6 qbn _, (by rw [hr]), (fun e => by rw [hr, ← hc e]), Ao _⟩, aI (aA rfl (aA rfl (aA rfl (aA rfl aN))))⟩
   by_cases k3 : z = 10
   ·
    have hr : readI z ws = ({ act0 with kind := z, client := numI ws 1, node := numI ws 2, group := numI ws 3, ask := (askI ws 4).1 }, (askI ws 4).2) := by unfold readI; simp only; rw [Ac k1, Ac k2, Ah k3]
    subst k3
    repeat (first | refine W.w ?_ | refine aE rfl ?_ | refine aG rfl ?_ | refine aJ rfl (qaw (b := ⟨actC (actV0) ({ act0 with kind := 10 }), 40, true⟩) rfl rfl rfl kA.g6 rfl (by exact Ab rfl) ?_) | (refine zz rfl ?_; first | refine qaa rfl ?_ | refine qal (v := v) rfl ?_ | refine qab rfl rfl cn1 ?_ | refine qab rfl rfl cn2 ?_ | refine qab rfl rfl cn3 ?_ | refine qan rfl ?_ | refine qaf rfl rfl kA.g6 rfl ?_ | refine qai rfl rfl rfl (by omega) ?_ | refine qaZ rfl rfl rfl ?_))
    refine aS (h := H.set j6 ⟨actC (actV0) ({ act0 with kind := 10, client := numI ws 1 }), 40, true⟩) rfl ?_
    have rC := rB.put kA.g6 qbn ⟨actC (actV0) ({ act0 with kind := 10, client := numI ws 1 }), 40, true⟩
    have kB := kA.set wf (actV0) ({ act0 with kind := 10, client := numI ws 1 }) ⟨kA.o.oa, kA.o.oc, kA.o.ok⟩
    generalize H.set j6 ⟨actC (actV0) ({ act0 with kind := 10, client := numI ws 1 }), 40, true⟩ = H4 at rC kB ⊢
    repeat (first | refine zz rfl (qan rfl ?_) | refine aJ rfl (qaw (b := ⟨actC (actV0) ({ act0 with kind := 10, client := numI ws 1 }), 40, true⟩) rfl rfl rfl kB.g6 rfl (by exact Ab rfl) ?_))
    refine aS (h := H4.set j6 ⟨actC (actV0) ({ act0 with kind := 10, client := numI ws 1, node := numI ws 2 }), 40, true⟩) rfl ?_
    have rD := rC.put kB.g6 qbn ⟨actC (actV0) ({ act0 with kind := 10, client := numI ws 1, node := numI ws 2 }), 40, true⟩
    have kC := kB.set wf (actV0) ({ act0 with kind := 10, client := numI ws 1, node := numI ws 2 }) ⟨kB.o.oa, kB.o.oc, kB.o.ok⟩
    generalize H4.set j6 ⟨actC (actV0) ({ act0 with kind := 10, client := numI ws 1, node := numI ws 2 }), 40, true⟩ = H5 at rD kC ⊢
    repeat (first | refine W.w ?_ | refine zz rfl (qan rfl ?_) | refine aJ rfl (qaw (b := ⟨actC (actV0) ({ act0 with kind := 10, client := numI ws 1, node := numI ws 2 }), 40, true⟩) rfl rfl rfl kC.g6 rfl (by exact Ab rfl) ?_))
    refine aS (h := H5.set j6 ⟨actC (actV0) ({ act0 with kind := 10, client := numI ws 1, node := numI ws 2, group := numI ws 3 }), 40, true⟩) rfl ?_
    have rE := rD.put kC.g6 qbn ⟨actC (actV0) ({ act0 with kind := 10, client := numI ws 1, node := numI ws 2, group := numI ws 3 }), 40, true⟩
    have kD := kC.set wf (actV0) ({ act0 with kind := 10, client := numI ws 1, node := numI ws 2, group := numI ws 3 }) ⟨kC.o.oa, kC.o.oc, kC.o.ok⟩
    generalize H5.set j6 ⟨actC (actV0) ({ act0 with kind := 10, client := numI ws 1, node := numI ws 2, group := numI ws 3 }), 40, true⟩ = H6 at rE kD ⊢
    have cp := runask_c B v ws 4 (by omega) H6 rE (t.ext kD.ext) (by have := kD.nx; omega)
    repeat (first | refine W.w ?_ | refine aE rfl ?_ | (refine zz rfl ?_; first | refine qal (v := v) rfl ?_ | refine qaf rfl rfl kD.g6 rfl ?_ | refine qaZ rfl rfl rfl ?_))
    refine zz rfl (qat (evs := [v, .int .i64 4]) rfl rfl (cp.wf_post.mono ?_))
    rintro _ H7 ⟨⟨qc, c, rfl, oc, xc, hc⟩, wc, nc⟩
    have kE := kD.more xc wc nc
    have rF := rE.ext xc
    replace oc := oc.low kD.nx
    repeat (first | refine aW ?_ | refine aJ rfl (qbt (vs := (askC qc c).toArray) rfl rfl (by simpa using qde oc.r) rfl kE.g6 rfl (Ab rfl) ?_) | (refine zz rfl ?_; first | refine qaC rfl ?_ | refine qaa rfl ?_ | refine qav rfl rfl ?_ | refine qan rfl ?_))
    exact ⟨({ actV0 with q := qc }, { act0 with kind := 10, client := numI ws 1, node := numI ws 2, group := numI ws 3, ask := c }, H7.set j6 ⟨actC { actV0 with q := qc } { act0 with kind := 10, client := numI ws 1, node := numI ws 2, group := numI ws 3, ask := c }, 40, true⟩, (askI ws 4).2), ⟨kE.set wf { actV0 with q := qc } { act0 with kind := 10, client := numI ws 1, node := numI ws 2, group := numI ws 3, ask := c } ⟨oc, kE.o.oc, kE.o.ok⟩, rF.put kE.g6 qbn _, (by rw [hr]), (fun e => by rw [hr, ← hc e]), Ao _⟩, aI (aA rfl (aA rfl (aA rfl (aA rfl aN))))⟩
   by_cases k4 : z = 11
   ·
    have hr : readI z ws = ({ act0 with kind := z, client := numI ws 1, node := numI ws 2, group := numI ws 3 }, true) := by unfold readI; simp only; rw [Ac k1, Ac k2, Ac k3, Ah k4]
    subst k4
    repeat (first | refine W.w ?_ | refine aE rfl ?_ | refine aG rfl ?_ | refine aJ rfl (qaw (b := ⟨actC (actV0) ({ act0 with kind := 11 }), 40, true⟩) rfl rfl rfl kA.g6 rfl (by exact Ab rfl) ?_) | (refine zz rfl ?_; first | refine qaa rfl ?_ | refine qal (v := v) rfl ?_ | refine qab rfl rfl cn1 ?_ | refine qab rfl rfl cn2 ?_ | refine qab rfl rfl cn3 ?_ | refine qan rfl ?_ | refine qaf rfl rfl kA.g6 rfl ?_ | refine qai rfl rfl rfl (by omega) ?_ | refine qaZ rfl rfl rfl ?_))
    refine aS (h := H.set j6 ⟨actC (actV0) ({ act0 with kind := 11, client := numI ws 1 }), 40, true⟩) rfl ?_
    have rC := rB.put kA.g6 qbn ⟨actC (actV0) ({ act0 with kind := 11, client := numI ws 1 }), 40, true⟩
    have kB := kA.set wf (actV0) ({ act0 with kind := 11, client := numI ws 1 }) ⟨kA.o.oa, kA.o.oc, kA.o.ok⟩
    generalize H.set j6 ⟨actC (actV0) ({ act0 with kind := 11, client := numI ws 1 }), 40, true⟩ = H4 at rC kB ⊢
    repeat (first | refine zz rfl (qan rfl ?_) | refine aJ rfl (qaw (b := ⟨actC (actV0) ({ act0 with kind := 11, client := numI ws 1 }), 40, true⟩) rfl rfl rfl kB.g6 rfl (by exact Ab rfl) ?_))
    refine aS (h := H4.set j6 ⟨actC (actV0) ({ act0 with kind := 11, client := numI ws 1, node := numI ws 2 }), 40, true⟩) rfl ?_
    have rD := rC.put kB.g6 qbn ⟨actC (actV0) ({ act0 with kind := 11, client := numI ws 1, node := numI ws 2 }), 40, true⟩
    have kC := kB.set wf (actV0) ({ act0 with kind := 11, client := numI ws 1, node := numI ws 2 }) ⟨kB.o.oa, kB.o.oc, kB.o.ok⟩
    generalize H4.set j6 ⟨actC (actV0) ({ act0 with kind := 11, client := numI ws 1, node := numI ws 2 }), 40, true⟩ = H5 at rD kC ⊢
    repeat (first | refine W.w ?_ | refine zz rfl (qan rfl ?_) | refine aJ rfl (qaw (b := ⟨actC (actV0) ({ act0 with kind := 11, client := numI ws 1, node := numI ws 2 }), 40, true⟩) rfl rfl rfl kC.g6 rfl (by exact Ab rfl) ?_))
    refine aS (h := H5.set j6 ⟨actC (actV0) ({ act0 with kind := 11, client := numI ws 1, node := numI ws 2, group := numI ws 3 }), 40, true⟩) rfl ?_
    have rE := rD.put kC.g6 qbn ⟨actC (actV0) ({ act0 with kind := 11, client := numI ws 1, node := numI ws 2, group := numI ws 3 }), 40, true⟩
    have kD := kC.set wf (actV0) ({ act0 with kind := 11, client := numI ws 1, node := numI ws 2, group := numI ws 3 }) ⟨kC.o.oa, kC.o.oc, kC.o.ok⟩
    generalize H5.set j6 ⟨actC (actV0) ({ act0 with kind := 11, client := numI ws 1, node := numI ws 2, group := numI ws 3 }), 40, true⟩ = H6 at rE kD ⊢
    repeat (first | refine W.w ?_ | refine aG rfl ?_ | refine zz rfl (qaf rfl rfl kD.g6 rfl ?_) | refine zz rfl (qai rfl rfl rfl (by omega) ?_))
    skip
    exact ⟨(actV0, { act0 with kind := 11, client := numI ws 1, node := numI ws 2, group := numI ws 3 }, H6, true), ⟨kD, rE, (by rw [hr]), (fun _ => by rw [hr]), Ao _⟩, aI (aA rfl (aA rfl (aA rfl (aA rfl aN))))⟩
   by_cases k5 : z = 12
   ·
    have hr : readI z ws = ({ act0 with kind := z, node := numI ws 1, keep := keepI 129 (ws.drop 2) }, true) := by unfold readI; simp only; rw [Ac k1, Ac k2, Ac k3, Ac k4, Ah k5]
    subst k5
    repeat (first | refine W.w ?_ | refine aE rfl ?_ | refine aG rfl ?_ | refine aJ rfl (qaw (b := ⟨actC (actV0) ({ act0 with kind := 12 }), 40, true⟩) rfl rfl rfl kA.g6 rfl (by exact Ab rfl) ?_) | (refine zz rfl ?_; first | refine qad rfl ?_ | refine qaa rfl ?_ | refine qal (v := v) rfl ?_ | refine qab rfl rfl cn1 ?_ | refine qan rfl ?_ | refine qaf rfl rfl kA.g6 rfl ?_ | refine qai rfl rfl rfl (by omega) ?_ | refine qaZ rfl rfl rfl ?_))
    refine cX (h := H.set j6 ⟨actC (actV0) ({ act0 with kind := 12, node := numI ws 1 }), 40, true⟩) rfl ?_
    have rC := rB.put kA.g6 qbn ⟨actC (actV0) ({ act0 with kind := 12, node := numI ws 1 }), 40, true⟩
    have kB := kA.set wf (actV0) ({ act0 with kind := 12, node := numI ws 1 }) ⟨kA.o.oa, kA.o.oc, kA.o.ok⟩
    generalize H.set j6 ⟨actC (actV0) ({ act0 with kind := 12, node := numI ws 1 }), 40, true⟩ = H4 at rC kB ⊢
    refine bB (α := List (Bytes × Int) × Heap × Value) (fun d => [(0, str s), (2, ptr h.next), (4, v), (5, ptr j6), (7, .bool true), (8, .int .i64 ((2 + 2 * d.1.length : Nat) : Int))]) (fun d => d.2.1) (fun d => UlI h h.next j6 { actV0 with k := d.2.2 } { act0 with kind := 12, node := numI ws 1, keep := d.1 } d.2.1 ∧ RW B d.2.1 v ws ∧ keepI 129 (ws.drop 2) = d.1 ++ keepI (129 - d.1.length) (ws.drop (2 + 2 * d.1.length)) ∧ d.1.length ≤ 129) (fun d => 200 - d.1.length) ([], H4, .slice none 0 0)
     ⟨kB, rC, rfl, Ao _⟩ (aI (aA rfl (aA rfl (aA rfl (aA rfl (aA rfl (aA rfl aN))))))) ?_
    rintro ⟨acc, G, u⟩ ⟨kK, rK, hke, hkl⟩
    replace kK : UlI h h.next j6 { actV0 with k := u } { act0 with kind := 12, node := numI ws 1, keep := acc } G := kK
    replace rK : RW B G v ws := rK
    replace hke : keepI 129 (ws.drop 2) = acc ++ keepI (129 - acc.length) (ws.drop (2 + 2 * acc.length)) := hke
    replace hkl : acc.length ≤ 129 := hkl
    show AWp _ _ _ _ [(0, str s), (2, ptr h.next), (4, v), (5, ptr j6), (7, .bool true), (8, .int .i64 ((2 + 2 * acc.length : Nat) : Int))] G
    have rn : RN 2 G u (acc.map keptR) := kK.o.ok.rn
    have hml2 : (acc.map keptR).length = acc.length := Ap _
    have hwl := rK.len
    have fin : ∀ e, e = [] → keepI (129 - acc.length) (ws.drop (2 + 2 * acc.length)) = e → ({ act0 with kind := 12, node := numI ws 1, keep := acc } : ActM) = (readI 12 ws).1 := fun e e1 e2 => by rw [hr, hke, e2, e1, Ck]
    by_cases q1 : 2 + 2 * acc.length + 1 < ws.length
    ·
     by_cases q2 : acc.length ≤ 128
     ·
      obtain ⟨x, hx⟩ : ∃ x, ws[2 + 2 * acc.length]? = some x := ⟨_, At (by omega)⟩
      obtain ⟨y, hy⟩ : ∃ y, ws[2 + 2 * acc.length + 1]? = some y := ⟨_, At q1⟩
      have hx2 : (ws.map str)[((2 + 2 * acc.length : Nat) : Int).toNat]? = some (str x) := rK.at hx
      have hny : numI ws (2 + 2 * acc.length + 1) = numR y := by unfold numI; rw [hy]
      have cn := fun (h' : Heap) (hx : Ext G h') => qdp B v ws (2 + 2 * acc.length + 1) (((2 + 2 * acc.length : Nat) : Int) + 1) (by omega) h' (rK.ext hx) (t.ext (kK.ext.trans hx))
      rw [hny] at cn
      repeat (first | refine W.w ?_ | refine aE rfl ?_ | (refine zz rfl ?_; first | refine qac rfl ?_ | refine qae rfl ?_ | refine qal (v := v) rfl ?_ | refine qaz rK.os.rs rfl ?_ | refine qan rfl ?_ | refine qaf (v := u) rfl rfl kK.g6 rfl ?_ | refine qaA rn rfl ?_ | refine qak rfl rfl rfl (by omega) ?_ | refine qag (v := .bool _) rfl rfl ?_ | refine qau rfl rfl (by omega) ?_))
      refine cD (t := OT.seq [(0, .R), (1, .R), (2, .R), (3, .R), (4, .R), (5, .R), (6, .R), (7, .R), (8, .R), (9, .R), (10, .R), (11, .X), (12, .W), (13, .R), (14, .W)] .nil) mixed (by kernel_rfl) ?_
      repeat (first | refine tr rfl rfl (fun _ hx _ => qac rfl ⟨rfl, rfl⟩) ?_ | refine tr rfl rfl (fun _ hx _ => qan rfl ⟨rfl, rfl⟩) ?_ | refine tr rfl rfl (fun _ hx _ => qaf (v := u) rfl rfl (hx.c _ _ kK.g6) rfl ⟨rfl, rfl⟩) ?_ | refine tr rfl rfl (fun _ hx _ => qal (v := v) rfl ⟨rfl, rfl⟩) ?_ | refine tr rfl rfl (fun _ hx _ => qas (rK.os.rs.ext hx) rfl rfl (by omega) hx2 fun _ => ⟨rfl, rfl⟩) ?_ | refine tr rfl rfl (fun _ hx _ => qar (bL (rK.os.rs.ext hx) hx2) rfl rfl ⟨rfl, rfl⟩) ?_ | refine tr rfl rfl (fun h' hx _ => qab rfl rfl (cn h' hx) ⟨rfl, rfl⟩) ?_ | refine tr rfl rfl (fun _ hx _ => qay (out := keptR (x, numR y)) rfl rfl ⟨rfl, rfl⟩) ?_ | refine tr rfl rfl (fun _ hx _ => qau rfl rfl (by omega) ⟨rfl, rfl⟩) ?_)
      refine cW rfl rfl rfl (qd5 (sz := 2) (row := keptR (x, numR y)) (by decide) (by decide) rfl rfl ⟨kK.wf.ext _, ?_⟩)
      obtain ⟨G3, hQ, gr, xr, wr, nr⟩ := aq kK.wf ⟨keptR (x, numR y), 79, true⟩
      rw [hQ]
      have kR := kK.more xr wr (by omega)
      have rR := rK.ext xr
      have rn1 : RN 2 G3 (.slice (some ⟨G.next, 0, some 2⟩) 1 1) [keptR (x, numR y)] := RN.row1 rfl gr
      have o3 : ON h.next 2 G3 79 u (acc.map keptR) := kR.o.ok
      have n3 := kR.nx
      refine TAL.w rfl rfl rfl (qcy (m := 1) (by_ := 24) (z := .agg #[.string ⟨#[]⟩, .int .i64 0]) (B := h.next) (e := 79) (news := [keptR (x, numR y)]) rfl wr n3 o3 rfl rfl rn1.src rfl (by intro w hw; rw [Ax.1 hw]; rfl) rfl (by rw [hml2]; simp only [maxLen]; omega) (by rw [hml2]; omega) ?_)
      intro u' G4 o4 _ k4 wf4 n4
      have ke := keeps_elem k4 o3
      have g4' := ke _ _ kR.g4 qcZ
      have g6' := ke _ _ kR.g6 qcZ
      have hx4 := k4.extN o3 wf (Aa _) kR.ext
      have o4' : ON h.next 2 G4 79 u' ((acc ++ [(x, numR y)]).map keptR) := by rw [Cx]; exact o4
      have oa' : ActO h.next G4 { actV0 with k := u' } { act0 with kind := 12, node := numI ws 1, keep := acc ++ [(x, numR y)] } := ⟨AskO.nil _ _, CmdO.nil _ _, o4'⟩
      have rS : RW B G4 v ws := ⟨bV rR.os fun j b hj hb => ke j b hj (by rw [hb]; decide), rR.len, rR.all⟩
      repeat (first | refine tr rfl rfl (fun _ hx _ => qan rfl ⟨rfl, rfl⟩) ?_)
      refine dG rfl rfl (qaw (b := ⟨actC { actV0 with k := u } { act0 with kind := 12, node := numI ws 1, keep := acc }, 40, true⟩) rfl rfl o4.one g6' rfl (by exact Ab rfl) ?_)
      refine bD ?_
      repeat (first | refine W.w ?_ | (refine zz rfl ?_; first | refine qac rfl ?_ | refine qad rfl ?_ | refine qau rfl rfl (by omega) ?_))
      refine ⟨(acc ++ [(x, numR y)], G4.set j6 ⟨actC { actV0 with k := u' } { act0 with kind := 12, node := numI ws 1, keep := acc ++ [(x, numR y)] }, 40, true⟩, u'), ⟨⟨wf.ext_set hx4 kK.n6 _, wf4.set (wf4.lt g6') _, by show h.next ≤ G4.next; omega, kK.n4, kK.n6, kK.ne, (aH kK.ne).trans g4', aF _ _ _, oa'.put g6' nea_u8 qcZ⟩, rS.put g6' qbn _, ?_, ?_⟩, ?_, aI (aA rfl (aA rfl (aA rfl (aA rfl (aA rfl (aA (congrArg (Value.int .i64) ?_) aN))))))⟩
      ·
       show keepI 129 (ws.drop 2) = (acc ++ [(x, numR y)]) ++ keepI (129 - (acc ++ [(x, numR y)]).length) (ws.drop (2 + 2 * (acc ++ [(x, numR y)]).length))
       rw [hke, An, show 129 - acc.length = (129 - (acc.length + [(x, numR y)].length)) + 1 by simp only [Ad, Ag]; omega, keepI_at hx hy, show 2 + 2 * (acc.length + [(x, numR y)].length) = 2 + 2 * acc.length + 2 by simp only [Ad, Ag]; omega]
       simp
      ·
       show (acc ++ [(x, numR y)]).length ≤ 129
       rw [An, Ad, Ag]; omega
      ·
       show 200 - (acc ++ [(x, numR y)]).length < 200 - acc.length
       rw [An, Ad, Ag]; omega
      ·
       show ((2 + 2 * acc.length : Nat) : Int) + 2 = ((2 + 2 * (acc ++ [(x, numR y)]).length : Nat) : Int)
       rw [An, Ad, Ag]; omega
     ·
      repeat (first | refine aW ?_ | refine aR ?_ | refine aY ?_ | refine aG rfl ?_ | refine aP ?_ | (refine zz rfl ?_; first | refine qac rfl ?_ | refine qae rfl ?_ | refine qal (v := v) rfl ?_ | refine qaz rK.os.rs rfl ?_ | refine qan rfl ?_ | refine qaf (v := u) rfl rfl kK.g6 rfl ?_ | refine qaA rn rfl ?_ | refine qak rfl rfl rfl (by omega) ?_ | refine qai rfl rfl rfl (by omega) ?_ | refine qag (v := .bool _) rfl rfl ?_ | refine qau rfl rfl (by omega) ?_))
      exact ⟨({ actV0 with k := u }, { act0 with kind := 12, node := numI ws 1, keep := acc }, G, true), ⟨kK, rK, (by rw [hr]), (fun _ => fin _ rfl (qgw (.inl (by omega)))), (by show acc.length ≤ 1000; omega)⟩, aI (aA rfl (aA rfl (aA rfl (aA rfl aN))))⟩
    ·
     repeat (first | refine aW ?_ | refine aK rfl rfl ?_ | refine aR ?_ | refine aY ?_ | refine aG rfl ?_ | refine aP ?_ | (refine zz rfl ?_; first | refine qac rfl ?_ | refine qae rfl ?_ | refine qal (v := v) rfl ?_ | refine qaz rK.os.rs rfl ?_ | refine qai rfl rfl rfl (by omega) ?_ | refine qag (v := .bool _) rfl rfl ?_ | refine qau rfl rfl (by omega) ?_))
     exact ⟨({ actV0 with k := u }, { act0 with kind := 12, node := numI ws 1, keep := acc }, G, true), ⟨kK, rK, (by rw [hr]), (fun _ => fin _ rfl (qgw (.inr (by rw [Dj]; omega)))), (by show acc.length ≤ 1000; omega)⟩, aI (aA rfl (aA rfl (aA rfl (aA rfl aN))))⟩
   by_cases k6 : z = 8 ∨ z = 13
   ·
    have hr : readI z ws = ({ act0 with kind := z, node := numI ws 1 }, true) := by unfold readI; simp only; rw [Ac k1, Ac k2, Ac k3, Ac k4, Ac k5, Ah k6]
    rcases k6 with rfl | rfl
    ·
     repeat (first | refine W.w ?_ | refine aE rfl ?_ | refine aG rfl ?_ | refine aJ rfl (qaw (b := ⟨actC (actV0) ({ act0 with kind := 8 }), 40, true⟩) rfl rfl rfl kA.g6 rfl (by exact Ab rfl) ?_) | (refine zz rfl ?_; first | refine qaa rfl ?_ | refine qal (v := v) rfl ?_ | refine qab rfl rfl cn1 ?_ | refine qan rfl ?_ | refine qaf rfl rfl kA.g6 rfl ?_ | refine qai rfl rfl rfl (by omega) ?_ | refine qaZ rfl rfl rfl ?_))
     exact ⟨(actV0, { act0 with kind := 8, node := numI ws 1 }, H.set j6 ⟨actC (actV0) ({ act0 with kind := 8, node := numI ws 1 }), 40, true⟩, true), ⟨kA.set wf (actV0) ({ act0 with kind := 8, node := numI ws 1 }) ⟨kA.o.oa, kA.o.oc, kA.o.ok⟩, rB.put kA.g6 qbn _, (by rw [hr]), (fun _ => by rw [hr]), Ao _⟩, aI (aA rfl (aA rfl (aA rfl (aA rfl aN))))⟩
    ·
     repeat (first | refine W.w ?_ | refine aE rfl ?_ | refine aG rfl ?_ | refine aJ rfl (qaw (b := ⟨actC (actV0) ({ act0 with kind := 13 }), 40, true⟩) rfl rfl rfl kA.g6 rfl (by exact Ab rfl) ?_) | (refine zz rfl ?_; first | refine qaa rfl ?_ | refine qal (v := v) rfl ?_ | refine qab rfl rfl cn1 ?_ | refine qan rfl ?_ | refine qaf rfl rfl kA.g6 rfl ?_ | refine qai rfl rfl rfl (by omega) ?_ | refine qaZ rfl rfl rfl ?_))
     exact ⟨(actV0, { act0 with kind := 13, node := numI ws 1 }, H.set j6 ⟨actC (actV0) ({ act0 with kind := 13, node := numI ws 1 }), 40, true⟩, true), ⟨kA.set wf (actV0) ({ act0 with kind := 13, node := numI ws 1 }) ⟨kA.o.oa, kA.o.oc, kA.o.ok⟩, rB.put kA.g6 qbn _, (by rw [hr]), (fun _ => by rw [hr]), Ao _⟩, aI (aA rfl (aA rfl (aA rfl (aA rfl aN))))⟩
   ·
    have hr : readI z ws = ({ act0 with kind := z, node := numI ws 1, group := numI ws 2 }, decide (0 < z)) := by unfold readI; simp only; rw [Ac k1, Ac k2, Ac k3, Ac k4, Ac k5, Ac k6]
    repeat (first | refine W.w ?_ | refine aG rfl ?_ | (refine zz rfl ?_; first | refine qaa rfl ?_ | refine qan rfl ?_ | refine qaf (v := .int .i64 z) rfl rfl kA.g6 rfl ?_ | refine qai rfl rfl rfl (by omega) ?_ | refine qal (v := v) rfl ?_))
    repeat (first | refine aJ rfl (qaw (b := ⟨actC (actV0) ({ act0 with kind := z }), 40, true⟩) rfl rfl rfl kA.g6 rfl (by exact Ab rfl) ?_) | (refine zz rfl ?_; first | refine qal (v := v) rfl ?_ | refine qab rfl rfl cn1 ?_ | refine qab rfl rfl cn2 ?_ | refine qan rfl ?_))
    refine aS (h := H.set j6 ⟨actC (actV0) ({ act0 with kind := z, node := numI ws 1 }), 40, true⟩) rfl ?_
    have rC := rB.put kA.g6 qbn ⟨actC (actV0) ({ act0 with kind := z, node := numI ws 1 }), 40, true⟩
    have kB := kA.set wf (actV0) ({ act0 with kind := z, node := numI ws 1 }) ⟨kA.o.oa, kA.o.oc, kA.o.ok⟩
    generalize H.set j6 ⟨actC (actV0) ({ act0 with kind := z, node := numI ws 1 }), 40, true⟩ = H4 at rC kB ⊢
    repeat (first | refine aW ?_ | refine aJ rfl (qaw (b := ⟨actC (actV0) ({ act0 with kind := z, node := numI ws 1 }), 40, true⟩) rfl rfl rfl kB.g6 rfl (by exact Ab rfl) ?_))
    exact ⟨(actV0, { act0 with kind := z, node := numI ws 1, group := numI ws 2 }, H4.set j6 ⟨actC (actV0) ({ act0 with kind := z, node := numI ws 1, group := numI ws 2 }), 40, true⟩, decide (0 < z)), ⟨kB.set wf (actV0) ({ act0 with kind := z, node := numI ws 1, group := numI ws 2 }) ⟨kB.o.oa, kB.o.oc, kB.o.ok⟩, rC.put kB.g6 qbn _, (by rw [hr]), (fun _ => by rw [hr]), Ao _⟩, aI (aA rfl (aA rfl (aA rfl (aA rfl aN))))⟩
  ·
   rintro ⟨q, a, G, b⟩ ⟨kK, rK, hb, ha, hkl⟩
   replace kK : UlI h h.next j6 q a G := kK
   replace hb : b = (readI z ws).2 := hb
   replace ha : b = true → a = (readI z ws).1 := ha
   replace hkl : a.keep.length ≤ 1000 := hkl
   show AWp _ _ _ _ [(0, str s), (2, ptr h.next), (5, ptr j6), (7, .bool b)] G
   have ar := kK.o.r (by omega)
   have tG := t.ext kK.ext
   have cm := rmayLine_c q a G ar
   have no : ulV s = (act0, 4) → ∀ G', G' = G.set h.next ⟨actC actV0 act0, 40, true⟩ → ∃ q, Value.tuple #[.agg (actC actV0 act0).toArray, .int .i64 4] = .tuple #[.agg (actC q (ulV s).1).toArray, .int .i64 (ulV s).2] ∧ ActO h.next G' q (ulV s).1 ∧ Ext h G' := fun e G' eG => by
    rw [e, eG]
    exact ⟨actV0, rfl, cR _ _ _ rfl rfl rfl, wf.ext_set kK.ext (Aa _) _⟩
   cases b with
   | false =>
    have e : ulV s = (act0, 4) := by rw [hul, Ac fun g => by rw [← hb] at g; cases g.1]
    repeat (first | refine W.w ?_ | refine aK rfl rfl ?_ | refine aE rfl ?_ | refine aJ rfl (qaq (vs := actC actV0 act0) rfl rfl rfl rfl kK.g4 rfl ?_) | (refine zz rfl ?_; first | refine qae rfl ?_ | refine qad rfl ?_ | refine qag (v := .bool _) rfl rfl ?_ | refine qay (out := actC actV0 act0) rfl rfl ?_ | refine qaF rfl ?_))
    exact ⟨_, aV rfl rfl rfl (aF _ _ _) (Aa _), no e _ rfl⟩
   | true =>
    replace ha := ha rfl
    rw [← hb, ← ha] at hul
    cases hm : mayAct 5 5 a with
    | false =>
     rw [hm] at cm
     have e : ulV s = (act0, 4) := by rw [hul, Ac fun g => by rw [hm] at g; cases g.2.1]
     repeat (first | refine W.w ?_ | refine aK rfl rfl ?_ | refine aE rfl ?_ | refine aJ rfl (qaq (vs := actC actV0 act0) rfl rfl rfl rfl kK.g4 rfl ?_) | (refine zz rfl ?_; first | refine qae rfl ?_ | refine qad rfl ?_ | refine qag (v := .bool _) rfl rfl ?_ | refine qam (sz := 33) rfl rfl kK.g6 (Aa _) ?_ | refine qab rfl rfl cm ?_ | refine qay (out := actC actV0 act0) rfl rfl ?_ | refine qaF rfl ?_))
     exact ⟨_, aV rfl rfl rfl (aF _ _ _) (Aa _), no e _ rfl⟩
    | true =>
     rw [hm] at cm
     have cl := rLine_c q a G tG ar hm
     by_cases hls : lineM a = s
     ·
      have e : ulV s = (a, 0) := by rw [hul, Ah ⟨rfl, hm, hls⟩]
      repeat (first | refine W.w ?_ | refine aG rfl ?_ | refine aJ rfl (qaq (vs := actC q a) rfl rfl rfl (qaO ar) kK.g4 rfl ?_) | (refine zz rfl ?_; first | refine qae rfl ?_ | refine qaj rfl ?_ | refine qad rfl ?_ | refine qag (v := .bool _) rfl rfl ?_ | refine qam (sz := 33) rfl rfl kK.g6 (Aa _) ?_ | refine qab rfl rfl cm ?_ | refine qab rfl rfl cl ?_ | refine qbi rfl rfl hls ?_ | refine qaF rfl ?_))
      refine ⟨_, aV rfl rfl rfl (aF _ _ _) (Aa _), ?_⟩
      rw [e]
      exact ⟨q, rfl, kK.o.put kK.g4 nea_u8 qcZ, wf.ext_set kK.ext (Aa _) _⟩
     ·
      have e : ulV s = (act0, 4) := by rw [hul, Ac fun g => hls g.2.2]
      repeat (first | refine W.w ?_ | refine aE rfl ?_ | refine aJ rfl (qaq (vs := actC actV0 act0) rfl rfl rfl rfl kK.g4 rfl ?_) | (refine zz rfl ?_; first | refine qae rfl ?_ | refine qaj rfl ?_ | refine qad rfl ?_ | refine qag (v := .bool _) rfl rfl ?_ | refine qam (sz := 33) rfl rfl kK.g6 (Aa _) ?_ | refine qab rfl rfl cm ?_ | refine qab rfl rfl cl ?_ | refine qbg rfl rfl hls ?_ | refine qay (out := actC actV0 act0) rfl rfl ?_ | refine qaF rfl ?_))
      exact ⟨_, aV rfl rfl rfl (aF _ _ _) (Aa _), no e _ rfl⟩
instance i_rfirst : FnC prog 109 := ⟨Tryz.f109, func109, by kernel_rfl, by kernel_rfl⟩
instance i_runfirst : FnC prog 63 := ⟨Tryz.f63, func63, by kernel_rfl, by kernel_rfl⟩
instance i_rungroup : FnC prog 110 := ⟨Tryz.f110, func110, by kernel_rfl, by kernel_rfl⟩
def SetI (x : SetM) : Prop := I64 x.nodes ∧ I64 x.disk ∧ I64 x.memory ∧ I64 x.level
theorem qf0 (x : SetM) (vg : Value) (hx : SetI x) (h : Heap) (t : Tabs h) : ACalls prog 109 [.agg (setC vg x).toArray] h fun u h' => u = str (firstL x) ∧ h' = h := by
 obtain ⟨i1, i2, i3, i4⟩ := hx
 refine aL fun wf => aO ?_
 refine aD func109 rfl rfl ?_
 repeat (first | refine W.w ?_ | refine zz rfl (qah rfl ?_) | refine zz rfl (qaS rfl (by intro e; cases e) ?_))
 generalize hH : h.alloc _ = H
 have hg : H.get h.next = some ⟨setC vg x, 24, true⟩ := hH ▸ aB _ _
 have xh : Ext h H := hH ▸ wf.ext _
 have wfH : WF H := hH ▸ wf.alloc _
 clear hH
 repeat (first | (refine zz rfl ?_; first | refine qan rfl ?_ | refine qaf rfl rfl hg rfl ?_ | refine qaN (iv64 [x.nodes, x.disk, x.memory, x.level]) rfl rfl rfl rfl (qbD _) ?_))
 obtain ⟨H1, hQ, gr, xr, _, _⟩ := aq wfH ⟨iv64 [x.nodes, x.disk, x.memory, x.level], 3, true⟩
 rw [hQ]
 have cN := N_c wSetup (.slice (some ⟨H.next, 0, some 1⟩) 4 4) [x.nodes, x.disk, x.memory, x.level] H1 (bK gr rfl) (by intro n hn; simp only [Ak, As, or_false] at hn; rcases hn with rfl | rfl | rfl | rfl <;> assumption) (by show 5 + 22 * 4 ≤ 140737488351232; omega) (t.ext (xh.trans xr))
 repeat (first | refine W.w ?_ | refine zz rfl (qah rfl ?_) | refine zz rfl (qab rfl rfl cN ?_))
 refine ⟨_, aC rfl, rfl, xh.trans xr, ?_, rfl⟩
 unfold firstL
 rw [qaQ]
 rfl
theorem numR_range (s : Bytes) : -1 ≤ numR s ∧ numR s ≤ 2147483647 := by
 by_cases h : 0 ≤ numR s
 ·
  have := (qg2 h).2
  omega
 ·
  refine ⟨?_, by omega⟩
  unfold numR
  repeat' split
  all_goals omega
theorem qdS (s : Bytes) : I64 (numR s) := by have := numR_range s; exact ⟨by omega, by omega⟩
theorem runfirst_c (s : Bytes) (h : Heap) (t : Tabs h) (hl : s.length ≤ 100000000) : ACalls prog 63 [str s] h fun u h' => u = .tuple #[.agg (setC nilS (firstR s).1).toArray, .bool (firstR s).2] ∧ Ext h h' := by
 refine aL fun wf => ?_
 refine aD func63 rfl rfl ?_
 obtain ⟨wl1, wl2⟩ := qcx s
 repeat (first | refine W.w ?_)
 refine zz rfl (qax ?_)
 refine aS (h := h.alloc (setB set0)) rfl ?_
 obtain ⟨H1, hQ, g4, x4, w4, n4⟩ := aq wf (setB set0)
 rw [hQ]
 repeat (first | refine W.w ?_ | refine zz rfl (qaj rfl ?_) | refine zz rfl (qaa rfl ?_))
 refine zz rfl (qat (evs := [str s]) rfl rfl ((qfC s H1 (by omega)).mono ?_))
 intro v H2 gw
 have rA : RW H1.next H2 v (wordsS s) := ⟨gw.os, by omega, fun w hw => by have := wl2 w hw; omega⟩
 have x5 := x4.trans gw.ext
 have w5 := gw.wf
 have n5 := gw.nx
 have g5 := gw.ext.c _ _ g4
 clear gw
 have hfr : firstR s = (match wordsS s with
  | [w, a, b, c, d] => if w = wSetup then ((⟨numR a, [], numR b, numR c, numR d⟩ : SetM), sizesM ⟨numR a, [], numR b, numR c, numR d⟩ && decide (firstL ⟨numR a, [], numR b, numR c, numR d⟩ = s)) else (set0, false)
  | _ => (set0, false)) := rfl
 generalize wordsS s = ws at rA hfr wl1 wl2 ⊢
 have rs := rA.os.rs
 obtain ⟨va, vc, hv⟩ := bC rs
 have hml : (ws.map str).length = ws.length := Ap _
 by_cases h5 : ws.length = 5
 ·
  obtain ⟨w, a, b, c, d, rfl⟩ : ∃ w a b c d, ws = [w, a, b, c, d] := by
   match ws, h5 with
   | [w, a, b, c, d], _ => exact ⟨w, a, b, c, d, rfl⟩
  have k0 : ([w, a, b, c, d].map str)[(0 : Int).toNat]? = some (str w) := rfl
  have k1 : ([w, a, b, c, d].map str)[(1 : Int).toNat]? = some (str a) := rfl
  have k2 : ([w, a, b, c, d].map str)[(2 : Int).toNat]? = some (str b) := rfl
  have k3 : ([w, a, b, c, d].map str)[(3 : Int).toNat]? = some (str c) := rfl
  have k4 : ([w, a, b, c, d].map str)[(4 : Int).toNat]? = some (str d) := rfl
  by_cases hw : w = wSetup
  ·
   obtain ⟨x, hx⟩ : ∃ x : SetM, x = ⟨numR a, [], numR b, numR c, numR d⟩ := ⟨_, rfl⟩
   simp only [Ah hw] at hfr
   rw [← hx] at hfr
   have hSI : SetI x := by rw [hx]; exact ⟨qdS _, qdS _, qdS _, qdS _⟩
   have t2 := t.ext x5
   have ca := fun (h' : Heap) (hx : Ext H2 h') => qfx a h' (by have := wl2 a (by simp); omega) (t2.ext hx)
   have cb := fun (h' : Heap) (hx : Ext H2 h') => qfx b h' (by have := wl2 b (by simp); omega) (t2.ext hx)
   have cc := fun (h' : Heap) (hx : Ext H2 h') => qfx c h' (by have := wl2 c (by simp); omega) (t2.ext hx)
   have cd := fun (h' : Heap) (hx : Ext H2 h') => qfx d h' (by have := wl2 d (by simp); omega) (t2.ext hx)
   repeat (first | refine W.w ?_ | refine aG rfl ?_ | (refine zz rfl ?_; first | refine qae rfl ?_ | refine qao (v := v) rfl ?_ | refine qal (v := v) rfl ?_ | refine qaz rs rfl ?_ | refine qai rfl rfl rfl (by omega) ?_ | refine qag (v := .bool _) rfl rfl ?_ | refine qas rs rfl rfl (by omega) k0 fun _ => ?_ | refine qar (bL rs k0) rfl rfl ?_ | refine qbi rfl rfl hw ?_))
   refine cD (t := OT.seq [(0, .R), (1, .R), (2, .R), (3, .R), (4, .R), (5, .R), (6, .R), (7, .R), (8, .R), (9, .R), (10, .R), (11, .R), (12, .R), (13, .R), (14, .R), (15, .R), (16, .R), (17, .X), (18, .W)] .nil) mixed (by kernel_rfl) ?_
   repeat (first | refine tr rfl rfl (fun _ hx _ => qal (v := v) rfl ⟨rfl, rfl⟩) ?_ | refine tr rfl rfl (fun _ hx _ => qas (rs.ext hx) rfl rfl (by omega) k1 fun _ => ⟨rfl, rfl⟩) ?_ | refine tr rfl rfl (fun _ hx _ => qas (rs.ext hx) rfl rfl (by omega) k2 fun _ => ⟨rfl, rfl⟩) ?_ | refine tr rfl rfl (fun _ hx _ => qas (rs.ext hx) rfl rfl (by omega) k3 fun _ => ⟨rfl, rfl⟩) ?_ | refine tr rfl rfl (fun _ hx _ => qas (rs.ext hx) rfl rfl (by omega) k4 fun _ => ⟨rfl, rfl⟩) ?_ | refine tr rfl rfl (fun _ hx _ => qar (bL (rs.ext hx) k1) rfl rfl ⟨rfl, rfl⟩) ?_ | refine tr rfl rfl (fun _ hx _ => qar (bL (rs.ext hx) k2) rfl rfl ⟨rfl, rfl⟩) ?_ | refine tr rfl rfl (fun _ hx _ => qar (bL (rs.ext hx) k3) rfl rfl ⟨rfl, rfl⟩) ?_ | refine tr rfl rfl (fun _ hx _ => qar (bL (rs.ext hx) k4) rfl rfl ⟨rfl, rfl⟩) ?_ | refine tr rfl rfl (fun h' hx _ => qab rfl rfl (ca h' hx) ⟨rfl, rfl⟩) ?_ | refine tr rfl rfl (fun h' hx _ => qab rfl rfl (cb h' hx) ⟨rfl, rfl⟩) ?_ | refine tr rfl rfl (fun h' hx _ => qab rfl rfl (cc h' hx) ⟨rfl, rfl⟩) ?_ | refine tr rfl rfl (fun h' hx _ => qab rfl rfl (cd h' hx) ⟨rfl, rfl⟩) ?_ | refine tr rfl rfl (fun _ hx _ => qay (out := setC nilS ⟨numR a, [], numR b, numR c, numR d⟩) rfl rfl ⟨rfl, rfl⟩) ?_)
   rw [← hx]
   refine cW rfl rfl rfl (qax ⟨w5.ext _, ?_⟩)
   refine dG rfl rfl (qaL (vs := setC nilS x) rfl rfl rfl rfl rfl ?_)
   refine bD ?_
   have g6 := aB H2 (setB x)
   have x6 := w5.ext (setB x)
   have w6 := w5.alloc (setB x)
   have g56 := x6.c _ _ g5
   have xx := x5.trans x6
   have t6 := t2.ext x6
   generalize hj : H2.next = j6 at g6 ⊢
   refine cX (h := H2.alloc (setB x)) rfl ?_
   generalize H2.alloc (setB x) = H3 at g6 x6 w6 g56 xx t6 ⊢
   refine aR ?_
   have cs := fun h' => qfG x nilS h'
   cases hs : sizesM x with
   | false =>
    rw [hs] at cs hfr
    refine cD (t := OT.seq [(0, .R), (1, .R), (2, .R), (3, .R), (4, .R), (5, .R), (6, .P), (7, .P), (8, .P), (9, .W), (10, .R)] .nil) mixed (by kernel_rfl) ?_
    repeat (first | refine tr rfl rfl (fun _ hx _ => qae rfl ⟨rfl, rfl⟩) ?_ | refine tr rfl rfl (fun _ hx _ => qam (sz := 5) rfl rfl (hx.c _ _ g6) (Aa _) ⟨rfl, rfl⟩) ?_ | refine tr rfl rfl (fun h' hx _ => qab rfl rfl (cs h') ⟨rfl, rfl⟩) ?_ | refine tp rfl rfl (fun h' hn => qag (v := .bool _) rfl rfl ⟨rfl, rfl⟩) ?_ | refine cY rfl rfl rfl ?_)
    refine dG rfl rfl (qaq (vs := setC nilS x) rfl rfl rfl rfl g56 rfl ?_)
    repeat (first | refine tr rfl rfl (fun _ hx _ => qaa rfl ⟨rfl, rfl⟩) ?_)
    refine bD ?_
    repeat (first | refine aM ?_)
    exact ⟨_, aV rfl rfl rfl (aF _ _ _) (Aa _), by rw [hfr]; rfl, wf.ext_set xx (Aa _) _⟩
   | true =>
    rw [hs] at cs hfr
    have cf := fun (h' : Heap) (hx' : Ext H3 h') => qf0 x nilS hSI h' (t6.ext hx')
    by_cases he : firstL x = s
    ·
     refine cD (t := OT.seq [(0, .R), (1, .R), (2, .R), (3, .R), (4, .R), (5, .R), (6, .P), (7, .P), (8, .P), (9, .W), (10, .R)] .nil) mixed (by kernel_rfl) ?_
     repeat (first | refine tr rfl rfl (fun _ hx _ => qae rfl ⟨rfl, rfl⟩) ?_ | refine tr rfl rfl (fun _ hx _ => qam (sz := 5) rfl rfl (hx.c _ _ g6) (Aa _) ⟨rfl, rfl⟩) ?_ | refine tr rfl rfl (fun h' hx _ => qab rfl rfl (cs h') ⟨rfl, rfl⟩) ?_ | refine tr rfl rfl (fun h' hx _ => qab rfl rfl (cf h' hx) ⟨rfl, rfl⟩) ?_ | refine tp rfl rfl (fun h' hn => qaj rfl ⟨rfl, rfl⟩) ?_ | refine tp rfl rfl (fun h' hn => qaP rfl rfl he ⟨rfl, rfl⟩) ?_ | refine tp rfl rfl (fun h' hn => qag (v := .bool _) rfl rfl ⟨rfl, rfl⟩) ?_)
     refine dG rfl rfl (qaq (vs := setC nilS x) rfl rfl rfl rfl g56 rfl ?_)
     repeat (first | refine tr rfl rfl (fun _ hx _ => qaa rfl ⟨rfl, rfl⟩) ?_)
     refine bD ?_
     repeat (first | refine aM ?_)
     exact ⟨_, aV rfl rfl rfl (aF _ _ _) (Aa _), by rw [hfr, Al he]; rfl, wf.ext_set xx (Aa _) _⟩
    ·
     refine cD (t := OT.seq [(0, .R), (1, .R), (2, .R), (3, .R), (4, .R), (5, .R), (6, .P), (7, .P), (8, .P), (9, .W), (10, .R)] .nil) mixed (by kernel_rfl) ?_
     repeat (first | refine tr rfl rfl (fun _ hx _ => qae rfl ⟨rfl, rfl⟩) ?_ | refine tr rfl rfl (fun _ hx _ => qam (sz := 5) rfl rfl (hx.c _ _ g6) (Aa _) ⟨rfl, rfl⟩) ?_ | refine tr rfl rfl (fun h' hx _ => qab rfl rfl (cs h') ⟨rfl, rfl⟩) ?_ | refine tr rfl rfl (fun h' hx _ => qab rfl rfl (cf h' hx) ⟨rfl, rfl⟩) ?_ | refine tp rfl rfl (fun h' hn => qaj rfl ⟨rfl, rfl⟩) ?_ | refine tp rfl rfl (fun h' hn => qaM rfl rfl he ⟨rfl, rfl⟩) ?_ | refine tp rfl rfl (fun h' hn => qag (v := .bool _) rfl rfl ⟨rfl, rfl⟩) ?_)
     refine dG rfl rfl (qaq (vs := setC nilS x) rfl rfl rfl rfl g56 rfl ?_)
     repeat (first | refine tr rfl rfl (fun _ hx _ => qaa rfl ⟨rfl, rfl⟩) ?_)
     refine bD ?_
     repeat (first | refine aM ?_)
     exact ⟨_, aV rfl rfl rfl (aF _ _ _) (Aa _), by rw [hfr, Af he]; rfl, wf.ext_set xx (Aa _) _⟩
  ·
   simp only [Ac hw] at hfr
   repeat (first | refine W.w ?_ | refine aE rfl ?_ | refine aJ rfl (qaq (vs := setC nilS set0) rfl rfl rfl rfl g5 rfl ?_) | (refine zz rfl ?_; first | refine qae rfl ?_ | refine qaa rfl ?_ | refine qao (v := v) rfl ?_ | refine qal (v := v) rfl ?_ | refine qaz rs rfl ?_ | refine qai rfl rfl rfl (by omega) ?_ | refine qag (v := .bool _) rfl rfl ?_ | refine qas rs rfl rfl (by omega) k0 fun _ => ?_ | refine qar (bL rs k0) rfl rfl ?_ | refine qbg rfl rfl hw ?_ | refine qay (out := setC nilS set0) rfl rfl ?_))
   exact ⟨_, aV rfl rfl rfl (aF _ _ _) (Aa _), by rw [hfr]; rfl, wf.ext_set x5 (Aa _) _⟩
 ·
  have hf0 : firstR s = (set0, false) := by
   rw [hfr]
   split
   ·
    exact absurd rfl h5
   ·
    rfl
  repeat (first | refine W.w ?_ | refine aK rfl rfl ?_ | refine aE rfl ?_ | refine aJ rfl (qaq (vs := setC nilS set0) rfl rfl rfl rfl g5 rfl ?_) | (refine zz rfl ?_; first | refine qae rfl ?_ | refine qaa rfl ?_ | refine qao (v := v) rfl ?_ | refine qal (v := v) rfl ?_ | refine qaz rs rfl ?_ | refine qak rfl rfl rfl (by omega) ?_ | refine qag (v := .bool _) rfl rfl ?_ | refine qay (out := setC nilS set0) rfl rfl ?_))
  exact ⟨_, aV rfl rfl rfl (aF _ _ _) (Aa _), by rw [hf0]; rfl, wf.ext_set x5 (Aa _) _⟩
theorem rungroup_c (s : Bytes) (h : Heap) (t : Tabs h) (hl : s.length ≤ 100000000) : ACalls prog 110 [str s] h fun u h' => ∃ v, u = .tuple #[v, .bool (ungroupR s).2] ∧ OS h.next h' 3 v (iv64 (ungroupR s).1) ∧ Ext h h' := by
 refine aL fun wf => ?_
 refine aD func110 rfl rfl ?_
 obtain ⟨wl1, wl2⟩ := qcx s
 obtain ⟨w0, wr0, hw0⟩ : ∃ w0 r, wordsS s = w0 :: r := by
  cases hq : wordsS s with
  | nil => exact absurd hq (qc1 s)
  | cons x l => exact ⟨x, l, rfl⟩
 repeat (first | refine W.w ?_ | (refine zz rfl ?_; first | refine qaj rfl ?_ | refine qaR rfl ?_ | refine qaa rfl ?_))
 refine zz rfl (qat (evs := [str s]) rfl rfl ((qfC s h (by omega)).mono ?_))
 intro v H2 gw
 have rA : RW h.next H2 v (wordsS s) := ⟨gw.os, by omega, fun w hw => by have := wl2 w hw; omega⟩
 have x5 := gw.ext
 have w5 := gw.wf
 have n5 := gw.nx
 clear gw
 have hur : ungroupR s = if (wordsS s).head? = some wGroup ∧ 2 ≤ (wordsS s).length ∧ (wordsS s).length ≤ 4 then (((wordsS s).drop 1).map numR, mayGroup 5 (((wordsS s).drop 1).map numR)) else ([], false) := rfl
 rw [hw0] at rA hur wl1 wl2
 have rs := rA.os.rs
 obtain ⟨va, vc, hv⟩ := bC rs
 have hml : ((w0 :: wr0).map str).length = wr0.length + 1 := by simp
 have k0 : ((w0 :: wr0).map str)[(0 : Int).toNat]? = some (str w0) := rfl
 have no : ungroupR s = ([], false) → ∃ v, Value.tuple #[.slice none 0 0, .bool false] = .tuple #[v, .bool (ungroupR s).2] ∧ OS h.next H2 3 v (iv64 (ungroupR s).1) ∧ Ext h H2 := fun e => ⟨.slice none 0 0, by rw [e], by rw [e]; exact bP _ _ _, x5⟩
 by_cases hg : w0 = wGroup
 ·
  by_cases hc : 2 ≤ wr0.length + 1 ∧ wr0.length + 1 ≤ 4
  ·
   have hur2 : ungroupR s = (wr0.map numR, mayGroup 5 (wr0.map numR)) := by rw [hur, Ah ⟨by rw [hg]; rfl, hc⟩]; rfl
   repeat (first | refine W.w ?_ | refine aG rfl ?_ | (refine zz rfl ?_; first | refine qae rfl ?_ | refine qad rfl ?_ | refine qaR rfl ?_ | refine qao (v := v) rfl ?_ | refine qal (v := v) rfl ?_ | refine qaz rs rfl ?_ | refine qai rfl rfl rfl (by omega) ?_ | refine qag (v := .bool _) rfl rfl ?_ | refine qas rs rfl rfl (by omega) k0 fun _ => ?_ | refine qar (bL rs k0) rfl rfl ?_ | refine qbi rfl rfl hg ?_))
   refine bB (α := Nat × Heap × Value) (fun d => [(4, v), (5, d.2.2), (6, .int .i64 ((1 + d.1 : Nat) : Int))]) (fun d => d.2.1) (fun d => d.1 ≤ wr0.length ∧ Gr H2 3 (iv64 ((wr0.take d.1).map numR)) d.2.1 d.2.2) (fun d => wr0.length - d.1) (0, H2, .slice none 0 0) ⟨Ao _, Gr.nil w5 _⟩
    (aI (aA rfl (aA rfl (aA rfl aN)))) ?_
   rintro ⟨k, H, u⟩ ⟨hk, gg⟩
   replace hk : k ≤ wr0.length := hk
   replace gg : Gr H2 3 (iv64 ((wr0.take k).map numR)) H u := gg
   show AWp _ _ _ _ [(4, v), (5, u), (6, .int .i64 ((1 + k : Nat) : Int))] H
   obtain ⟨ua, uc, hu⟩ := bC gg.os.rs
   have rsH := rs.ext gg.ext
   by_cases hlt : k < wr0.length
   ·
    obtain ⟨w, hw⟩ := gX (l := wr0) (k := k) hlt
    have hw2 : ((w0 :: wr0).map str)[((1 + k : Nat) : Int).toNat]? = some (str w) := by
     show ((w0 :: wr0).map str)[1 + k]? = _
     rw [Bm, Ei, Di, hw]
     rfl
    have cn := qfx w H (by have := wl2 w (Ay _ (Aw hw)); omega) (t.ext (x5.trans gg.ext))
    have hlen : ((wr0.take k).map numR).length = k := by rw [Ap, Bb]; omega
    repeat (first | refine W.w ?_ | refine aE rfl ?_ | (refine zz rfl ?_; first | refine qac rfl ?_ | refine qal (v := v) rfl ?_ | refine qal (v := u) rfl ?_ | refine qaz rsH rfl ?_ | refine qak rfl rfl rfl (by omega) ?_ | refine qas rsH rfl rfl (by omega) hw2 fun _ => ?_ | refine qar (bL rsH hw2) rfl rfl ?_ | refine qab rfl rfl cn ?_ | refine qaN [.int .i64 (numR w)] rfl rfl rfl rfl (qbD [numR w]) ?_))
    generalize hnw : numR w = nw
    obtain ⟨H3, hQ, gr, xr, wr, _⟩ := aq gg.wf ⟨[.int .i64 nw], 3, true⟩
    rw [hQ]
    have rb : RS H3 (.slice (some ⟨H.next, 0, some 1⟩) 1 1) [.int .i64 nw] := bK gr rfl
    have n3 := wr.lt gr
    have g3 := gg.more xr wr (by omega)
    refine zz rfl (qaX (by_ := 8) (z := .int .i64 0) (B := H2.next) (e := 3) rfl wr g3.nx g3.os rfl rfl rb.src rfl rfl (by rw [Ap]; simp only [maxLen, Ad, Ag]; omega) (by rw [Ap]; simp only [Ad, Ag]; omega) ?_)
    intro u' H4 o4 k4 wf4 n4
    have g4 : Gr H2 3 _ H4 u' := ⟨o4, k4.ext g3.os w5 (Aa _) g3.ext, wf4, Bi g3.nx n4⟩
    have hst : iv64 ((wr0.take (k + 1)).map numR) = iv64 ((wr0.take k).map numR) ++ [.int .i64 nw] := by
     rw [Bf, hw, Cx, ← hnw]
     simp
    repeat (first | refine W.w ?_ | (refine zz rfl ?_; first | refine qac rfl ?_ | refine qad rfl ?_ | refine qao (v := u') rfl ?_ | refine qau rfl rfl (by omega) ?_))
    refine ⟨(k + 1, H4, u'), ⟨hlt, by show Gr H2 _ (iv64 ((wr0.take (k + 1)).map numR)) H4 u'; rw [hst]; exact g4⟩, by show wr0.length - (k + 1) < wr0.length - k; omega, aI (aA rfl (aA rfl (aA (congrArg (Value.int .i64) (by show ((1 + k : Nat) : Int) + 1 = ((1 + (k + 1) : Nat) : Int); omega)) aN)))⟩
   ·
    obtain rfl : k = wr0.length := by omega
    rw [Au] at gg
    have rg : RS H u (iv64 (wr0.map numR)) := gg.os.rs
    have cm := qcQ { set0 with nodes := 5 } nilS u (wr0.map numR) H rg (by rw [Ap]; omega)
    repeat (first | refine aW ?_ | refine aR ?_ | refine aY ?_ | refine aG rfl ?_ | refine aM ?_ | refine aP ?_ | (refine zz rfl ?_; first | refine qac rfl ?_ | refine qaa rfl ?_ | refine qal (v := v) rfl ?_ | refine qal (v := u) rfl ?_ | refine qaz rsH rfl ?_ | refine qai rfl rfl rfl (by omega) ?_ | refine qay (out := setC nilS { set0 with nodes := 5 }) rfl rfl ?_ | refine qab rfl rfl cm ?_ | refine qao (v := u) rfl ?_))
    exact ⟨_, bG rfl, u, by rw [hur2]; rfl, by rw [hur2]; exact cF gg.os n5, x5.trans gg.ext⟩
  ·
   have hno : ungroupR s = ([], false) := by rw [hur, Ac fun e => hc ⟨e.2.1, e.2.2⟩]
   by_cases hc2 : wr0.length + 1 < 2
   ·
    repeat (first | refine W.w ?_ | refine aK rfl rfl ?_ | refine aE rfl ?_ | (refine zz rfl ?_; first | refine qae rfl ?_ | refine qaR rfl ?_ | refine qaa rfl ?_ | refine qao (v := v) rfl ?_ | refine qal (v := v) rfl ?_ | refine qaz rs rfl ?_ | refine qak rfl rfl rfl (by omega) ?_ | refine qag (v := .bool _) rfl rfl ?_ | refine qas rs rfl rfl (by omega) k0 fun _ => ?_ | refine qar (bL rs k0) rfl rfl ?_ | refine qbi rfl rfl hg ?_))
    exact ⟨_, bG rfl, no hno⟩
   ·
    repeat (first | refine W.w ?_ | refine aE rfl ?_ | (refine zz rfl ?_; first | refine qae rfl ?_ | refine qaR rfl ?_ | refine qaa rfl ?_ | refine qao (v := v) rfl ?_ | refine qal (v := v) rfl ?_ | refine qaz rs rfl ?_ | refine qak rfl rfl rfl (by omega) ?_ | refine qai rfl rfl rfl (by omega) ?_ | refine qag (v := .bool _) rfl rfl ?_ | refine qas rs rfl rfl (by omega) k0 fun _ => ?_ | refine qar (bL rs k0) rfl rfl ?_ | refine qbi rfl rfl hg ?_))
    exact ⟨_, bG rfl, no hno⟩
 ·
  have hno : ungroupR s = ([], false) := by rw [hur, Ac fun e => hg (by have := e.1; simpa using this)]
  repeat (first | refine W.w ?_ | refine aK rfl rfl ?_ | refine aE rfl ?_ | (refine zz rfl ?_; first | refine qae rfl ?_ | refine qaR rfl ?_ | refine qaa rfl ?_ | refine qao (v := v) rfl ?_ | refine qal (v := v) rfl ?_ | refine qag (v := .bool _) rfl rfl ?_ | refine qas rs rfl rfl (by omega) k0 fun _ => ?_ | refine qar (bL rs k0) rfl rfl ?_ | refine qbg rfl rfl hg ?_))
  exact ⟨_, bG rfl, no hno⟩
end Go.Proofs.YtigmojilaadbhaaGreatDoor
/- . -/
namespace Go.Pln
open Go Go.Lib
def In64 (n : Int) : Prop := -9223372036854775808 ≤ n ∧ n ≤ 9223372036854775807
structure SetJ (x : SetM) : Prop where
 n : In64 x.nodes
 d : In64 x.disk
 m : In64 x.memory
 l : In64 x.level
 g : ∀ l ∈ x.groups, (∀ n ∈ l, In64 n) ∧ l.length ≤ 100000000000
theorem qgb : ∀ {a b : List Int}, (∀ n ∈ a, In64 n) → (∀ n ∈ b, In64 n) → a.map itoa = b.map itoa → a = b
 | [], [], _, _, _ => rfl
 | [], _ :: _, _, _, h => by cases h
 | _ :: _, [], _, _, h => by cases h
 | x :: a, y :: b, ha, hb, h => by
  simp only [Bq, List.cons.injEq] at h
  rw [qda (ha x Bl) (hb y Bl) h.1, qgb (fun n hn => ha n (Ay _ hn)) (fun n hn => hb n (Ay _ hn)) h.2]
theorem groupL_inj {a b : List Int} (ha : ∀ n ∈ a, In64 n) (hb : ∀ n ∈ b, In64 n) (h : groupL a = groupL b) : a = b := by
 have e := congrArg wordsS h
 rw [qb9, qb9, List.cons.injEq] at e
 exact qgb ha hb e.2
theorem firstL_inj {a b : SetM} (ha : SetJ a) (hb : SetJ b) (h : firstL a = firstL b) : a.nodes = b.nodes ∧ a.disk = b.disk ∧ a.memory = b.memory ∧ a.level = b.level := by
 have e := congrArg wordsS h
 rw [qcL, qcL] at e
 simp only [List.cons.injEq, and_true, true_and] at e
 exact ⟨qda ha.n hb.n e.1, qda ha.d hb.d e.2.1, qda ha.m hb.m e.2.2.1, qda ha.l hb.l e.2.2.2⟩
theorem set_ext {a b : SetM} (h : firstL a = firstL b) (ha : SetJ a) (hb : SetJ b) (hg : a.groups = b.groups) : a = b := by
 obtain ⟨h1, h2, h3, h4⟩ := firstL_inj ha hb h
 cases a; cases b
 simp only at h1 h2 h3 h4 hg
 subst h1 h2 h3 h4 hg
 rfl
theorem qgY {α : Type} {l m : List α} {k : Nat} {x y : α} (h : l.take k = m.take k) (hx : l[k]? = some x) (hy : m[k]? = some y) (e : x = y) : l.take (k + 1) = m.take (k + 1) := by
 rw [Bf, Bf, hx, hy, h, e]
end Go.Pln
