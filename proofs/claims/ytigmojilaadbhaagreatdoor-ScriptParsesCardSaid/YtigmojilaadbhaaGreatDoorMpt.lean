/-
  Texts of one claim, merged: 3 parts.
-/
import Derived.Test.YtigmojilaadbhaaGreatDoorMps
import Derived.Test.YtigmojilaadbhaaGreatDoorMpq
import Derived.Test.YtigmojilaadbhaaGreatDoorMpp
set_option maxHeartbeats 16000000
/- . -/
namespace Go.Proofs.YtigmojilaadbhaaGreatDoor
open Go Go.Eng Go.Pln Go.Lib Go.Proofs.Tryz
attribute [local irreducible] AWp AL DAL AOp TAL
instance i_rwordI : FnC prog 106 := ⟨Tryz.f106, func106, by kernel_rfl, by kernel_rfl⟩
instance i_rnumI : FnC prog 56 := ⟨Tryz.f56, func56, by kernel_rfl, by kernel_rfl⟩
instance i_runask : FnC prog 58 := ⟨Tryz.f58, func58, by kernel_rfl, by kernel_rfl⟩
instance i_rplanI : FnC prog 57 := ⟨Tryz.f57, func57, by kernel_rfl, by kernel_rfl⟩
structure RW (B : Nat) (h : Heap) (v : Value) (ws : List Bytes) : Prop where
 os : OS B h 9 v (ws.map str)
 len : ws.length ≤ 1000000000
 all : ∀ w ∈ ws, w.length ≤ 100000000
theorem RW.ext {B : Nat} {h h' : Heap} {v : Value} {ws : List Bytes} (r : RW B h v ws) (hx : Ext h h') : RW B h' v ws := ⟨r.os.ext hx, r.len, r.all⟩
theorem RW.put {B : Nat} {h : Heap} {v : Value} {ws : List Bytes} {j : Nat} {x : Blk} (r : RW B h v ws) (hb : h.get j = some x) (hx : x.elem ≠ 9) (b : Blk) : RW B (h.set j b) v ws := ⟨cL r.os hb hx b, r.len, r.all⟩
def WiOk (B : Nat) (ws : List Bytes) (i : Nat) (u : Value) (h' : Heap) : Prop := ∃ v b, u = .tuple #[v, .bool (wordI ws i).isSome] ∧ OS B h' 5 v (bv b) ∧ ((wordI ws i).isSome = true → wordI ws i = some b)
theorem qcg (B : Nat) (v : Value) (ws : List Bytes) (i : Nat) (a : Int) (ha : a = (i : Nat)) (h : Heap) (r : RW B h v ws) : ACalls prog 106 [v, .int .i64 a] h fun u h' => WiOk h.next ws i u h' ∧ Ext h h' := by
 subst ha
 refine aL fun wf => ?_
 refine aD func106 rfl rfl ?_
 have rs := r.os.rs
 obtain ⟨va, vc, hv⟩ := bC rs
 have hml : (ws.map str).length = ws.length := Ap _
 have hl := r.len
 by_cases hi : i < ws.length
 ·
  obtain ⟨w, hw⟩ := gX (l := ws) (k := i) hi
  have hw2 : (ws.map str)[((i : Nat) : Int).toNat]? = some (str w) := by
   show (ws.map str)[i]? = _
   rw [Bm, hw]
   rfl
  have cu := runword_c w h (r.all w (Aw hw))
  have hwi : wordI ws i = unwordR w := by unfold wordI; rw [hw]
  repeat (first | refine W.w ?_ | refine aG rfl ?_ | (refine zz rfl ?_; first | refine qac rfl ?_ | refine qaR rfl ?_ | refine qaa rfl ?_ | refine qal (v := v) rfl ?_ | refine qaz rs rfl ?_ | refine qai rfl rfl rfl (by omega) ?_ | refine qas rs rfl rfl (by omega) hw2 fun _ => ?_ | refine qar (bL rs hw2) rfl rfl ?_))
  refine zz rfl (qat (evs := [str w]) rfl rfl (cu.mono ?_))
  rintro _ H1 ⟨x, b, rfl, o, _, xx, hs⟩
  repeat (first | refine W.w ?_ | (refine zz rfl ?_; first | refine qaa rfl ?_ | refine qav rfl rfl ?_ | refine qao (v := x) rfl ?_))
  rw [← hwi] at hs
  exact ⟨_, bG rfl, ⟨x, b, by rw [hwi]; rfl, o, hs⟩, xx⟩
 ·
  have hwi : wordI ws i = none := by unfold wordI; rw [Cc (by omega)]
  repeat (first | refine W.w ?_ | refine aE rfl ?_ | (refine zz rfl ?_; first | refine qac rfl ?_ | refine qaR rfl ?_ | refine qaa rfl ?_ | refine qal (v := v) rfl ?_ | refine qaz rs rfl ?_ | refine qak rfl rfl rfl (by omega) ?_))
  exact ⟨_, bG rfl, ⟨.slice none 0 0, [], by rw [hwi]; rfl, bP _ _ _, fun q => by rw [hwi] at q; cases q⟩, aU h⟩
theorem qdp (B : Nat) (v : Value) (ws : List Bytes) (i : Nat) (a : Int) (ha : a = (i : Nat)) (h : Heap) (r : RW B h v ws) (t : Tabs h) : ACalls prog 56 [v, .int .i64 a] h fun u h' => u = .int .i64 (numI ws i) ∧ h' = h := by
 subst ha
 refine aD func56 rfl rfl ?_
 have rs := r.os.rs
 obtain ⟨va, vc, hv⟩ := bC rs
 have hml : (ws.map str).length = ws.length := Ap _
 have hl := r.len
 by_cases hi : i < ws.length
 ·
  obtain ⟨w, hw⟩ := gX (l := ws) (k := i) hi
  have hw2 : (ws.map str)[((i : Nat) : Int).toNat]? = some (str w) := by
   show (ws.map str)[i]? = _
   rw [Bm, hw]
   rfl
  have cu := qfx w h (by have := r.all w (Aw hw); omega) t
  repeat (first | refine W.w ?_ | refine aG rfl ?_ | (refine zz rfl ?_; first | refine qac rfl ?_ | refine qad rfl ?_ | refine qal (v := v) rfl ?_ | refine qaz rs rfl ?_ | refine qai rfl rfl rfl (by omega) ?_ | refine qas rs rfl rfl (by omega) hw2 fun _ => ?_ | refine qar (bL rs hw2) rfl rfl ?_ | refine qab rfl rfl cu ?_))
  exact ⟨_, aC rfl, by unfold numI; rw [hw]; rfl, rfl⟩
 ·
  repeat (first | refine W.w ?_ | refine aE rfl ?_ | (refine zz rfl ?_; first | refine qac rfl ?_ | refine qad rfl ?_ | refine qal (v := v) rfl ?_ | refine qaz rs rfl ?_ | refine qak rfl rfl rfl (by omega) ?_))
  exact ⟨_, aC rfl, by unfold numI; rw [Cc (by omega)]; rfl, rfl⟩
structure UaI (h : Heap) (j4 j6 : Nat) (q : AskV) (a : AskM) (H : Heap) : Prop where
 ext : Ext h H
 wf : WF H
 nx : h.next ≤ H.next
 n4 : h.next ≤ j4
 n6 : h.next ≤ j6
 ne : j4 ≠ j6
 g4 : H.get j4 = some ⟨askC askV0 ask0, 29, true⟩
 g6 : H.get j6 = some ⟨askC q a, 29, true⟩
 o : AskO h.next H q a
theorem AskO.ext {B : Nat} {h h' : Heap} {q : AskV} {a : AskM} (o : AskO B h q a) (hx : Ext h h') : AskO B h' q a := ⟨o.k.ext hx, o.t.ext hx, o.v.ext hx, o.w.ext hx⟩
theorem AskO.put {B : Nat} {h : Heap} {q : AskV} {a : AskM} {j : Nat} {x : Blk} (o : AskO B h q a) (hb : h.get j = some x) (hx : x.elem ≠ 5) (b : Blk) : AskO B (h.set j b) q a := ⟨cL o.k hb hx b, cL o.t hb hx b, cL o.v hb hx b, cL o.w hb hx b⟩
theorem UaI.more {h H H' : Heap} {j4 j6 : Nat} {q : AskV} {a : AskM} (k : UaI h j4 j6 q a H) (hx : Ext H H') (wf : WF H') (hn : H.next ≤ H'.next) : UaI h j4 j6 q a H' := ⟨k.ext.trans hx, wf, Bi k.nx hn, k.n4, k.n6, k.ne, hx.c _ _ k.g4, hx.c _ _ k.g6, k.o.ext hx⟩
theorem UaI.set {h H : Heap} {j4 j6 : Nat} {q : AskV} {a : AskM} (k : UaI h j4 j6 q a H) (wf : WF h) (q' : AskV) (a' : AskM) (o : AskO h.next H q' a') : UaI h j4 j6 q' a' (H.set j6 ⟨askC q' a', 29, true⟩) :=
 ⟨wf.ext_set k.ext k.n6 _, k.wf.set (k.wf.lt k.g6) _, k.nx, k.n4, k.n6, k.ne, (aH k.ne).trans k.g4, aF _ _ _, o.put k.g6 (show (29 : TypeId) ≠ 5 by decide) _⟩
theorem qbP : (29 : TypeId) ≠ 9 := by decide
theorem RW.at {B : Nat} {h : Heap} {v : Value} {ws : List Bytes} (_ : RW B h v ws) {i : Nat} {x : Bytes} (hx : ws[i]? = some x) : (ws.map str)[((i : Nat) : Int).toNat]? = some (str x) := by
 show (ws.map str)[i]? = _
 rw [Bm, hx]
 rfl
theorem AL.drop {P : Program} {N : Nat} {ops : Array Oper} {l : List Oper} {Q : Exit → Env → Heap → Prop} {env env0 : Env} {h : Heap} (k : EW env env0) (p : AL P N ops l Q env0 h) : AL P N ops l Q env h := by
 unfold AL at p ⊢
 exact fun φ a w hd r => p φ a w hd (r.weak (aI k))
theorem shareD {P : Program} {N : Nat} {ops : Array Oper} {l : List Oper} {Q : Exit → Env → Heap → Prop} {G : Prop} (E : Bool → Bool → Env) (C : Heap → Bool → Bool → Prop) (main : (∀ H b c, C H b c → AL P N ops l Q (E b c) H) → G) (tail : ∀ H b c, C H b c → AL P N ops l Q (E b c) H) : G := main tail
theorem runask_c (B : Nat) (v : Value) (ws : List Bytes) (i : Nat) (hi : i ≤ 100) (h : Heap) (r : RW B h v ws) (t : Tabs h) (_ : 8 ≤ h.next) : ACalls prog 58 [v, .int .i64 (i : Nat)] h fun u h' => ∃ q a, u = .tuple #[.agg (askC q a).toArray, .bool (askI ws i).2] ∧ AskO h.next h' q a ∧ Ext h h' ∧ ((askI ws i).2 = true → a = (askI ws i).1) := by
 refine aL fun wf => ?_
 refine aD func58 rfl rfl ?_
 obtain ⟨va, vc, hv⟩ := bC r.os.rs
 have hml : (ws.map str).length = ws.length := Ap _
 have hl := r.len
 repeat (first | refine W.w ?_)
 refine zz rfl (qax ?_)
 refine aS (h := h.alloc ⟨askC askV0 ask0, 29, true⟩) rfl ?_
 obtain ⟨H1, hQ, g4, x4, w4, n4⟩ := aq wf ⟨askC askV0 ask0, 29, true⟩
 rw [hQ]
 have rW := r.ext x4
 by_cases hlt : i < ws.length
 ·
  have hnl : ¬ ws.length ≤ i := by omega
  obtain ⟨x, hx⟩ := gX (l := ws) (k := i) hlt
  repeat (first | refine W.w ?_ | refine aG rfl ?_ | refine aJ rfl (qaL (vs := askC askV0 ask0) rfl rfl rfl rfl rfl ?_) | (refine zz rfl ?_; first | refine qac rfl ?_ | refine qaa rfl ?_ | refine qal (v := v) rfl ?_ | refine qaz rW.os.rs rfl ?_ | refine qai rfl rfl rfl (by omega) ?_ | refine qay (out := askC askV0 ask0) rfl rfl ?_ | refine qax ?_ | refine qau rfl rfl (by omega) ?_))
  have g6 := aB H1 ⟨askC askV0 ask0, 29, true⟩
  have x6 := w4.ext ⟨askC askV0 ask0, 29, true⟩
  have w6 := w4.alloc ⟨askC askV0 ask0, 29, true⟩
  have kA : UaI h h.next H1.next askV0 ask0 (H1.alloc ⟨askC askV0 ask0, 29, true⟩) := ⟨x4.trans x6, w6, by show h.next ≤ H1.next + 1; omega, Aa _, by omega, by omega, x6.c _ _ g4, g6, AskO.nil _ _⟩
  have rA := rW.ext x6
  clear g6 x6 w6 rW
  refine aS (h := H1.alloc ⟨askC askV0 ask0, 29, true⟩) rfl ?_
  generalize H1.alloc ⟨askC askV0 ask0, 29, true⟩ = H2 at kA rA ⊢
  generalize H1.next = j6 at kA ⊢
  refine zz rfl (qat rfl rfl ((qcg B v ws (i + 1) (((i : Nat) : Int) + 1) (by omega) H2 rA).wf_post.mono ?_))
  rintro _ H3 ⟨⟨⟨y1, b1, rfl, o1, s1⟩, xx⟩, wf2, n2⟩
  replace o1 := cF o1 kA.nx
  have kB := kA.more xx wf2 n2
  have rB := rA.ext xx
  have e1 := (cV (bW o1)).1
  clear xx wf2 n2
  repeat (first | refine W.w ?_ | (refine zz rfl ?_; first | refine qaC rfl ?_ | refine qaa rfl ?_ | refine qav rfl rfl ?_ | refine qan rfl ?_ | refine qao (v := y1) rfl ?_ | refine qal (v := y1) rfl ?_))
  repeat (first | refine W.w ?_ | refine zz rfl (qac rfl ?_) | refine zz rfl (qal (v := v) rfl ?_) | refine aJ rfl (qaw (b := ⟨askC (askV0) (ask0), 29, true⟩) rfl rfl e1 kB.g6 rfl (by exact Ab rfl) ?_))
  refine aS (h := H3.set j6 ⟨askC ({ askV0 with k := y1 }) ({ ask0 with key := b1 }), 29, true⟩) rfl ?_
  have rC := rB.put kB.g6 qbP ⟨askC ({ askV0 with k := y1 }) ({ ask0 with key := b1 }), 29, true⟩
  have kC := kB.set wf ({ askV0 with k := y1 }) ({ ask0 with key := b1 }) ⟨o1, bP _ _ _, bP _ _ _, bP _ _ _⟩
  generalize H3.set j6 ⟨askC ({ askV0 with k := y1 }) ({ ask0 with key := b1 }), 29, true⟩ = H4 at rC kC ⊢
  apply shareD (E := fun b c => [(4, ptr h.next), (6, ptr j6), (7, .bool b), (8, .bool c), (10, .bool (wordI ws (i + 1)).isSome)]) (C := fun H b c => ∃ q a, UaI h h.next j6 q a H ∧ ((wordI ws (i + 1)).isSome && b && c) = (askI ws i).2 ∧ ((wordI ws (i + 1)).isSome = true → b = true → c = true → a = (askI ws i).1))
  ·
   intro tail
   by_cases c1 : x = wGet
   ·
    repeat (first | refine W.w ?_ | refine aE rfl ?_ | refine aJ rfl (qaw (b := ⟨askC ({ askV0 with k := y1 }) ({ ask0 with key := b1 }), 29, true⟩) rfl rfl rfl kC.g6 rfl (by exact Ab rfl) ?_) | (refine zz rfl ?_; first | refine qaa rfl ?_ | refine qaP (a := x) (b := wGet) rfl rfl (by assumption) ?_ | refine qas rC.os.rs rfl rfl (by omega) (r.at hx) fun _ => ?_ | refine qar (bL rC.os.rs (r.at hx)) rfl rfl ?_ | refine qan rfl ?_))
    refine aS (h := H4.set j6 ⟨askC ({ askV0 with k := y1 }) ({ ask0 with kind := 1, key := b1 }), 29, true⟩) rfl ?_
    have rD := rC.put kC.g6 qbP ⟨askC ({ askV0 with k := y1 }) ({ ask0 with kind := 1, key := b1 }), 29, true⟩
    have kD := kC.set wf ({ askV0 with k := y1 }) ({ ask0 with kind := 1, key := b1 }) ⟨kC.o.k, kC.o.t, kC.o.v, kC.o.w⟩
    generalize H4.set j6 ⟨askC ({ askV0 with k := y1 }) ({ ask0 with kind := 1, key := b1 }), 29, true⟩ = H5 at rD kD ⊢
    skip
    exact AL.drop (env0 := [(4, ptr h.next), (6, ptr j6), (7, .bool true), (8, .bool true), (10, .bool (wordI ws (i + 1)).isSome)]) (aA rfl (aA rfl (aA rfl (aA rfl (aA rfl aN))))) (tail H5 true true ⟨{ askV0 with k := y1 }, { ask0 with kind := 1, key := b1 }, kD, (by rw [qiP hnl (by rw [hx, c1])]; try simp), fun f1 f2 f3 => by rw [qiP hnl (by rw [hx, c1]), s1 f1 ]; try rfl⟩)
   by_cases c2 : x = wDelete
   ·
    repeat (first | refine W.w ?_ | refine aE rfl ?_ | refine aG rfl ?_ | refine aJ rfl (qaw (b := ⟨askC ({ askV0 with k := y1 }) ({ ask0 with key := b1 }), 29, true⟩) rfl rfl rfl kC.g6 rfl (by exact Ab rfl) ?_) | (refine zz rfl ?_; first | refine qaa rfl ?_ | refine qaM (a := x) (b := wGet) rfl rfl (by assumption) ?_ | refine qaP (a := x) (b := wDelete) rfl rfl (by assumption) ?_ | refine qas rC.os.rs rfl rfl (by omega) (r.at hx) fun _ => ?_ | refine qar (bL rC.os.rs (r.at hx)) rfl rfl ?_ | refine qan rfl ?_))
    refine aS (h := H4.set j6 ⟨askC ({ askV0 with k := y1 }) ({ ask0 with kind := 3, key := b1 }), 29, true⟩) rfl ?_
    have rD := rC.put kC.g6 qbP ⟨askC ({ askV0 with k := y1 }) ({ ask0 with kind := 3, key := b1 }), 29, true⟩
    have kD := kC.set wf ({ askV0 with k := y1 }) ({ ask0 with kind := 3, key := b1 }) ⟨kC.o.k, kC.o.t, kC.o.v, kC.o.w⟩
    generalize H4.set j6 ⟨askC ({ askV0 with k := y1 }) ({ ask0 with kind := 3, key := b1 }), 29, true⟩ = H5 at rD kD ⊢
    skip
    exact AL.drop (env0 := [(4, ptr h.next), (6, ptr j6), (7, .bool true), (8, .bool true), (10, .bool (wordI ws (i + 1)).isSome)]) (aA rfl (aA rfl (aA rfl (aA rfl (aA rfl aN))))) (tail H5 true true ⟨{ askV0 with k := y1 }, { ask0 with kind := 3, key := b1 }, kD, (by rw [qef hnl (by rw [hx, c2])]; try simp), fun f1 f2 f3 => by rw [qef hnl (by rw [hx, c2]), s1 f1 ]; try rfl⟩)
   by_cases c3 : x = wPut
   ·
    have c4 : ¬ x = wFresh := by rw [c3]; decide
    have c5 : ¬ x = wSwap := by rw [c3]; decide
    repeat (first | refine W.w ?_ | refine aE rfl ?_ | refine aG rfl ?_ | refine aJ rfl (qaw (b := ⟨askC ({ askV0 with k := y1 }) ({ ask0 with key := b1 }), 29, true⟩) rfl rfl rfl kC.g6 rfl (by exact Ab rfl) ?_) | (refine zz rfl ?_; first | refine qac rfl ?_ | refine qaa rfl ?_ | refine qaM (a := x) (b := wGet) rfl rfl (by assumption) ?_ | refine qaM (a := x) (b := wDelete) rfl rfl (by assumption) ?_ | refine qaP (a := x) (b := wPut) rfl rfl (by assumption) ?_ | refine qal (v := v) rfl ?_ | refine qas rC.os.rs rfl rfl (by omega) (r.at hx) fun _ => ?_ | refine qar (bL rC.os.rs (r.at hx)) rfl rfl ?_ | refine qan rfl ?_))
    refine aS (h := H4.set j6 ⟨askC ({ askV0 with k := y1 }) ({ ask0 with kind := 4, key := b1 }), 29, true⟩) rfl ?_
    have rD := rC.put kC.g6 qbP ⟨askC ({ askV0 with k := y1 }) ({ ask0 with kind := 4, key := b1 }), 29, true⟩
    have kD := kC.set wf ({ askV0 with k := y1 }) ({ ask0 with kind := 4, key := b1 }) ⟨kC.o.k, kC.o.t, kC.o.v, kC.o.w⟩
    generalize H4.set j6 ⟨askC ({ askV0 with k := y1 }) ({ ask0 with kind := 4, key := b1 }), 29, true⟩ = H5 at rD kD ⊢
    repeat (first | refine W.w ?_ | refine aJ rfl (qaw (b := ⟨askC ({ askV0 with k := y1 }) ({ ask0 with kind := 4, key := b1 }), 29, true⟩) rfl rfl rfl kD.g6 rfl (by exact Ab rfl) ?_) | (refine zz rfl ?_; first | refine qac rfl ?_ | refine qaM (a := x) (b := wFresh) rfl rfl (by assumption) ?_ | refine qal (v := v) rfl ?_ | refine qas rD.os.rs rfl rfl (by omega) (r.at hx) fun _ => ?_ | refine qar (bL rD.os.rs (r.at hx)) rfl rfl ?_ | refine qan rfl ?_ | refine qau rfl rfl (by omega) ?_))
    refine aS (h := H5.set j6 ⟨askC ({ askV0 with k := y1 }) ({ ask0 with kind := 4, key := b1, none := false }), 29, true⟩) rfl ?_
    have rE := rD.put kD.g6 qbP ⟨askC ({ askV0 with k := y1 }) ({ ask0 with kind := 4, key := b1, none := false }), 29, true⟩
    have kE := kD.set wf ({ askV0 with k := y1 }) ({ ask0 with kind := 4, key := b1, none := false }) ⟨kD.o.k, kD.o.t, kD.o.v, kD.o.w⟩
    generalize H5.set j6 ⟨askC ({ askV0 with k := y1 }) ({ ask0 with kind := 4, key := b1, none := false }), 29, true⟩ = H6 at rE kE ⊢
    skip
    refine zz rfl (qat rfl rfl ((qcg B v ws (i + 2) (((i : Nat) : Int) + 2) (by omega) H6 rE).wf_post.mono ?_))
    rintro _ H7 ⟨⟨⟨y2, b2, rfl, o2, s2⟩, xx⟩, wf2, n2⟩
    replace o2 := cF o2 kE.nx
    have kF := kE.more xx wf2 n2
    have rF := rE.ext xx
    have e2 := (cV (bW o2)).1
    clear xx wf2 n2
    repeat (first | refine W.w ?_ | refine aJ rfl (qaw (b := ⟨askC ({ askV0 with k := y1 }) ({ ask0 with kind := 4, key := b1, none := false }), 29, true⟩) rfl rfl e2 kF.g6 rfl (by exact Ab rfl) ?_) | (refine zz rfl ?_; first | refine qac rfl ?_ | refine qaC rfl ?_ | refine qaa rfl ?_ | refine qal (v := v) rfl ?_ | refine qav rfl rfl ?_ | refine qan rfl ?_))
    refine aS (h := H7.set j6 ⟨askC ({ askV0 with k := y1, v := y2 }) ({ ask0 with kind := 4, key := b1, none := false, value := b2 }), 29, true⟩) rfl ?_
    have rG := rF.put kF.g6 qbP ⟨askC ({ askV0 with k := y1, v := y2 }) ({ ask0 with kind := 4, key := b1, none := false, value := b2 }), 29, true⟩
    have kG := kF.set wf ({ askV0 with k := y1, v := y2 }) ({ ask0 with kind := 4, key := b1, none := false, value := b2 }) ⟨kF.o.k, bP _ _ _, o2, bP _ _ _⟩
    generalize H7.set j6 ⟨askC ({ askV0 with k := y1, v := y2 }) ({ ask0 with kind := 4, key := b1, none := false, value := b2 }), 29, true⟩ = H8 at rG kG ⊢
    repeat (first | refine W.w ?_ | refine aE rfl ?_ | refine aJ rfl (qaw (b := ⟨askC ({ askV0 with k := y1, v := y2 }) ({ ask0 with kind := 4, key := b1, none := false, value := b2 }), 29, true⟩) rfl rfl rfl kG.g6 rfl (by exact Ab rfl) ?_) | (refine zz rfl ?_; first | refine qac rfl ?_ | refine qaP (a := x) (b := wPut) rfl rfl (by assumption) ?_ | refine qal (v := v) rfl ?_ | refine qas rG.os.rs rfl rfl (by omega) (r.at hx) fun _ => ?_ | refine qar (bL rG.os.rs (r.at hx)) rfl rfl ?_ | refine qan rfl ?_))
    refine aS (h := H8.set j6 ⟨askC ({ askV0 with k := y1, v := y2 }) ({ ask0 with kind := 2, key := b1, value := b2 }), 29, true⟩) rfl ?_
    have rH := rG.put kG.g6 qbP ⟨askC ({ askV0 with k := y1, v := y2 }) ({ ask0 with kind := 2, key := b1, value := b2 }), 29, true⟩
    have kH := kG.set wf ({ askV0 with k := y1, v := y2 }) ({ ask0 with kind := 2, key := b1, value := b2 }) ⟨kG.o.k, kG.o.t, kG.o.v, kG.o.w⟩
    generalize H8.set j6 ⟨askC ({ askV0 with k := y1, v := y2 }) ({ ask0 with kind := 2, key := b1, value := b2 }), 29, true⟩ = H9 at rH kH ⊢
    repeat (first | refine W.w ?_ | refine aG rfl ?_ | (refine zz rfl ?_; first | refine qaM (a := x) (b := wSwap) rfl rfl (by assumption) ?_ | refine qas rH.os.rs rfl rfl (by omega) (r.at hx) fun _ => ?_ | refine qar (bL rH.os.rs (r.at hx)) rfl rfl ?_))
    skip
    exact AL.drop (env0 := [(4, ptr h.next), (6, ptr j6), (7, .bool (wordI ws (i + 2)).isSome), (8, .bool true), (10, .bool (wordI ws (i + 1)).isSome)]) (aA rfl (aA rfl (aA rfl (aA rfl (aA rfl aN))))) (tail H9 (wordI ws (i + 2)).isSome true ⟨{ askV0 with k := y1, v := y2 }, { ask0 with kind := 2, key := b1, value := b2 }, kH, (by rw [qiF hnl (by rw [hx, c3])]; try simp), fun f1 f2 f3 => by rw [qiF hnl (by rw [hx, c3]), s1 f1, s2 f2]; try rfl⟩)
   by_cases c4 : x = wFresh
   ·
    have c5 : ¬ x = wSwap := by rw [c4]; decide
    repeat (first | refine W.w ?_ | refine aE rfl ?_ | refine aG rfl ?_ | refine aJ rfl (qaw (b := ⟨askC ({ askV0 with k := y1 }) ({ ask0 with key := b1 }), 29, true⟩) rfl rfl rfl kC.g6 rfl (by exact Ab rfl) ?_) | (refine zz rfl ?_; first | refine qac rfl ?_ | refine qaa rfl ?_ | refine qaM (a := x) (b := wGet) rfl rfl (by assumption) ?_ | refine qaM (a := x) (b := wDelete) rfl rfl (by assumption) ?_ | refine qaM (a := x) (b := wPut) rfl rfl (by assumption) ?_ | refine qaP (a := x) (b := wFresh) rfl rfl (by assumption) ?_ | refine qal (v := v) rfl ?_ | refine qas rC.os.rs rfl rfl (by omega) (r.at hx) fun _ => ?_ | refine qar (bL rC.os.rs (r.at hx)) rfl rfl ?_ | refine qan rfl ?_))
    refine aS (h := H4.set j6 ⟨askC ({ askV0 with k := y1 }) ({ ask0 with kind := 4, key := b1 }), 29, true⟩) rfl ?_
    have rD := rC.put kC.g6 qbP ⟨askC ({ askV0 with k := y1 }) ({ ask0 with kind := 4, key := b1 }), 29, true⟩
    have kD := kC.set wf ({ askV0 with k := y1 }) ({ ask0 with kind := 4, key := b1 }) ⟨kC.o.k, kC.o.t, kC.o.v, kC.o.w⟩
    generalize H4.set j6 ⟨askC ({ askV0 with k := y1 }) ({ ask0 with kind := 4, key := b1 }), 29, true⟩ = H5 at rD kD ⊢
    repeat (first | refine W.w ?_ | refine aJ rfl (qaw (b := ⟨askC ({ askV0 with k := y1 }) ({ ask0 with kind := 4, key := b1 }), 29, true⟩) rfl rfl rfl kD.g6 rfl (by exact Ab rfl) ?_) | (refine zz rfl ?_; first | refine qac rfl ?_ | refine qaP (a := x) (b := wFresh) rfl rfl (by assumption) ?_ | refine qal (v := v) rfl ?_ | refine qas rD.os.rs rfl rfl (by omega) (r.at hx) fun _ => ?_ | refine qar (bL rD.os.rs (r.at hx)) rfl rfl ?_ | refine qan rfl ?_ | refine qau rfl rfl (by omega) ?_))
    refine aS (h := H5.set j6 ⟨askC ({ askV0 with k := y1 }) ({ ask0 with kind := 4, key := b1, none := true }), 29, true⟩) rfl ?_
    have rE := rD.put kD.g6 qbP ⟨askC ({ askV0 with k := y1 }) ({ ask0 with kind := 4, key := b1, none := true }), 29, true⟩
    have kE := kD.set wf ({ askV0 with k := y1 }) ({ ask0 with kind := 4, key := b1, none := true }) ⟨kD.o.k, kD.o.t, kD.o.v, kD.o.w⟩
    generalize H5.set j6 ⟨askC ({ askV0 with k := y1 }) ({ ask0 with kind := 4, key := b1, none := true }), 29, true⟩ = H6 at rE kE ⊢
    skip
    refine zz rfl (qat rfl rfl ((qcg B v ws (i + 2) (((i : Nat) : Int) + 2) (by omega) H6 rE).wf_post.mono ?_))
    rintro _ H7 ⟨⟨⟨y2, b2, rfl, o2, s2⟩, xx⟩, wf2, n2⟩
    replace o2 := cF o2 kE.nx
    have kF := kE.more xx wf2 n2
    have rF := rE.ext xx
    have e2 := (cV (bW o2)).1
    clear xx wf2 n2
    repeat (first | refine W.w ?_ | refine aJ rfl (qaw (b := ⟨askC ({ askV0 with k := y1 }) ({ ask0 with kind := 4, key := b1, none := true }), 29, true⟩) rfl rfl e2 kF.g6 rfl (by exact Ab rfl) ?_) | (refine zz rfl ?_; first | refine qac rfl ?_ | refine qaC rfl ?_ | refine qaa rfl ?_ | refine qal (v := v) rfl ?_ | refine qav rfl rfl ?_ | refine qan rfl ?_))
    refine aS (h := H7.set j6 ⟨askC ({ askV0 with k := y1, v := y2 }) ({ ask0 with kind := 4, key := b1, none := true, value := b2 }), 29, true⟩) rfl ?_
    have rG := rF.put kF.g6 qbP ⟨askC ({ askV0 with k := y1, v := y2 }) ({ ask0 with kind := 4, key := b1, none := true, value := b2 }), 29, true⟩
    have kG := kF.set wf ({ askV0 with k := y1, v := y2 }) ({ ask0 with kind := 4, key := b1, none := true, value := b2 }) ⟨kF.o.k, bP _ _ _, o2, bP _ _ _⟩
    generalize H7.set j6 ⟨askC ({ askV0 with k := y1, v := y2 }) ({ ask0 with kind := 4, key := b1, none := true, value := b2 }), 29, true⟩ = H8 at rG kG ⊢
    repeat (first | refine W.w ?_ | refine aG rfl ?_ | (refine zz rfl ?_; first | refine qac rfl ?_ | refine qaM (a := x) (b := wPut) rfl rfl (by assumption) ?_ | refine qaM (a := x) (b := wSwap) rfl rfl (by assumption) ?_ | refine qal (v := v) rfl ?_ | refine qas rG.os.rs rfl rfl (by omega) (r.at hx) fun _ => ?_ | refine qar (bL rG.os.rs (r.at hx)) rfl rfl ?_))
    skip
    exact AL.drop (env0 := [(4, ptr h.next), (6, ptr j6), (7, .bool (wordI ws (i + 2)).isSome), (8, .bool true), (10, .bool (wordI ws (i + 1)).isSome)]) (aA rfl (aA rfl (aA rfl (aA rfl (aA rfl aN))))) (tail H8 (wordI ws (i + 2)).isSome true ⟨{ askV0 with k := y1, v := y2 }, { ask0 with kind := 4, none := true, key := b1, value := b2 }, kG, (by rw [qfb hnl (by rw [hx, c4])]; try simp), fun f1 f2 f3 => by rw [qfb hnl (by rw [hx, c4]), s1 f1, s2 f2]; try rfl⟩)
   by_cases c5 : x = wSwap
   ·
    repeat (first | refine W.w ?_ | refine aE rfl ?_ | refine aG rfl ?_ | refine aJ rfl (qaw (b := ⟨askC ({ askV0 with k := y1 }) ({ ask0 with key := b1 }), 29, true⟩) rfl rfl rfl kC.g6 rfl (by exact Ab rfl) ?_) | (refine zz rfl ?_; first | refine qac rfl ?_ | refine qaa rfl ?_ | refine qaM (a := x) (b := wGet) rfl rfl (by assumption) ?_ | refine qaM (a := x) (b := wDelete) rfl rfl (by assumption) ?_ | refine qaM (a := x) (b := wPut) rfl rfl (by assumption) ?_ | refine qaM (a := x) (b := wFresh) rfl rfl (by assumption) ?_ | refine qaP (a := x) (b := wSwap) rfl rfl (by assumption) ?_ | refine qal (v := v) rfl ?_ | refine qas rC.os.rs rfl rfl (by omega) (r.at hx) fun _ => ?_ | refine qar (bL rC.os.rs (r.at hx)) rfl rfl ?_ | refine qan rfl ?_))
    refine aS (h := H4.set j6 ⟨askC ({ askV0 with k := y1 }) ({ ask0 with kind := 4, key := b1 }), 29, true⟩) rfl ?_
    have rD := rC.put kC.g6 qbP ⟨askC ({ askV0 with k := y1 }) ({ ask0 with kind := 4, key := b1 }), 29, true⟩
    have kD := kC.set wf ({ askV0 with k := y1 }) ({ ask0 with kind := 4, key := b1 }) ⟨kC.o.k, kC.o.t, kC.o.v, kC.o.w⟩
    generalize H4.set j6 ⟨askC ({ askV0 with k := y1 }) ({ ask0 with kind := 4, key := b1 }), 29, true⟩ = H5 at rD kD ⊢
    repeat (first | refine W.w ?_ | refine aJ rfl (qaw (b := ⟨askC ({ askV0 with k := y1 }) ({ ask0 with kind := 4, key := b1 }), 29, true⟩) rfl rfl rfl kD.g6 rfl (by exact Ab rfl) ?_) | (refine zz rfl ?_; first | refine qac rfl ?_ | refine qaM (a := x) (b := wFresh) rfl rfl (by assumption) ?_ | refine qal (v := v) rfl ?_ | refine qas rD.os.rs rfl rfl (by omega) (r.at hx) fun _ => ?_ | refine qar (bL rD.os.rs (r.at hx)) rfl rfl ?_ | refine qan rfl ?_ | refine qau rfl rfl (by omega) ?_))
    refine aS (h := H5.set j6 ⟨askC ({ askV0 with k := y1 }) ({ ask0 with kind := 4, key := b1, none := false }), 29, true⟩) rfl ?_
    have rE := rD.put kD.g6 qbP ⟨askC ({ askV0 with k := y1 }) ({ ask0 with kind := 4, key := b1, none := false }), 29, true⟩
    have kE := kD.set wf ({ askV0 with k := y1 }) ({ ask0 with kind := 4, key := b1, none := false }) ⟨kD.o.k, kD.o.t, kD.o.v, kD.o.w⟩
    generalize H5.set j6 ⟨askC ({ askV0 with k := y1 }) ({ ask0 with kind := 4, key := b1, none := false }), 29, true⟩ = H6 at rE kE ⊢
    skip
    refine zz rfl (qat rfl rfl ((qcg B v ws (i + 2) (((i : Nat) : Int) + 2) (by omega) H6 rE).wf_post.mono ?_))
    rintro _ H7 ⟨⟨⟨y2, b2, rfl, o2, s2⟩, xx⟩, wf2, n2⟩
    replace o2 := cF o2 kE.nx
    have kF := kE.more xx wf2 n2
    have rF := rE.ext xx
    have e2 := (cV (bW o2)).1
    clear xx wf2 n2
    repeat (first | refine W.w ?_ | refine aJ rfl (qaw (b := ⟨askC ({ askV0 with k := y1 }) ({ ask0 with kind := 4, key := b1, none := false }), 29, true⟩) rfl rfl e2 kF.g6 rfl (by exact Ab rfl) ?_) | (refine zz rfl ?_; first | refine qac rfl ?_ | refine qaC rfl ?_ | refine qaa rfl ?_ | refine qal (v := v) rfl ?_ | refine qav rfl rfl ?_ | refine qan rfl ?_))
    refine aS (h := H7.set j6 ⟨askC ({ askV0 with k := y1, v := y2 }) ({ ask0 with kind := 4, key := b1, none := false, value := b2 }), 29, true⟩) rfl ?_
    have rG := rF.put kF.g6 qbP ⟨askC ({ askV0 with k := y1, v := y2 }) ({ ask0 with kind := 4, key := b1, none := false, value := b2 }), 29, true⟩
    have kG := kF.set wf ({ askV0 with k := y1, v := y2 }) ({ ask0 with kind := 4, key := b1, none := false, value := b2 }) ⟨kF.o.k, bP _ _ _, o2, bP _ _ _⟩
    generalize H7.set j6 ⟨askC ({ askV0 with k := y1, v := y2 }) ({ ask0 with kind := 4, key := b1, none := false, value := b2 }), 29, true⟩ = H8 at rG kG ⊢
    repeat (first | refine W.w ?_ | refine aE rfl ?_ | refine aG rfl ?_ | (refine zz rfl ?_; first | refine qac rfl ?_ | refine qaM (a := x) (b := wPut) rfl rfl (by assumption) ?_ | refine qaP (a := x) (b := wSwap) rfl rfl (by assumption) ?_ | refine qal (v := v) rfl ?_ | refine qas rG.os.rs rfl rfl (by omega) (r.at hx) fun _ => ?_ | refine qar (bL rG.os.rs (r.at hx)) rfl rfl ?_ | refine qau rfl rfl (by omega) ?_))
    refine zz rfl (qat rfl rfl ((qcg B v ws (i + 3) (((i : Nat) : Int) + 3) (by omega) H8 rG).wf_post.mono ?_))
    rintro _ H9 ⟨⟨⟨y3, b3, rfl, o3, s3⟩, xx⟩, wf2, n2⟩
    replace o3 := cF o3 kG.nx
    have kH := kG.more xx wf2 n2
    have rH := rG.ext xx
    have e3 := (cV (bW o3)).1
    clear xx wf2 n2
    repeat (first | refine W.w ?_ | refine aJ rfl (qaw (b := ⟨askC ({ askV0 with k := y1, v := y2 }) ({ ask0 with kind := 4, key := b1, none := false, value := b2 }), 29, true⟩) rfl rfl e3 kH.g6 rfl (by exact Ab rfl) ?_) | (refine zz rfl ?_; first | refine qaC rfl ?_ | refine qaa rfl ?_ | refine qav rfl rfl ?_ | refine qan rfl ?_))
    refine aS (h := H9.set j6 ⟨askC ({ askV0 with k := y1, v := y2, w := y3 }) ({ ask0 with kind := 4, key := b1, value := b2, was := b3 }), 29, true⟩) rfl ?_
    have rI := rH.put kH.g6 qbP ⟨askC ({ askV0 with k := y1, v := y2, w := y3 }) ({ ask0 with kind := 4, key := b1, value := b2, was := b3 }), 29, true⟩
    have kI := kH.set wf ({ askV0 with k := y1, v := y2, w := y3 }) ({ ask0 with kind := 4, key := b1, value := b2, was := b3 }) ⟨kH.o.k, bP _ _ _, kH.o.v, o3⟩
    generalize H9.set j6 ⟨askC ({ askV0 with k := y1, v := y2, w := y3 }) ({ ask0 with kind := 4, key := b1, value := b2, was := b3 }), 29, true⟩ = H10 at rI kI ⊢
    skip
    exact AL.drop (env0 := [(4, ptr h.next), (6, ptr j6), (7, .bool (wordI ws (i + 2)).isSome), (8, .bool (wordI ws (i + 3)).isSome), (10, .bool (wordI ws (i + 1)).isSome)]) (aA rfl (aA rfl (aA rfl (aA rfl (aA rfl aN))))) (tail H10 (wordI ws (i + 2)).isSome (wordI ws (i + 3)).isSome ⟨{ askV0 with k := y1, v := y2, w := y3 }, { ask0 with kind := 4, key := b1, value := b2, was := b3 }, kI, (by rw [qgH hnl (by rw [hx, c5])]; try simp), fun f1 f2 f3 => by rw [qgH hnl (by rw [hx, c5]), s1 f1, s2 f2, s3 f3]; try rfl⟩)
   by_cases c6 : x = wScan
   ·
    repeat (first | refine W.w ?_ | refine aE rfl ?_ | refine aG rfl ?_ | refine aJ rfl (qaw (b := ⟨askC ({ askV0 with k := y1 }) ({ ask0 with key := b1 }), 29, true⟩) rfl rfl rfl kC.g6 rfl (by exact Ab rfl) ?_) | (refine zz rfl ?_; first | refine qac rfl ?_ | refine qaa rfl ?_ | refine qaM (a := x) (b := wGet) rfl rfl (by assumption) ?_ | refine qaM (a := x) (b := wDelete) rfl rfl (by assumption) ?_ | refine qaM (a := x) (b := wPut) rfl rfl (by assumption) ?_ | refine qaM (a := x) (b := wFresh) rfl rfl (by assumption) ?_ | refine qaM (a := x) (b := wSwap) rfl rfl (by assumption) ?_ | refine qaP (a := x) (b := wScan) rfl rfl (by assumption) ?_ | refine qal (v := v) rfl ?_ | refine qas rC.os.rs rfl rfl (by omega) (r.at hx) fun _ => ?_ | refine qar (bL rC.os.rs (r.at hx)) rfl rfl ?_ | refine qan rfl ?_ | refine qau rfl rfl (by omega) ?_))
    refine aS (h := H4.set j6 ⟨askC ({ askV0 with k := y1 }) ({ ask0 with kind := 5, key := b1 }), 29, true⟩) rfl ?_
    have rD := rC.put kC.g6 qbP ⟨askC ({ askV0 with k := y1 }) ({ ask0 with kind := 5, key := b1 }), 29, true⟩
    have kD := kC.set wf ({ askV0 with k := y1 }) ({ ask0 with kind := 5, key := b1 }) ⟨kC.o.k, kC.o.t, kC.o.v, kC.o.w⟩
    generalize H4.set j6 ⟨askC ({ askV0 with k := y1 }) ({ ask0 with kind := 5, key := b1 }), 29, true⟩ = H5 at rD kD ⊢
    skip
    refine zz rfl (qat rfl rfl ((qcg B v ws (i + 2) (((i : Nat) : Int) + 2) (by omega) H5 rD).wf_post.mono ?_))
    rintro _ H6 ⟨⟨⟨y2, b2, rfl, o2, s2⟩, xx⟩, wf2, n2⟩
    replace o2 := cF o2 kD.nx
    have kE := kD.more xx wf2 n2
    have rE := rD.ext xx
    have e2 := (cV (bW o2)).1
    clear xx wf2 n2
    repeat (first | refine W.w ?_ | refine aJ rfl (qaw (b := ⟨askC ({ askV0 with k := y1 }) ({ ask0 with kind := 5, key := b1 }), 29, true⟩) rfl rfl e2 kE.g6 rfl (by exact Ab rfl) ?_) | (refine zz rfl ?_; first | refine qac rfl ?_ | refine qaC rfl ?_ | refine qaa rfl ?_ | refine qal (v := v) rfl ?_ | refine qav rfl rfl ?_ | refine qan rfl ?_ | refine qau rfl rfl (by omega) ?_))
    refine aS (h := H6.set j6 ⟨askC ({ askV0 with k := y1, t := y2 }) ({ ask0 with kind := 5, key := b1, «to» := b2 }), 29, true⟩) rfl ?_
    have rF := rE.put kE.g6 qbP ⟨askC ({ askV0 with k := y1, t := y2 }) ({ ask0 with kind := 5, key := b1, «to» := b2 }), 29, true⟩
    have kF := kE.set wf ({ askV0 with k := y1, t := y2 }) ({ ask0 with kind := 5, key := b1, «to» := b2 }) ⟨kE.o.k, o2, bP _ _ _, bP _ _ _⟩
    generalize H6.set j6 ⟨askC ({ askV0 with k := y1, t := y2 }) ({ ask0 with kind := 5, key := b1, «to» := b2 }), 29, true⟩ = H7 at rF kF ⊢
    have cn := qdp B v ws (i + 3) (((i : Nat) : Int) + 3) (by omega) H7 rF (t.ext kF.ext)
    repeat (first | refine zz rfl (qan rfl ?_) | refine zz rfl (qab rfl rfl cn ?_))
    repeat (first | refine W.w ?_ | refine aJ rfl (qaw (b := ⟨askC ({ askV0 with k := y1, t := y2 }) ({ ask0 with kind := 5, key := b1, «to» := b2 }), 29, true⟩) rfl rfl rfl kF.g6 rfl (by exact Ab rfl) ?_))
    refine aS (h := H7.set j6 ⟨askC ({ askV0 with k := y1, t := y2 }) ({ ask0 with kind := 5, key := b1, «to» := b2, most := numI ws (i + 3) }), 29, true⟩) rfl ?_
    have rG := rF.put kF.g6 qbP ⟨askC ({ askV0 with k := y1, t := y2 }) ({ ask0 with kind := 5, key := b1, «to» := b2, most := numI ws (i + 3) }), 29, true⟩
    have kG := kF.set wf ({ askV0 with k := y1, t := y2 }) ({ ask0 with kind := 5, key := b1, «to» := b2, most := numI ws (i + 3) }) ⟨kF.o.k, kF.o.t, kF.o.v, kF.o.w⟩
    generalize H7.set j6 ⟨askC ({ askV0 with k := y1, t := y2 }) ({ ask0 with kind := 5, key := b1, «to» := b2, most := numI ws (i + 3) }), 29, true⟩ = H8 at rG kG ⊢
    skip
    exact AL.drop (env0 := [(4, ptr h.next), (6, ptr j6), (7, .bool (wordI ws (i + 2)).isSome), (8, .bool true), (10, .bool (wordI ws (i + 1)).isSome)]) (aA rfl (aA rfl (aA rfl (aA rfl (aA rfl aN))))) (tail H8 (wordI ws (i + 2)).isSome true ⟨{ askV0 with k := y1, t := y2 }, { ask0 with kind := 5, key := b1, «to» := b2, most := numI ws (i + 3) }, kG, (by rw [qgh hnl (by rw [hx, c6])]; try simp), fun f1 f2 f3 => by rw [qgh hnl (by rw [hx, c6]), s1 f1, s2 f2]; try rfl⟩)
   ·
    repeat (first | refine W.w ?_ | refine aG rfl ?_ | (refine zz rfl ?_; first | refine qaa rfl ?_ | refine qaM (a := x) (b := wGet) rfl rfl (by assumption) ?_ | refine qaM (a := x) (b := wDelete) rfl rfl (by assumption) ?_ | refine qaM (a := x) (b := wPut) rfl rfl (by assumption) ?_ | refine qaM (a := x) (b := wFresh) rfl rfl (by assumption) ?_ | refine qaM (a := x) (b := wSwap) rfl rfl (by assumption) ?_ | refine qaM (a := x) (b := wScan) rfl rfl (by assumption) ?_ | refine qas rC.os.rs rfl rfl (by omega) (r.at hx) fun _ => ?_ | refine qar (bL rC.os.rs (r.at hx)) rfl rfl ?_))
    skip
    exact AL.drop (env0 := [(4, ptr h.next), (6, ptr j6), (7, .bool true), (8, .bool true), (10, .bool (wordI ws (i + 1)).isSome)]) (aA rfl (aA rfl (aA rfl (aA rfl (aA rfl aN))))) (tail H4 true true ⟨{ askV0 with k := y1 }, { ask0 with key := b1 }, kC, (by rw [qg7 hnl hx c1 c2 c3 c4 c5 c6]; try simp), fun f1 f2 f3 => by rw [qg7 hnl hx c1 c2 c3 c4 c5 c6, s1 f1 ]; try rfl⟩)
  ·
   rintro G b c ⟨q, a, kK, hb, ha⟩
   generalize (wordI ws (i + 1)).isSome = o at hb ha ⊢
   cases o <;> cases b <;> cases c
   all_goals (
    repeat (first | refine W.w ?_ | refine aK rfl rfl ?_ | refine aJ rfl (qaq (vs := askC q a) rfl rfl rfl (qde kK.o.r) kK.g4 rfl ?_) | (refine zz rfl ?_; first | refine qae rfl ?_ | refine qaa rfl ?_ | refine qam (sz := 7) rfl rfl kK.g6 (Aa _) ?_ | refine qag (v := .bool _) rfl rfl ?_))
    refine ⟨_, aV rfl rfl rfl (aF _ _ _) (Aa _), q, a, by rw [← hb]; rfl, kK.o.put kK.g4 (show (29 : TypeId) ≠ 5 by decide) _, wf.ext_set kK.ext kK.n4 _, ?_⟩
    exact fun e => by rw [← hb] at e; first | exact ha rfl rfl rfl | cases e)
 ·
  clear hv
  repeat (first | refine W.w ?_ | refine aE rfl ?_ | refine aJ rfl (qaq (vs := askC askV0 ask0) rfl rfl rfl rfl g4 rfl ?_) | (refine zz rfl ?_; first | refine qac rfl ?_ | refine qaa rfl ?_ | refine qal (v := v) rfl ?_ | refine qaz rW.os.rs rfl ?_ | refine qak rfl rfl rfl (by omega) ?_ | refine qay (out := askC askV0 ask0) rfl rfl ?_))
  have e := askI_no (w := ws) (i := i) (by omega)
  exact ⟨_, aV rfl rfl rfl (aF _ _ _) (Aa _), askV0, ask0, by rw [e]; rfl, AskO.nil _ _, wf.ext_set x4 (Aa _) _, fun _ => by rw [e]⟩
structure UpI (h : Heap) (j4 j6 : Nat) (q : CmdV) (a : CmdM) (H : Heap) : Prop where
 ext : Ext h H
 wf : WF H
 nx : h.next ≤ H.next
 n4 : h.next ≤ j4
 n6 : h.next ≤ j6
 ne : j4 ≠ j6
 g4 : H.get j4 = some ⟨cmdC cmdV0 cmd0, 37, true⟩
 g6 : H.get j6 = some ⟨cmdC q a, 37, true⟩
 o : CmdO h.next H q a
theorem CmdO.ext {B : Nat} {h h' : Heap} {q : CmdV} {a : CmdM} (o : CmdO B h q a) (hx : Ext h h') : CmdO B h' q a := ⟨o.hq, o.hk.ext hx, o.hc⟩
theorem CmdO.put {B : Nat} {h : Heap} {q : CmdV} {a : CmdM} {j : Nat} {x : Blk} (o : CmdO B h q a) (hb : h.get j = some x) (hx : x.elem ≠ 5) (b : Blk) : CmdO B (h.set j b) q a := ⟨o.hq, cL o.hk hb hx b, o.hc⟩
theorem UpI.more {h H H' : Heap} {j4 j6 : Nat} {q : CmdV} {a : CmdM} (k : UpI h j4 j6 q a H) (hx : Ext H H') (wf : WF H') (hn : H.next ≤ H'.next) : UpI h j4 j6 q a H' := ⟨k.ext.trans hx, wf, Bi k.nx hn, k.n4, k.n6, k.ne, hx.c _ _ k.g4, hx.c _ _ k.g6, k.o.ext hx⟩
theorem UpI.set {h H : Heap} {j4 j6 : Nat} {q : CmdV} {a : CmdM} (k : UpI h j4 j6 q a H) (wf : WF h) (q' : CmdV) (a' : CmdM) (o : CmdO h.next H q' a') : UpI h j4 j6 q' a' (H.set j6 ⟨cmdC q' a', 37, true⟩) :=
 ⟨wf.ext_set k.ext k.n6 _, k.wf.set (k.wf.lt k.g6) _, k.nx, k.n4, k.n6, k.ne, (aH k.ne).trans k.g4, aF _ _ _, o.put k.g6 (show (37 : TypeId) ≠ 5 by decide) _⟩
theorem qeK : (37 : TypeId) ≠ 9 := by decide
theorem rplanI_c (B : Nat) (v : Value) (ws : List Bytes) (h : Heap) (r : RW B h v ws) (t : Tabs h) : ACalls prog 57 [v] h fun u h' => ∃ q a, u = .tuple #[.agg (cmdC q a).toArray, .bool (planI ws).2] ∧ CmdO h.next h' q a ∧ Ext h h' ∧ ((planI ws).2 = true → a = (planI ws).1) := by
 refine aL fun wf => ?_
 refine aD func57 rfl rfl ?_
 obtain ⟨va, vc, hv⟩ := bC r.os.rs
 have hml : (ws.map str).length = ws.length := Ap _
 have hl := r.len
 repeat (first | refine W.w ?_)
 refine zz rfl (qax ?_)
 refine aS (h := h.alloc ⟨cmdC cmdV0 cmd0, 37, true⟩) rfl ?_
 obtain ⟨H1, hQ, g4, x4, w4, n4⟩ := aq wf ⟨cmdC cmdV0 cmd0, 37, true⟩
 rw [hQ]
 have rW := r.ext x4
 by_cases hlt : ws.length < 4
 ·
  clear hv
  repeat (first | refine W.w ?_ | refine aE rfl ?_ | refine aJ rfl (qaq (vs := cmdC cmdV0 cmd0) rfl rfl rfl rfl g4 rfl ?_) | (refine zz rfl ?_; first | refine qaa rfl ?_ | refine qal (v := v) rfl ?_ | refine qaz rW.os.rs rfl ?_ | refine qak rfl rfl rfl (by omega) ?_ | refine qay (out := cmdC cmdV0 cmd0) rfl rfl ?_))
  have e := planI_no (w := ws) hlt
  exact ⟨_, aV rfl rfl rfl (aF _ _ _) (Aa _), cmdV0, cmd0, by rw [e]; rfl, CmdO.nil _ _, wf.ext_set x4 (Aa _) _, fun _ => by rw [e]⟩
 ·
  obtain ⟨x, hx⟩ := gX (l := ws) (k := 2) (by omega)
  repeat (first | refine W.w ?_ | refine aG rfl ?_ | refine aJ rfl (qaL (vs := cmdC cmdV0 cmd0) rfl rfl rfl rfl rfl ?_) | (refine zz rfl ?_; first | refine qaa rfl ?_ | refine qal (v := v) rfl ?_ | refine qaz rW.os.rs rfl ?_ | refine qai rfl rfl rfl (by omega) ?_ | refine qay (out := cmdC cmdV0 cmd0) rfl rfl ?_ | refine qax ?_))
  have g6 := aB H1 ⟨cmdC cmdV0 cmd0, 37, true⟩
  have x6 := w4.ext ⟨cmdC cmdV0 cmd0, 37, true⟩
  have w6 := w4.alloc ⟨cmdC cmdV0 cmd0, 37, true⟩
  have kA : UpI h h.next H1.next cmdV0 cmd0 (H1.alloc ⟨cmdC cmdV0 cmd0, 37, true⟩) := ⟨x4.trans x6, w6, by show h.next ≤ H1.next + 1; omega, Aa _, by omega, by omega, x6.c _ _ g4, g6, CmdO.nil _ _⟩
  have rA := rW.ext x6
  clear g6 x6 w6 rW
  refine aS (h := H1.alloc ⟨cmdC cmdV0 cmd0, 37, true⟩) rfl ?_
  generalize H1.alloc ⟨cmdC cmdV0 cmd0, 37, true⟩ = H2 at kA rA ⊢
  generalize H1.next = j6 at kA ⊢
  skip
  refine zz rfl (qat rfl rfl ((qcg B v ws 3 (3 : Int) rfl H2 rA).wf_post.mono ?_))
  rintro _ H3 ⟨⟨⟨y1, b1, rfl, o1, s1⟩, xx⟩, wf2, n2⟩
  replace o1 := cF o1 kA.nx
  have kB := kA.more xx wf2 n2
  have rB := rA.ext xx
  have e1 := (cV (bW o1)).1
  clear xx wf2 n2
  repeat (first | refine W.w ?_ | (refine zz rfl ?_; first | refine qaC rfl ?_ | refine qaa rfl ?_ | refine qav rfl rfl ?_ | refine qan rfl ?_ | refine qao (v := y1) rfl ?_ | refine qal (v := y1) rfl ?_))
  repeat (first | refine W.w ?_ | refine zz rfl (qal (v := v) rfl ?_) | refine aJ rfl (qaw (b := ⟨cmdC (cmdV0) (cmd0), 37, true⟩) rfl rfl e1 kB.g6 rfl (by exact Ab rfl) ?_))
  refine aS (h := H3.set j6 ⟨cmdC ({ cmdV0 with k := y1 }) ({ cmd0 with key := b1 }), 37, true⟩) rfl ?_
  have rC := rB.put kB.g6 qeK ⟨cmdC ({ cmdV0 with k := y1 }) ({ cmd0 with key := b1 }), 37, true⟩
  have kC := kB.set wf ({ cmdV0 with k := y1 }) ({ cmd0 with key := b1 }) ⟨rfl, o1, rfl⟩
  generalize H3.set j6 ⟨cmdC ({ cmdV0 with k := y1 }) ({ cmd0 with key := b1 }), 37, true⟩ = H4 at rC kC ⊢
  by_cases c1 : x = wSplit
  ·
   rw [qhQ hlt (by rw [hx, c1])]
   repeat (first | refine W.w ?_ | refine aE rfl ?_ | refine aJ rfl (qaw (b := ⟨cmdC ({ cmdV0 with k := y1 }) ({ cmd0 with key := b1 }), 37, true⟩) rfl rfl rfl kC.g6 rfl (by exact Ab rfl) ?_) | (refine zz rfl ?_; first | refine qaa rfl ?_ | refine qaP (a := x) (b := wSplit) rfl rfl (by assumption) ?_ | refine qas rC.os.rs rfl rfl (by omega) (r.at hx) fun _ => ?_ | refine qar (bL rC.os.rs (r.at hx)) rfl rfl ?_ | refine qan rfl ?_))
   refine aS (h := H4.set j6 ⟨cmdC ({ cmdV0 with k := y1 }) ({ cmd0 with kind := 6, key := b1 }), 37, true⟩) rfl ?_
   have rD := rC.put kC.g6 qeK ⟨cmdC ({ cmdV0 with k := y1 }) ({ cmd0 with kind := 6, key := b1 }), 37, true⟩
   have kD := kC.set wf ({ cmdV0 with k := y1 }) ({ cmd0 with kind := 6, key := b1 }) ⟨rfl, kC.o.hk, rfl⟩
   generalize H4.set j6 ⟨cmdC ({ cmdV0 with k := y1 }) ({ cmd0 with kind := 6, key := b1 }), 37, true⟩ = H5 at rD kD ⊢
   repeat (first | refine W.w ?_ | refine aJ rfl (qaq (vs := cmdC ({ cmdV0 with k := y1 }) ({ cmd0 with kind := 6, key := b1 })) rfl rfl rfl (qa4 kD.o.r) kD.g4 rfl ?_) | (refine zz rfl ?_; first | refine qae rfl ?_ | refine qaa rfl ?_ | refine qam (sz := 20) rfl rfl kD.g6 (Aa _) ?_))
   refine ⟨_, aV rfl rfl rfl (aF _ _ _) (Aa _), { cmdV0 with k := y1 }, { cmd0 with kind := 6, key := b1 }, rfl, kD.o.put kD.g4 (show (37 : TypeId) ≠ 5 by decide) _, wf.ext_set kD.ext kD.n4 _, fun q => ?_⟩
   rw [s1 q]
   rfl
  by_cases c2 : x = wUnion
  ·
   rw [qh0 hlt (by rw [hx, c2])]
   repeat (first | refine W.w ?_ | refine aE rfl ?_ | refine aG rfl ?_ | refine aJ rfl (qaw (b := ⟨cmdC ({ cmdV0 with k := y1 }) ({ cmd0 with key := b1 }), 37, true⟩) rfl rfl rfl kC.g6 rfl (by exact Ab rfl) ?_) | (refine zz rfl ?_; first | refine qaa rfl ?_ | refine qaM (a := x) (b := wSplit) rfl rfl (by assumption) ?_ | refine qaP (a := x) (b := wUnion) rfl rfl (by assumption) ?_ | refine qas rC.os.rs rfl rfl (by omega) (r.at hx) fun _ => ?_ | refine qar (bL rC.os.rs (r.at hx)) rfl rfl ?_ | refine qan rfl ?_))
   refine aS (h := H4.set j6 ⟨cmdC ({ cmdV0 with k := y1 }) ({ cmd0 with kind := 7, key := b1 }), 37, true⟩) rfl ?_
   have rD := rC.put kC.g6 qeK ⟨cmdC ({ cmdV0 with k := y1 }) ({ cmd0 with kind := 7, key := b1 }), 37, true⟩
   have kD := kC.set wf ({ cmdV0 with k := y1 }) ({ cmd0 with kind := 7, key := b1 }) ⟨rfl, kC.o.hk, rfl⟩
   generalize H4.set j6 ⟨cmdC ({ cmdV0 with k := y1 }) ({ cmd0 with kind := 7, key := b1 }), 37, true⟩ = H5 at rD kD ⊢
   repeat (first | refine W.w ?_ | refine aJ rfl (qaq (vs := cmdC ({ cmdV0 with k := y1 }) ({ cmd0 with kind := 7, key := b1 })) rfl rfl rfl (qa4 kD.o.r) kD.g4 rfl ?_) | (refine zz rfl ?_; first | refine qae rfl ?_ | refine qaa rfl ?_ | refine qam (sz := 20) rfl rfl kD.g6 (Aa _) ?_))
   refine ⟨_, aV rfl rfl rfl (aF _ _ _) (Aa _), { cmdV0 with k := y1 }, { cmd0 with kind := 7, key := b1 }, rfl, kD.o.put kD.g4 (show (37 : TypeId) ≠ 5 by decide) _, wf.ext_set kD.ext kD.n4 _, fun q => ?_⟩
   rw [s1 q]
   rfl
  by_cases c3 : x = wMove
  ·
   rw [planI_move hlt (by rw [hx, c3])]
   have cn := qdp B v ws 4 4 rfl H4 rC (t.ext kC.ext)
   repeat (first | refine W.w ?_ | refine aE rfl ?_ | refine aG rfl ?_ | (refine zz rfl ?_; first | refine qaa rfl ?_ | refine qaM (a := x) (b := wSplit) rfl rfl (by assumption) ?_ | refine qaM (a := x) (b := wUnion) rfl rfl (by assumption) ?_ | refine qaP (a := x) (b := wMove) rfl rfl (by assumption) ?_ | refine qal (v := v) rfl ?_ | refine qas rC.os.rs rfl rfl (by omega) (r.at hx) fun _ => ?_ | refine qar (bL rC.os.rs (r.at hx)) rfl rfl ?_ | refine qan rfl ?_ | refine qab rfl rfl cn ?_))
   repeat (first | refine zz rfl (qan rfl ?_) | refine aJ rfl (qaw (b := ⟨cmdC ({ cmdV0 with k := y1 }) ({ cmd0 with key := b1 }), 37, true⟩) rfl rfl rfl kC.g6 rfl (by exact Ab rfl) ?_))
   refine aS (h := H4.set j6 ⟨cmdC ({ cmdV0 with k := y1 }) ({ cmd0 with kind := 8, key := b1 }), 37, true⟩) rfl ?_
   have rD := rC.put kC.g6 qeK ⟨cmdC ({ cmdV0 with k := y1 }) ({ cmd0 with kind := 8, key := b1 }), 37, true⟩
   have kD := kC.set wf ({ cmdV0 with k := y1 }) ({ cmd0 with kind := 8, key := b1 }) ⟨rfl, kC.o.hk, rfl⟩
   generalize H4.set j6 ⟨cmdC ({ cmdV0 with k := y1 }) ({ cmd0 with kind := 8, key := b1 }), 37, true⟩ = H5 at rD kD ⊢
   repeat (first | refine W.w ?_ | refine aJ rfl (qaw (b := ⟨cmdC ({ cmdV0 with k := y1 }) ({ cmd0 with kind := 8, key := b1 }), 37, true⟩) rfl rfl rfl kD.g6 rfl (by exact Ab rfl) ?_))
   refine aS (h := H5.set j6 ⟨cmdC ({ cmdV0 with k := y1 }) ({ cmd0 with kind := 8, key := b1, group := numI ws 4 }), 37, true⟩) rfl ?_
   have rE := rD.put kD.g6 qeK ⟨cmdC ({ cmdV0 with k := y1 }) ({ cmd0 with kind := 8, key := b1, group := numI ws 4 }), 37, true⟩
   have kE := kD.set wf ({ cmdV0 with k := y1 }) ({ cmd0 with kind := 8, key := b1, group := numI ws 4 }) ⟨rfl, kD.o.hk, rfl⟩
   generalize H5.set j6 ⟨cmdC ({ cmdV0 with k := y1 }) ({ cmd0 with kind := 8, key := b1, group := numI ws 4 }), 37, true⟩ = H6 at rE kE ⊢
   repeat (first | refine W.w ?_ | refine aJ rfl (qaq (vs := cmdC ({ cmdV0 with k := y1 }) ({ cmd0 with kind := 8, key := b1, group := numI ws 4 })) rfl rfl rfl (qa4 kE.o.r) kE.g4 rfl ?_) | (refine zz rfl ?_; first | refine qae rfl ?_ | refine qaa rfl ?_ | refine qam (sz := 20) rfl rfl kE.g6 (Aa _) ?_))
   refine ⟨_, aV rfl rfl rfl (aF _ _ _) (Aa _), { cmdV0 with k := y1 }, { cmd0 with kind := 8, key := b1, group := numI ws 4 }, rfl, kE.o.put kE.g4 (show (37 : TypeId) ≠ 5 by decide) _, wf.ext_set kE.ext kE.n4 _, fun q => ?_⟩
   rw [s1 q]
   rfl
  ·
   rw [planI_else hlt hx c1 c2 c3]
   repeat (first | refine W.w ?_ | refine aG rfl ?_ | (refine zz rfl ?_; first | refine qaa rfl ?_ | refine qaM (a := x) (b := wSplit) rfl rfl (by assumption) ?_ | refine qaM (a := x) (b := wUnion) rfl rfl (by assumption) ?_ | refine qaM (a := x) (b := wMove) rfl rfl (by assumption) ?_ | refine qas rC.os.rs rfl rfl (by omega) (r.at hx) fun _ => ?_ | refine qar (bL rC.os.rs (r.at hx)) rfl rfl ?_))
   repeat (first | refine W.w ?_ | refine aJ rfl (qaq (vs := cmdC ({ cmdV0 with k := y1 }) ({ cmd0 with key := b1 })) rfl rfl rfl (qa4 kC.o.r) kC.g4 rfl ?_) | (refine zz rfl ?_; first | refine qae rfl ?_ | refine qaa rfl ?_ | refine qam (sz := 20) rfl rfl kC.g6 (Aa _) ?_))
   refine ⟨_, aV rfl rfl rfl (aF _ _ _) (Aa _), { cmdV0 with k := y1 }, { cmd0 with key := b1 }, rfl, kC.o.put kC.g4 (show (37 : TypeId) ≠ 5 by decide) _, wf.ext_set kC.ext kC.n4 _, fun q => ?_⟩
   rw [s1 q]
   rfl
instance i_rAsk : FnC prog 52 := ⟨Tryz.f52, func52, by kernel_rfl, by kernel_rfl⟩
def RBs (h : Heap) : List Value → List Bytes → Prop
 | [], [] => True
 | v :: vs, l :: ll => RB h v l ∧ RBs h vs ll
 | _, _ => False
theorem RBs.at {h : Heap} : ∀ {vs : List Value} {ll : List Bytes}, RBs h vs ll → vs.length = ll.length ∧ ∀ (k : Nat) x l, vs[k]? = some x → ll[k]? = some l → RB h x l
 | [], [], _ => ⟨rfl, fun k x l hx _ => by simp at hx⟩
 | v :: vs, l :: ll, r => by
  obtain ⟨h1, h2⟩ := RBs.at r.2
  refine ⟨by simp [h1], fun k x m hx hm => ?_⟩
  cases k with
  | zero => simp at hx hm; subst hx hm; exact r.1
  | succ k => simp at hx hm; exact h2 k x m hx hm
theorem RBs.rbb {h : Heap} {v : Value} {vs : List Value} {ll : List Bytes} (r : RBs h vs ll) (rs : RS h v vs) : RBB h v ll := ⟨vs, rs, r.at.1, r.at.2⟩
theorem RBs.ext {h h' : Heap} (hx : Ext h h') : ∀ {vs : List Value} {ll : List Bytes}, RBs h vs ll → RBs h' vs ll
 | [], [], _ => trivial
 | _ :: _, _ :: _, r => ⟨r.1.ext hx, RBs.ext hx r.2⟩
theorem RBs.ones {h : Heap} : ∀ {vs : List Value} {ll : List Bytes}, RBs h vs ll → ∀ v ∈ vs, oneB v = true
 | [], [], _, v, hv => by cases hv
 | w :: vs, l :: ll, r, v, hv => by
  rcases Ak.1 hv with rfl | hv
  ·
   exact r.1.one.1
  ·
   exact RBs.ones r.2 v hv
theorem qbD (l : List Int) : ∀ v ∈ iv64 l, oneB v = true := by
 intro v hv
 obtain ⟨n, _, rfl⟩ := Bp.1 hv
 rfl
theorem rBx_c (s : Bytes) (v : Value) (l : List Bytes) {H : Heap} (r : RBB H v l) (hs : s.length ≤ 100000) (hb : ∀ b ∈ l, b.length ≤ 1000) (hl : l.length ≤ 100) (h : Heap) (hx : Ext H h) : ACalls prog 51 [str s, v] h fun u h' => u = str (s ++ tailW (l.map wordM)) ∧ h' = h := rB_c s v l h (r.ext hx) hs hb hl
theorem rNx_c (s : Bytes) (v : Value) (l : List Int) {H : Heap} (r : RS H v (iv64 l)) (hi : ∀ n ∈ l, I64 n) (hl : s.length + 22 * l.length ≤ 140737488351232) (t : Tabs H) (h : Heap) (hx : Ext H h) : ACalls prog 50 [str s, v] h fun u h' => u = str (s ++ tailW (l.map itoa)) ∧ h' = h := N_c s v l h (r.ext hx) hi hl (t.ext hx)
theorem rAsk_c (p : AskV) (a : AskM) (h : Heap) (r : AskR h p a) (hm : mayAsk a = true) (t : Tabs h) : ACalls prog 52 [.agg (askC p a).toArray] h fun u h' => u = str (joinW (askW a)) ∧ h' = h := by
 obtain ⟨l1, l2, l3, l4, l5, l6, l7, l8⟩ := qdn hm
 refine aL fun wf => aO ?_
 refine aD func52 rfl rfl ?_
 repeat (first | refine W.w ?_ | refine zz rfl (qah rfl ?_) | refine zz rfl (qaS rfl (by intro e; cases e) ?_))
 generalize hH : h.alloc _ = H
 have hg : H.get h.next = some ⟨askC p a, 29, true⟩ := hH ▸ aB _ _
 have xh : Ext h H := hH ▸ wf.ext _
 have wfH : WF H := hH ▸ wf.alloc _
 clear hH
 obtain ⟨q1, q2, q3, q4⟩ := r.ext xh
 by_cases k1 : a.kind = 1
 ·
  have he : askW a = [wGet, wordM a.key] := by unfold askW; rw [Ah k1]
  have q : RBs H [p.k] [a.key] := ⟨q1, trivial⟩
  repeat (first | refine W.w ?_ | refine aE rfl ?_ | (refine zz rfl ?_; first | refine qaa rfl ?_ | refine qan rfl ?_ | refine qaf rfl rfl hg rfl ?_ | refine qak rfl rfl rfl (by omega) ?_ | refine qaN [p.k] rfl rfl rfl rfl q.ones ?_))
  obtain ⟨H1, hQ, gr, xr, _, _⟩ := aq wfH ⟨[p.k], 27, true⟩
  rw [hQ]
  have rr : RBB H1 (.slice (some ⟨H.next, 0, some 1⟩) 1 1) [a.key] := (q.ext xr).rbb (bK gr rfl)
  have cb := rB_c wGet _ [a.key] H1 rr (by decide) (by intro b hb; simp only [Ak, As, or_false] at hb; rcases hb with rfl <;> omega) (by simp)
  repeat (first | refine W.w ?_ | refine zz rfl (qah rfl ?_) | refine zz rfl (qab rfl rfl cb ?_))
  refine ⟨_, aC rfl, rfl, xh.trans xr, ?_, rfl⟩
  rw [he, qaQ]
  rfl
 by_cases k3 : a.kind = 3
 ·
  have he : askW a = [wDelete, wordM a.key] := by unfold askW; rw [Ac k1, Ah k3]
  have q : RBs H [p.k] [a.key] := ⟨q1, trivial⟩
  repeat (first | refine W.w ?_ | refine aE rfl ?_ | refine aG rfl ?_ | (refine zz rfl ?_; first | refine qaa rfl ?_ | refine qan rfl ?_ | refine qaf rfl rfl hg rfl ?_ | refine qak rfl rfl rfl (by omega) ?_ | refine qai rfl rfl rfl (by omega) ?_ | refine qaN [p.k] rfl rfl rfl rfl q.ones ?_))
  obtain ⟨H1, hQ, gr, xr, _, _⟩ := aq wfH ⟨[p.k], 27, true⟩
  rw [hQ]
  have rr : RBB H1 (.slice (some ⟨H.next, 0, some 1⟩) 1 1) [a.key] := (q.ext xr).rbb (bK gr rfl)
  have cb := rB_c wDelete _ [a.key] H1 rr (by decide) (by intro b hb; simp only [Ak, As, or_false] at hb; rcases hb with rfl <;> omega) (by simp)
  repeat (first | refine W.w ?_ | refine zz rfl (qah rfl ?_) | refine zz rfl (qab rfl rfl cb ?_))
  refine ⟨_, aC rfl, rfl, xh.trans xr, ?_, rfl⟩
  rw [he, qaQ]
  rfl
 by_cases k2 : a.kind = 2
 ·
  have he : askW a = [wPut, wordM a.key, wordM a.value] := by unfold askW; rw [Ac k1, Ac k3, Ah k2]
  have q : RBs H [p.k, p.v] [a.key, a.value] := ⟨q1, q3, trivial⟩
  repeat (first | refine W.w ?_ | refine aE rfl ?_ | refine aG rfl ?_ | (refine zz rfl ?_; first | refine qaa rfl ?_ | refine qan rfl ?_ | refine qaf rfl rfl hg rfl ?_ | refine qak rfl rfl rfl (by omega) ?_ | refine qai rfl rfl rfl (by omega) ?_ | refine qaN [p.k, p.v] rfl rfl rfl rfl q.ones ?_))
  obtain ⟨H1, hQ, gr, xr, _, _⟩ := aq wfH ⟨[p.k, p.v], 27, true⟩
  rw [hQ]
  have rr : RBB H1 (.slice (some ⟨H.next, 0, some 1⟩) 2 2) [a.key, a.value] := (q.ext xr).rbb (bK gr rfl)
  have cb := rB_c wPut _ [a.key, a.value] H1 rr (by decide) (by intro b hb; simp only [Ak, As, or_false] at hb; rcases hb with rfl | rfl <;> omega) (by simp)
  repeat (first | refine W.w ?_ | refine zz rfl (qah rfl ?_) | refine zz rfl (qab rfl rfl cb ?_))
  refine ⟨_, aC rfl, rfl, xh.trans xr, ?_, rfl⟩
  rw [he, qaQ]
  rfl
 by_cases k5 : a.kind = 5
 ·
  have he : askW a = [wScan, wordM a.key, wordM a.to, itoa a.most] := by unfold askW; rw [Ac k1, Ac k3, Ac k2, Ah k5]
  have q : RBs H [p.k, p.t] [a.key, a.to] := ⟨q1, q2, trivial⟩
  have hb : ∀ b ∈ [a.key, a.to], b.length ≤ 1000 := by intro b hb; simp only [Ak, As, or_false] at hb; rcases hb with rfl | rfl <;> omega
  have hi : ∀ n ∈ [a.most], I64 n := by intro n hn; rw [Ax.1 hn]; exact ⟨by omega, by omega⟩
  have hsl : (wScan ++ tailW ([a.key, a.to].map wordM)).length + 22 * [a.most].length ≤ 140737488351232 := by
   have w1 := qbU a.key
   have w2 := qbU a.to
   simp only [tailW, Bq, List.map_nil, Cn, Ek, An, Ad, Ag]
   have : wScan.length = 4 := rfl
   omega
  have fin : str (wScan ++ tailW ([a.key, a.to].map wordM) ++ tailW ([a.most].map itoa)) = str (joinW (askW a)) := by
   rw [he, qaQ]
   simp [tailW]
  repeat (first | refine W.w ?_ | refine aE rfl ?_ | refine aG rfl ?_ | (refine zz rfl ?_; first | refine qaa rfl ?_ | refine qan rfl ?_ | refine qaf rfl rfl hg rfl ?_ | refine qak rfl rfl rfl (by omega) ?_ | refine qai rfl rfl rfl (by omega) ?_))
  refine cD (t := OT.seq [(0, .R), (1, .R), (2, .R), (3, .R), (6, .R), (7, .R)] (.alt (OT.seq [(4, .X), (5, .R), (8, .X), (9, .R), (10, .R)] .nil) (OT.seq [(8, .X), (4, .X), (5, .R), (9, .R), (10, .R)] .nil))) mixed (by kernel_rfl) ?_
  repeat (first | refine tr rfl rfl (fun _ hx _ => qan rfl ⟨rfl, rfl⟩) ?_ | refine tr rfl rfl (fun _ hx _ => qaf rfl rfl (hx.c _ _ hg) rfl ⟨rfl, rfl⟩) ?_)
  refine TAL.two ?_ ?_
  ·
   refine cW rfl rfl rfl (qaN [p.k, p.t] rfl rfl rfl rfl q.ones ⟨wfH.ext _, ?_⟩)
   obtain ⟨H1, hQ, g1, x1, w1, _⟩ := aq wfH ⟨[p.k, p.t], 27, true⟩
   rw [hQ]
   have cB := rBx_c wScan (.slice (some ⟨H.next, 0, some 1⟩) 2 2) [a.key, a.to] ((q.ext x1).rbb (bK g1 rfl)) (by decide) hb (by simp)
   repeat (first | refine tr rfl rfl (fun h' hx _ => qab rfl rfl (cB h' hx) ⟨rfl, rfl⟩) ?_)
   refine cW rfl rfl rfl (qaN (iv64 [a.most]) rfl rfl rfl rfl (qbD _) ⟨w1.ext _, ?_⟩)
   obtain ⟨H2, hQ, g2, x2, _, _⟩ := aq w1 ⟨iv64 [a.most], 3, true⟩
   rw [hQ]
   have cN := rNx_c (wScan ++ tailW ([a.key, a.to].map wordM)) (.slice (some ⟨H1.next, 0, some 1⟩) 1 1) [a.most] (H := H2) (bK g2 rfl) hi hsl (t.ext (xh.trans (x1.trans x2)))
   repeat (first | refine tr rfl rfl (fun _ hx _ => qah rfl ⟨rfl, rfl⟩) ?_ | refine tr rfl rfl (fun h' hx _ => qab rfl rfl (cN h' hx) ⟨rfl, rfl⟩) ?_)
   refine bD ?_
   repeat (first | refine aM ?_)
   exact ⟨_, aC rfl, rfl, xh.trans (x1.trans x2), fin, rfl⟩
  ·
   refine cW rfl rfl rfl (qaN (iv64 [a.most]) rfl rfl rfl rfl (qbD _) ⟨wfH.ext _, ?_⟩)
   obtain ⟨H1, hQ, g1, x1, w1, _⟩ := aq wfH ⟨iv64 [a.most], 3, true⟩
   rw [hQ]
   refine cW rfl rfl rfl (qaN [p.k, p.t] rfl rfl rfl rfl q.ones ⟨w1.ext _, ?_⟩)
   obtain ⟨H2, hQ, g2, x2, _, _⟩ := aq w1 ⟨[p.k, p.t], 27, true⟩
   rw [hQ]
   have cB := rBx_c wScan (.slice (some ⟨H1.next, 0, some 1⟩) 2 2) [a.key, a.to] ((q.ext (x1.trans x2)).rbb (bK g2 rfl)) (by decide) hb (by simp)
   have cN := rNx_c (wScan ++ tailW ([a.key, a.to].map wordM)) (.slice (some ⟨H.next, 0, some 1⟩) 1 1) [a.most] (H := H2) ((bK g1 rfl : RS H1 _ (iv64 [a.most])).ext x2) hi hsl (t.ext (xh.trans (x1.trans x2)))
   repeat (first | refine tr rfl rfl (fun _ hx _ => qah rfl ⟨rfl, rfl⟩) ?_ | refine tr rfl rfl (fun h' hx _ => qab rfl rfl (cB h' hx) ⟨rfl, rfl⟩) ?_ | refine tr rfl rfl (fun h' hx _ => qab rfl rfl (cN h' hx) ⟨rfl, rfl⟩) ?_)
   refine bD ?_
   repeat (first | refine aM ?_)
   exact ⟨_, aC rfl, rfl, xh.trans (x1.trans x2), fin, rfl⟩
 cases hn : a.none with
 | true =>
  have he : askW a = [wFresh, wordM a.key, wordM a.value] := by unfold askW; rw [Ac k1, Ac k3, Ac k2, Ac k5, Ah hn]
  have hnc : .bool a.none = Value.bool true := by rw [hn]
  have q : RBs H [p.k, p.v] [a.key, a.value] := ⟨q1, q3, trivial⟩
  have hg' : H.get h.next = some ⟨[.int .i64 a.kind, p.k, p.t, p.v, p.w, .bool true, .int .i64 a.most], 29, true⟩ := by rw [hg, askC, hn]
  replace hg := hg'
  have q : RBs H [p.k, p.v] [a.key, a.value] := ⟨q1, q3, trivial⟩
  repeat (first | refine W.w ?_ | refine aE rfl ?_ | refine aG rfl ?_ | (refine zz rfl ?_; first | refine qaa rfl ?_ | refine qan rfl ?_ | refine qaf rfl rfl hg rfl ?_ | refine qai rfl rfl rfl (by omega) ?_ | refine qaN [p.k, p.v] rfl rfl rfl rfl q.ones ?_))
  obtain ⟨H1, hQ, gr, xr, _, _⟩ := aq wfH ⟨[p.k, p.v], 27, true⟩
  rw [hQ]
  have rr : RBB H1 (.slice (some ⟨H.next, 0, some 1⟩) 2 2) [a.key, a.value] := (q.ext xr).rbb (bK gr rfl)
  have cb := rB_c wFresh _ [a.key, a.value] H1 rr (by decide) (by intro b hb; simp only [Ak, As, or_false] at hb; rcases hb with rfl | rfl <;> omega) (by simp)
  repeat (first | refine W.w ?_ | refine zz rfl (qah rfl ?_) | refine zz rfl (qab rfl rfl cb ?_))
  refine ⟨_, aC rfl, rfl, xh.trans xr, ?_, rfl⟩
  rw [he, qaQ]
  rfl
 | false =>
  have he : askW a = [wSwap, wordM a.key, wordM a.value, wordM a.was] := by unfold askW; rw [Ac k1, Ac k3, Ac k2, Ac k5, Ac (by rw [hn]; exact Bool.false_ne_true)]
  have hg' : H.get h.next = some ⟨[.int .i64 a.kind, p.k, p.t, p.v, p.w, .bool false, .int .i64 a.most], 29, true⟩ := by rw [hg, askC, hn]
  replace hg := hg'
  have q : RBs H [p.k, p.v, p.w] [a.key, a.value, a.was] := ⟨q1, q3, q4, trivial⟩
  repeat (first | refine W.w ?_ | refine aG rfl ?_ | (refine zz rfl ?_; first | refine qaa rfl ?_ | refine qan rfl ?_ | refine qaf rfl rfl hg rfl ?_ | refine qai rfl rfl rfl (by omega) ?_ | refine qaN [p.k, p.v, p.w] rfl rfl rfl rfl q.ones ?_))
  obtain ⟨H1, hQ, gr, xr, _, _⟩ := aq wfH ⟨[p.k, p.v, p.w], 27, true⟩
  rw [hQ]
  have rr : RBB H1 (.slice (some ⟨H.next, 0, some 1⟩) 3 3) [a.key, a.value, a.was] := (q.ext xr).rbb (bK gr rfl)
  have cb := rB_c wSwap _ [a.key, a.value, a.was] H1 rr (by decide) (by intro b hb; simp only [Ak, As, or_false] at hb; rcases hb with rfl | rfl | rfl <;> omega) (by simp)
  repeat (first | refine W.w ?_ | refine zz rfl (qah rfl ?_) | refine zz rfl (qab rfl rfl cb ?_))
  refine ⟨_, aC rfl, rfl, xh.trans xr, ?_, rfl⟩
  rw [he, qaQ]
  rfl
end Go.Proofs.YtigmojilaadbhaaGreatDoor
