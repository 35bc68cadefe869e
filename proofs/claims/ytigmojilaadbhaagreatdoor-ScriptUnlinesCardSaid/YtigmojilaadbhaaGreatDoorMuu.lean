/-
  Texts of one claim, merged: 3 parts.
-/
import Derived.Test.YtigmojilaadbhaaGreatDoorMuh
import Derived.Test.YtigmojilaadbhaaGreatDoorMut
import Derived.Test.YtigmojilaadbhaaGreatDoorMus
set_option maxHeartbeats 16000000
/- . -/
namespace Go.Pln
open Go Go.Lib
theorem askI_no {w : List Bytes} {i : Nat} (h : w.length ≤ i) : askI w i = (ask0, false) := by unfold askI; rw [if_pos h]
theorem askI_get {w : List Bytes} {i : Nat} (h : ¬ w.length ≤ i) (hx : w[i]? = some wGet) : askI w i = ({ ask0 with kind := 1, key := (wordI w (i + 1)).getD [] }, (wordI w (i + 1)).isSome) := by
 unfold askI
 rw [if_neg h, hx]
 simp only [Option.getD_some]
 rw [if_pos trivial]
theorem qha {w : List Bytes} {i : Nat} (h : ¬ w.length ≤ i) (hx : w[i]? = some wDelete) : askI w i = ({ ask0 with kind := 3, key := (wordI w (i + 1)).getD [] }, (wordI w (i + 1)).isSome) := by
 unfold askI
 rw [if_neg h, hx]
 simp only [Option.getD_some]
 rw [if_neg (by decide), if_pos trivial]
theorem askI_put {w : List Bytes} {i : Nat} (h : ¬ w.length ≤ i) (hx : w[i]? = some wPut) : askI w i = ({ ask0 with kind := 2, key := (wordI w (i + 1)).getD [], value := (wordI w (i + 2)).getD [] }, (wordI w (i + 1)).isSome && (wordI w (i + 2)).isSome) := by
 unfold askI
 rw [if_neg h, hx]
 simp only [Option.getD_some]
 rw [if_neg (by decide), if_neg (by decide), if_pos (by decide), if_neg (by decide), if_pos trivial]
 rfl
theorem askI_fresh {w : List Bytes} {i : Nat} (h : ¬ w.length ≤ i) (hx : w[i]? = some wFresh) : askI w i = ({ ask0 with kind := 4, none := true, key := (wordI w (i + 1)).getD [], value := (wordI w (i + 2)).getD [] }, (wordI w (i + 1)).isSome && (wordI w (i + 2)).isSome) := by
 unfold askI
 rw [if_neg h, hx]
 simp only [Option.getD_some]
 rw [if_neg (by decide), if_neg (by decide), if_pos (by decide), if_neg (by decide), if_neg (by decide)]
 rfl
theorem askI_swap {w : List Bytes} {i : Nat} (h : ¬ w.length ≤ i) (hx : w[i]? = some wSwap) : askI w i = ({ ask0 with kind := 4, key := (wordI w (i + 1)).getD [], value := (wordI w (i + 2)).getD [], was := (wordI w (i + 3)).getD [] }, (wordI w (i + 1)).isSome && (wordI w (i + 2)).isSome && (wordI w (i + 3)).isSome) := by
 unfold askI
 rw [if_neg h, hx]
 simp only [Option.getD_some]
 rw [if_neg (by decide), if_neg (by decide), if_pos (by decide), if_pos trivial, if_neg (by decide)]
 rfl
theorem askI_scan {w : List Bytes} {i : Nat} (h : ¬ w.length ≤ i) (hx : w[i]? = some wScan) : askI w i = ({ ask0 with kind := 5, key := (wordI w (i + 1)).getD [], «to» := (wordI w (i + 2)).getD [], most := numI w (i + 3) }, (wordI w (i + 1)).isSome && (wordI w (i + 2)).isSome) := by
 unfold askI
 rw [if_neg h, hx]
 simp only [Option.getD_some]
 rw [if_neg (by decide), if_neg (by decide), if_neg (by decide), if_pos trivial]
theorem askI_else {w : List Bytes} {i : Nat} {x : Bytes} (h : ¬ w.length ≤ i) (hx : w[i]? = some x) (h1 : ¬ x = wGet) (h2 : ¬ x = wDelete) (h3 : ¬ x = wPut) (h4 : ¬ x = wFresh) (h5 : ¬ x = wSwap) (h6 : ¬ x = wScan) : askI w i = ({ ask0 with key := (wordI w (i + 1)).getD [] }, (wordI w (i + 1)).isSome) := by
 unfold askI
 rw [if_neg h, hx]
 simp only [Option.getD_some]
 rw [if_neg h1, if_neg h2, if_neg (by rintro (e | e | e) <;> contradiction), if_neg h6]
theorem planI_no {w : List Bytes} (h : w.length < 4) : planI w = (cmd0, false) := by unfold planI; rw [if_pos h]
theorem qhf {w : List Bytes} (h : ¬ w.length < 4) (hx : w[2]? = some wSplit) : planI w = ({ cmd0 with kind := 6, key := (wordI w 3).getD [] }, (wordI w 3).isSome) := by
 unfold planI
 rw [if_neg h, hx]
 simp only [Option.getD_some]
 rw [if_pos trivial]
theorem qhb {w : List Bytes} (h : ¬ w.length < 4) (hx : w[2]? = some wUnion) : planI w = ({ cmd0 with kind := 7, key := (wordI w 3).getD [] }, (wordI w 3).isSome) := by
 unfold planI
 rw [if_neg h, hx]
 simp only [Option.getD_some]
 rw [if_neg (by decide), if_pos trivial]
theorem planI_move {w : List Bytes} (h : ¬ w.length < 4) (hx : w[2]? = some wMove) : planI w = ({ cmd0 with kind := 8, key := (wordI w 3).getD [], group := numI w 4 }, (wordI w 3).isSome) := by
 unfold planI
 rw [if_neg h, hx]
 simp only [Option.getD_some]
 rw [if_neg (by decide), if_neg (by decide), if_pos trivial]
theorem planI_else {w : List Bytes} {x : Bytes} (h : ¬ w.length < 4) (hx : w[2]? = some x) (h1 : ¬ x = wSplit) (h2 : ¬ x = wUnion) (h3 : ¬ x = wMove) : planI w = ({ cmd0 with key := (wordI w 3).getD [] }, (wordI w 3).isSome) := by
 unfold planI
 rw [if_neg h, hx]
 simp only [Option.getD_some]
 rw [if_neg h1, if_neg h2, if_neg h3]
end Go.Pln
/- . -/
namespace Go.Proofs.YtigmojilaadbhaaGreatDoor
open Go Go.Eng Go.Pln Go.Lib
attribute [local irreducible] AWp AL DAL AOp TAL
instance i_rwordI : FnC Tryz.prog 106 := ⟨Tryz.f106, Tryz.func106, by kernel_rfl, by kernel_rfl⟩
instance i_rnumI : FnC Tryz.prog 56 := ⟨Tryz.f56, Tryz.func56, by kernel_rfl, by kernel_rfl⟩
instance i_runask : FnC Tryz.prog 58 := ⟨Tryz.f58, Tryz.func58, by kernel_rfl, by kernel_rfl⟩
instance i_rplanI : FnC Tryz.prog 57 := ⟨Tryz.f57, Tryz.func57, by kernel_rfl, by kernel_rfl⟩
structure RW (B : Nat) (h : Heap) (v : Value) (ws : List Bytes) : Prop where
 os : OS B h 9 v (ws.map str)
 len : ws.length ≤ 1000000000
 all : ∀ w ∈ ws, w.length ≤ 100000000
theorem RW.ext {B : Nat} {h h' : Heap} {v : Value} {ws : List Bytes} (r : RW B h v ws) (hx : Ext h h') : RW B h' v ws := ⟨r.os.ext hx, r.len, r.all⟩
theorem RW.put {B : Nat} {h : Heap} {v : Value} {ws : List Bytes} {j : Nat} {x : Blk} (r : RW B h v ws) (hb : h.get j = some x) (hx : x.elem ≠ 9) (b : Blk) : RW B (h.set j b) v ws := ⟨OS.put r.os hb hx b, r.len, r.all⟩
def WiOk (B : Nat) (ws : List Bytes) (i : Nat) (u : Value) (h' : Heap) : Prop := ∃ v b, u = .tuple #[v, .bool (wordI ws i).isSome] ∧ OS B h' 5 v (bv b) ∧ ((wordI ws i).isSome = true → wordI ws i = some b)
theorem qci (B : Nat) (v : Value) (ws : List Bytes) (i : Nat) (a : Int) (ha : a = (i : Nat)) (h : Heap) (r : RW B h v ws) : ACalls Tryz.prog 106 [v, .int .i64 a] h fun u h' => WiOk h.next ws i u h' ∧ Ext h h' := by
 subst ha
 refine ACalls.wf fun wf => ?_
 refine ACalls.body Tryz.func106 rfl rfl ?_
 have rs := r.os.rs
 obtain ⟨va, vc, hv⟩ := RS.slice rs
 have hml : (ws.map str).length = ws.length := List.length_map _
 have hl := r.len
 by_cases hi : i < ws.length
 ·
  obtain ⟨w, hw⟩ : ∃ w, ws[i]? = some w := ⟨_, List.getElem?_eq_getElem hi⟩
  have hw2 : (ws.map str)[((i : Nat) : Int).toNat]? = some (str w) := by
   show (ws.map str)[i]? = _
   rw [List.getElem?_map, hw]
   rfl
  have cu := runword_c w h (r.all w (List.mem_of_getElem? hw))
  have hwi : wordI ws i = unwordR w := by unfold wordI; rw [hw]
  repeat (first | refine W.w ?_ | refine AWp.c9 rfl ?_ | (refine zz rfl ?_; first | refine qac rfl ?_ | refine qaZ rfl ?_ | refine qaa rfl ?_ | refine qal (v := v) rfl ?_ | refine qaS rs rfl ?_ | refine qak rfl rfl rfl (by omega) ?_ | refine qaA rs rfl rfl (by omega) hw2 fun _ => ?_ | refine qat (PT.of rs hw2) rfl rfl ?_))
  refine zz rfl (qar (evs := [str w]) rfl rfl (cu.mono ?_))
  rintro _ H1 ⟨x, b, rfl, o, _, xx, hs⟩
  repeat (first | refine W.w ?_ | (refine zz rfl ?_; first | refine qaa rfl ?_ | refine qav rfl rfl ?_ | refine qaq (v := x) rfl ?_))
  rw [← hwi] at hs
  exact ⟨_, ResV.tmp2 rfl, ⟨x, b, by rw [hwi]; rfl, o, hs⟩, xx⟩
 ·
  have hwi : wordI ws i = none := by unfold wordI; rw [List.getElem?_eq_none (by omega)]
  repeat (first | refine W.w ?_ | refine AWp.c8 rfl ?_ | (refine zz rfl ?_; first | refine qac rfl ?_ | refine qaZ rfl ?_ | refine qaa rfl ?_ | refine qal (v := v) rfl ?_ | refine qaS rs rfl ?_ | refine qam rfl rfl rfl (by omega) ?_))
  exact ⟨_, ResV.tmp2 rfl, ⟨.slice none 0 0, [], by rw [hwi]; rfl, OS.nil _ _ _, fun q => by rw [hwi] at q; cases q⟩, Ext.refl h⟩
theorem qdc (B : Nat) (v : Value) (ws : List Bytes) (i : Nat) (a : Int) (ha : a = (i : Nat)) (h : Heap) (r : RW B h v ws) (t : Tabs h) : ACalls Tryz.prog 56 [v, .int .i64 a] h fun u h' => u = .int .i64 (numI ws i) ∧ h' = h := by
 subst ha
 refine ACalls.body Tryz.func56 rfl rfl ?_
 have rs := r.os.rs
 obtain ⟨va, vc, hv⟩ := RS.slice rs
 have hml : (ws.map str).length = ws.length := List.length_map _
 have hl := r.len
 by_cases hi : i < ws.length
 ·
  obtain ⟨w, hw⟩ : ∃ w, ws[i]? = some w := ⟨_, List.getElem?_eq_getElem hi⟩
  have hw2 : (ws.map str)[((i : Nat) : Int).toNat]? = some (str w) := by
   show (ws.map str)[i]? = _
   rw [List.getElem?_map, hw]
   rfl
  have cu := rnum_c w h (by have := r.all w (List.mem_of_getElem? hw); omega) t
  repeat (first | refine W.w ?_ | refine AWp.c9 rfl ?_ | (refine zz rfl ?_; first | refine qac rfl ?_ | refine qad rfl ?_ | refine qal (v := v) rfl ?_ | refine qaS rs rfl ?_ | refine qak rfl rfl rfl (by omega) ?_ | refine qaA rs rfl rfl (by omega) hw2 fun _ => ?_ | refine qat (PT.of rs hw2) rfl rfl ?_ | refine qab rfl rfl cu ?_))
  exact ⟨_, ResV.tmp rfl, by unfold numI; rw [hw]; rfl, rfl⟩
 ·
  repeat (first | refine W.w ?_ | refine AWp.c8 rfl ?_ | (refine zz rfl ?_; first | refine qac rfl ?_ | refine qad rfl ?_ | refine qal (v := v) rfl ?_ | refine qaS rs rfl ?_ | refine qam rfl rfl rfl (by omega) ?_))
  exact ⟨_, ResV.tmp rfl, by unfold numI; rw [List.getElem?_eq_none (by omega)]; rfl, rfl⟩
structure UaI (h : Heap) (j4 j6 : Nat) (q : AskV) (a : AskM) (H : Heap) : Prop where
 ext : Ext h H
 wf : WF H
 nx : h.next ≤ H.next
 n4 : h.next ≤ j4
 n6 : h.next ≤ j6
 ne : j4 ≠ j6
 g4 : H.get j4 = some ⟨askC askV0 ask0, 29, true⟩
 g6 : H.get j6 = some ⟨askC q a, 29, true⟩
 o : AskO h.next H q a
theorem AskO.ext {B : Nat} {h h' : Heap} {q : AskV} {a : AskM} (o : AskO B h q a) (hx : Ext h h') : AskO B h' q a := ⟨o.k.ext hx, o.t.ext hx, o.v.ext hx, o.w.ext hx⟩
theorem AskO.put {B : Nat} {h : Heap} {q : AskV} {a : AskM} {j : Nat} {x : Blk} (o : AskO B h q a) (hb : h.get j = some x) (hx : x.elem ≠ 5) (b : Blk) : AskO B (h.set j b) q a := ⟨OS.put o.k hb hx b, OS.put o.t hb hx b, OS.put o.v hb hx b, OS.put o.w hb hx b⟩
theorem UaI.more {h H H' : Heap} {j4 j6 : Nat} {q : AskV} {a : AskM} (k : UaI h j4 j6 q a H) (hx : Ext H H') (wf : WF H') (hn : H.next ≤ H'.next) : UaI h j4 j6 q a H' := ⟨k.ext.trans hx, wf, Nat.le_trans k.nx hn, k.n4, k.n6, k.ne, hx.c _ _ k.g4, hx.c _ _ k.g6, k.o.ext hx⟩
theorem UaI.set {h H : Heap} {j4 j6 : Nat} {q : AskV} {a : AskM} (k : UaI h j4 j6 q a H) (wf : WF h) (q' : AskV) (a' : AskM) (o : AskO h.next H q' a') : UaI h j4 j6 q' a' (H.set j6 ⟨askC q' a', 29, true⟩) :=
 ⟨wf.ext_set k.ext k.n6 _, k.wf.set (k.wf.lt k.g6) _, k.nx, k.n4, k.n6, k.ne, (Heap.set_other k.ne).trans k.g4, Heap.set_at _ _ _, o.put k.g6 (show (29 : TypeId) ≠ 5 by decide) _⟩
theorem qbP : (29 : TypeId) ≠ 9 := by decide
theorem RW.at {B : Nat} {h : Heap} {v : Value} {ws : List Bytes} (_ : RW B h v ws) {i : Nat} {x : Bytes} (hx : ws[i]? = some x) : (ws.map str)[((i : Nat) : Int).toNat]? = some (str x) := by
 show (ws.map str)[i]? = _
 rw [List.getElem?_map, hx]
 rfl
theorem runask_c (B : Nat) (v : Value) (ws : List Bytes) (i : Nat) (hi : i ≤ 100) (h : Heap) (r : RW B h v ws) (t : Tabs h) (_h8 : 8 ≤ h.next) : ACalls Tryz.prog 58 [v, .int .i64 (i : Nat)] h fun u h' => ∃ q a, u = .tuple #[.agg (askC q a).toArray, .bool (askI ws i).2] ∧ AskO h.next h' q a ∧ Ext h h' ∧ ((askI ws i).2 = true → a = (askI ws i).1) := by
 refine ACalls.wf fun wf => ?_
 refine ACalls.body Tryz.func58 rfl rfl ?_
 obtain ⟨va, vc, hv⟩ := RS.slice r.os.rs
 have hml : (ws.map str).length = ws.length := List.length_map _
 have hl := r.len
 repeat (first | refine W.w ?_)
 refine zz rfl (qaw ?_)
 refine AL.heap (h := h.alloc ⟨askC askV0 ask0, 29, true⟩) rfl ?_
 obtain ⟨H1, hQ, g4, x4, w4, n4⟩ := aq wf ⟨askC askV0 ask0, 29, true⟩
 rw [hQ]
 have rW := r.ext x4
 by_cases hlt : i < ws.length
 ·
  have hnl : ¬ ws.length ≤ i := by omega
  obtain ⟨x, hx⟩ : ∃ x, ws[i]? = some x := ⟨_, List.getElem?_eq_getElem hlt⟩
  repeat (first | refine W.w ?_ | refine AWp.c9 rfl ?_ | refine AL.eff rfl (qaE (vs := askC askV0 ask0) rfl rfl rfl rfl rfl ?_) | (refine zz rfl ?_; first | refine qac rfl ?_ | refine qaa rfl ?_ | refine qal (v := v) rfl ?_ | refine qaS rW.os.rs rfl ?_ | refine qak rfl rfl rfl (by omega) ?_ | refine qax (out := askC askV0 ask0) rfl rfl ?_ | refine qaw ?_ | refine qas rfl rfl (by omega) ?_))
  have g6 := Heap.alloc_new H1 ⟨askC askV0 ask0, 29, true⟩
  have x6 := w4.ext ⟨askC askV0 ask0, 29, true⟩
  have w6 := w4.alloc ⟨askC askV0 ask0, 29, true⟩
  have kA : UaI h h.next H1.next askV0 ask0 (H1.alloc ⟨askC askV0 ask0, 29, true⟩) := ⟨x4.trans x6, w6, by show h.next ≤ H1.next + 1; omega, Nat.le_refl _, by omega, by omega, x6.c _ _ g4, g6, AskO.nil _ _⟩
  have rA := rW.ext x6
  clear g6 x6 w6 rW
  refine AL.heap (h := H1.alloc ⟨askC askV0 ask0, 29, true⟩) rfl ?_
  generalize H1.alloc ⟨askC askV0 ask0, 29, true⟩ = H2 at kA rA ⊢
  generalize H1.next = j6 at kA ⊢
  refine zz rfl (qar rfl rfl ((qci B v ws (i + 1) (((i : Nat) : Int) + 1) (by omega) H2 rA).wf_post.mono ?_))
  rintro _ H3 ⟨⟨⟨y1, b1, rfl, o1, s1⟩, xx⟩, wf2, n2⟩
  replace o1 := OS.low o1 kA.nx
  have kB := kA.more xx wf2 n2
  have rB := rA.ext xx
  have e1 := (RS.one (OS.rs o1)).1
  clear xx wf2 n2
  repeat (first | refine W.w ?_ | (refine zz rfl ?_; first | refine qaH rfl ?_ | refine qaa rfl ?_ | refine qav rfl rfl ?_ | refine qao rfl ?_ | refine qaq (v := y1) rfl ?_ | refine qal (v := y1) rfl ?_))
  repeat (first | refine W.w ?_ | refine zz rfl (qac rfl ?_) | refine zz rfl (qal (v := v) rfl ?_) | refine AL.eff rfl (qau (b := ⟨askC (askV0) (ask0), 29, true⟩) rfl rfl e1 kB.g6 rfl (by exact Nat.le_of_ble_eq_true rfl) ?_))
  refine AL.heap (h := H3.set j6 ⟨askC ({ askV0 with k := y1 }) ({ ask0 with key := b1 }), 29, true⟩) rfl ?_
  have rC := rB.put kB.g6 qbP ⟨askC ({ askV0 with k := y1 }) ({ ask0 with key := b1 }), 29, true⟩
  have kC := kB.set wf ({ askV0 with k := y1 }) ({ ask0 with key := b1 }) ⟨o1, OS.nil _ _ _, OS.nil _ _ _, OS.nil _ _ _⟩
  generalize H3.set j6 ⟨askC ({ askV0 with k := y1 }) ({ ask0 with key := b1 }), 29, true⟩ = H4 at rC kC ⊢
  by_cases c1 : x = wGet
  ·
   rw [askI_get hnl (by rw [hx, c1])]
   repeat (first | refine W.w ?_ | refine AWp.c8 rfl ?_ | refine AL.eff rfl (qau (b := ⟨askC ({ askV0 with k := y1 }) ({ ask0 with key := b1 }), 29, true⟩) rfl rfl rfl kC.g6 rfl (by exact Nat.le_of_ble_eq_true rfl) ?_) | (refine zz rfl ?_; first | refine qaa rfl ?_ | refine qaO (a := x) (b := wGet) rfl rfl (by assumption) ?_ | refine qaA rC.os.rs rfl rfl (by omega) (r.at hx) fun _ => ?_ | refine qat (PT.of rC.os.rs (r.at hx)) rfl rfl ?_ | refine qao rfl ?_))
   refine AL.heap (h := H4.set j6 ⟨askC ({ askV0 with k := y1 }) ({ ask0 with kind := 1, key := b1 }), 29, true⟩) rfl ?_
   have rD := rC.put kC.g6 qbP ⟨askC ({ askV0 with k := y1 }) ({ ask0 with kind := 1, key := b1 }), 29, true⟩
   have kD := kC.set wf ({ askV0 with k := y1 }) ({ ask0 with kind := 1, key := b1 }) ⟨kC.o.k, kC.o.t, kC.o.v, kC.o.w⟩
   generalize H4.set j6 ⟨askC ({ askV0 with k := y1 }) ({ ask0 with kind := 1, key := b1 }), 29, true⟩ = H5 at rD kD ⊢
   cases f1 : (wordI ws (i + 1)).isSome
   ·
    repeat (first | refine W.w ?_ | refine AL.skip rfl rfl ?_ | refine AL.eff rfl (qan (vs := askC ({ askV0 with k := y1 }) ({ ask0 with kind := 1, key := b1 })) rfl rfl rfl (qaU kD.o.r) kD.g4 rfl ?_) | (refine zz rfl ?_; first | refine qae rfl ?_ | refine qaa rfl ?_ | refine qaj (sz := 7) rfl rfl kD.g6 (Nat.le_refl _) ?_ | refine qah (v := .bool _) rfl rfl ?_))
    refine ⟨_, ResV.cell2 rfl rfl rfl (Heap.set_at _ _ _) (Nat.le_refl _), { askV0 with k := y1 }, { ask0 with kind := 1, key := b1 }, rfl, kD.o.put kD.g4 (show (29 : TypeId) ≠ 5 by decide) _, wf.ext_set kD.ext kD.n4 _, ?_⟩
    intro q; cases q
   ·
    repeat (first | refine W.w ?_ | refine AL.eff rfl (qan (vs := askC ({ askV0 with k := y1 }) ({ ask0 with kind := 1, key := b1 })) rfl rfl rfl (qaU kD.o.r) kD.g4 rfl ?_) | (refine zz rfl ?_; first | refine qae rfl ?_ | refine qaa rfl ?_ | refine qaj (sz := 7) rfl rfl kD.g6 (Nat.le_refl _) ?_ | refine qah (v := .bool _) rfl rfl ?_))
    refine ⟨_, ResV.cell2 rfl rfl rfl (Heap.set_at _ _ _) (Nat.le_refl _), { askV0 with k := y1 }, { ask0 with kind := 1, key := b1 }, rfl, kD.o.put kD.g4 (show (29 : TypeId) ≠ 5 by decide) _, wf.ext_set kD.ext kD.n4 _, ?_⟩
    intro _; rw [s1 f1]; rfl
  by_cases c2 : x = wDelete
  ·
   rw [qha hnl (by rw [hx, c2])]
   repeat (first | refine W.w ?_ | refine AWp.c8 rfl ?_ | refine AWp.c9 rfl ?_ | refine AL.eff rfl (qau (b := ⟨askC ({ askV0 with k := y1 }) ({ ask0 with key := b1 }), 29, true⟩) rfl rfl rfl kC.g6 rfl (by exact Nat.le_of_ble_eq_true rfl) ?_) | (refine zz rfl ?_; first | refine qaa rfl ?_ | refine qaK (a := x) (b := wGet) rfl rfl (by assumption) ?_ | refine qaO (a := x) (b := wDelete) rfl rfl (by assumption) ?_ | refine qaA rC.os.rs rfl rfl (by omega) (r.at hx) fun _ => ?_ | refine qat (PT.of rC.os.rs (r.at hx)) rfl rfl ?_ | refine qao rfl ?_))
   refine AL.heap (h := H4.set j6 ⟨askC ({ askV0 with k := y1 }) ({ ask0 with kind := 3, key := b1 }), 29, true⟩) rfl ?_
   have rD := rC.put kC.g6 qbP ⟨askC ({ askV0 with k := y1 }) ({ ask0 with kind := 3, key := b1 }), 29, true⟩
   have kD := kC.set wf ({ askV0 with k := y1 }) ({ ask0 with kind := 3, key := b1 }) ⟨kC.o.k, kC.o.t, kC.o.v, kC.o.w⟩
   generalize H4.set j6 ⟨askC ({ askV0 with k := y1 }) ({ ask0 with kind := 3, key := b1 }), 29, true⟩ = H5 at rD kD ⊢
   cases f1 : (wordI ws (i + 1)).isSome
   ·
    repeat (first | refine W.w ?_ | refine AL.skip rfl rfl ?_ | refine AL.eff rfl (qan (vs := askC ({ askV0 with k := y1 }) ({ ask0 with kind := 3, key := b1 })) rfl rfl rfl (qaU kD.o.r) kD.g4 rfl ?_) | (refine zz rfl ?_; first | refine qae rfl ?_ | refine qaa rfl ?_ | refine qaj (sz := 7) rfl rfl kD.g6 (Nat.le_refl _) ?_ | refine qah (v := .bool _) rfl rfl ?_))
    refine ⟨_, ResV.cell2 rfl rfl rfl (Heap.set_at _ _ _) (Nat.le_refl _), { askV0 with k := y1 }, { ask0 with kind := 3, key := b1 }, rfl, kD.o.put kD.g4 (show (29 : TypeId) ≠ 5 by decide) _, wf.ext_set kD.ext kD.n4 _, ?_⟩
    intro q; cases q
   ·
    repeat (first | refine W.w ?_ | refine AL.eff rfl (qan (vs := askC ({ askV0 with k := y1 }) ({ ask0 with kind := 3, key := b1 })) rfl rfl rfl (qaU kD.o.r) kD.g4 rfl ?_) | (refine zz rfl ?_; first | refine qae rfl ?_ | refine qaa rfl ?_ | refine qaj (sz := 7) rfl rfl kD.g6 (Nat.le_refl _) ?_ | refine qah (v := .bool _) rfl rfl ?_))
    refine ⟨_, ResV.cell2 rfl rfl rfl (Heap.set_at _ _ _) (Nat.le_refl _), { askV0 with k := y1 }, { ask0 with kind := 3, key := b1 }, rfl, kD.o.put kD.g4 (show (29 : TypeId) ≠ 5 by decide) _, wf.ext_set kD.ext kD.n4 _, ?_⟩
    intro _; rw [s1 f1]; rfl
  by_cases c3 : x = wPut
  ·
   rw [askI_put hnl (by rw [hx, c3])]
   have c4 : ¬ x = wFresh := by rw [c3]; decide
   have c5 : ¬ x = wSwap := by rw [c3]; decide
   repeat (first | refine W.w ?_ | refine AWp.c8 rfl ?_ | refine AWp.c9 rfl ?_ | refine AL.eff rfl (qau (b := ⟨askC ({ askV0 with k := y1 }) ({ ask0 with key := b1 }), 29, true⟩) rfl rfl rfl kC.g6 rfl (by exact Nat.le_of_ble_eq_true rfl) ?_) | (refine zz rfl ?_; first | refine qac rfl ?_ | refine qaa rfl ?_ | refine qaK (a := x) (b := wGet) rfl rfl (by assumption) ?_ | refine qaK (a := x) (b := wDelete) rfl rfl (by assumption) ?_ | refine qaO (a := x) (b := wPut) rfl rfl (by assumption) ?_ | refine qal (v := v) rfl ?_ | refine qaA rC.os.rs rfl rfl (by omega) (r.at hx) fun _ => ?_ | refine qat (PT.of rC.os.rs (r.at hx)) rfl rfl ?_ | refine qao rfl ?_))
   refine AL.heap (h := H4.set j6 ⟨askC ({ askV0 with k := y1 }) ({ ask0 with kind := 4, key := b1 }), 29, true⟩) rfl ?_
   have rD := rC.put kC.g6 qbP ⟨askC ({ askV0 with k := y1 }) ({ ask0 with kind := 4, key := b1 }), 29, true⟩
   have kD := kC.set wf ({ askV0 with k := y1 }) ({ ask0 with kind := 4, key := b1 }) ⟨kC.o.k, kC.o.t, kC.o.v, kC.o.w⟩
   generalize H4.set j6 ⟨askC ({ askV0 with k := y1 }) ({ ask0 with kind := 4, key := b1 }), 29, true⟩ = H5 at rD kD ⊢
   repeat (first | refine W.w ?_ | refine AL.eff rfl (qau (b := ⟨askC ({ askV0 with k := y1 }) ({ ask0 with kind := 4, key := b1 }), 29, true⟩) rfl rfl rfl kD.g6 rfl (by exact Nat.le_of_ble_eq_true rfl) ?_) | (refine zz rfl ?_; first | refine qac rfl ?_ | refine qaK (a := x) (b := wFresh) rfl rfl (by assumption) ?_ | refine qal (v := v) rfl ?_ | refine qaA rD.os.rs rfl rfl (by omega) (r.at hx) fun _ => ?_ | refine qat (PT.of rD.os.rs (r.at hx)) rfl rfl ?_ | refine qao rfl ?_ | refine qas rfl rfl (by omega) ?_))
   refine AL.heap (h := H5.set j6 ⟨askC ({ askV0 with k := y1 }) ({ ask0 with kind := 4, key := b1, none := false }), 29, true⟩) rfl ?_
   have rE := rD.put kD.g6 qbP ⟨askC ({ askV0 with k := y1 }) ({ ask0 with kind := 4, key := b1, none := false }), 29, true⟩
   have kE := kD.set wf ({ askV0 with k := y1 }) ({ ask0 with kind := 4, key := b1, none := false }) ⟨kD.o.k, kD.o.t, kD.o.v, kD.o.w⟩
   generalize H5.set j6 ⟨askC ({ askV0 with k := y1 }) ({ ask0 with kind := 4, key := b1, none := false }), 29, true⟩ = H6 at rE kE ⊢
   skip
   refine zz rfl (qar rfl rfl ((qci B v ws (i + 2) (((i : Nat) : Int) + 2) (by omega) H6 rE).wf_post.mono ?_))
   rintro _ H7 ⟨⟨⟨y2, b2, rfl, o2, s2⟩, xx⟩, wf2, n2⟩
   replace o2 := OS.low o2 kE.nx
   have kF := kE.more xx wf2 n2
   have rF := rE.ext xx
   have e2 := (RS.one (OS.rs o2)).1
   clear xx wf2 n2
   repeat (first | refine W.w ?_ | refine AL.eff rfl (qau (b := ⟨askC ({ askV0 with k := y1 }) ({ ask0 with kind := 4, key := b1, none := false }), 29, true⟩) rfl rfl e2 kF.g6 rfl (by exact Nat.le_of_ble_eq_true rfl) ?_) | (refine zz rfl ?_; first | refine qac rfl ?_ | refine qaH rfl ?_ | refine qaa rfl ?_ | refine qal (v := v) rfl ?_ | refine qav rfl rfl ?_ | refine qao rfl ?_))
   refine AL.heap (h := H7.set j6 ⟨askC ({ askV0 with k := y1, v := y2 }) ({ ask0 with kind := 4, key := b1, none := false, value := b2 }), 29, true⟩) rfl ?_
   have rG := rF.put kF.g6 qbP ⟨askC ({ askV0 with k := y1, v := y2 }) ({ ask0 with kind := 4, key := b1, none := false, value := b2 }), 29, true⟩
   have kG := kF.set wf ({ askV0 with k := y1, v := y2 }) ({ ask0 with kind := 4, key := b1, none := false, value := b2 }) ⟨kF.o.k, OS.nil _ _ _, o2, OS.nil _ _ _⟩
   generalize H7.set j6 ⟨askC ({ askV0 with k := y1, v := y2 }) ({ ask0 with kind := 4, key := b1, none := false, value := b2 }), 29, true⟩ = H8 at rG kG ⊢
   repeat (first | refine W.w ?_ | refine AWp.c8 rfl ?_ | refine AL.eff rfl (qau (b := ⟨askC ({ askV0 with k := y1, v := y2 }) ({ ask0 with kind := 4, key := b1, none := false, value := b2 }), 29, true⟩) rfl rfl rfl kG.g6 rfl (by exact Nat.le_of_ble_eq_true rfl) ?_) | (refine zz rfl ?_; first | refine qac rfl ?_ | refine qaO (a := x) (b := wPut) rfl rfl (by assumption) ?_ | refine qal (v := v) rfl ?_ | refine qaA rG.os.rs rfl rfl (by omega) (r.at hx) fun _ => ?_ | refine qat (PT.of rG.os.rs (r.at hx)) rfl rfl ?_ | refine qao rfl ?_))
   refine AL.heap (h := H8.set j6 ⟨askC ({ askV0 with k := y1, v := y2 }) ({ ask0 with kind := 2, key := b1, value := b2 }), 29, true⟩) rfl ?_
   have rH := rG.put kG.g6 qbP ⟨askC ({ askV0 with k := y1, v := y2 }) ({ ask0 with kind := 2, key := b1, value := b2 }), 29, true⟩
   have kH := kG.set wf ({ askV0 with k := y1, v := y2 }) ({ ask0 with kind := 2, key := b1, value := b2 }) ⟨kG.o.k, kG.o.t, kG.o.v, kG.o.w⟩
   generalize H8.set j6 ⟨askC ({ askV0 with k := y1, v := y2 }) ({ ask0 with kind := 2, key := b1, value := b2 }), 29, true⟩ = H9 at rH kH ⊢
   repeat (first | refine W.w ?_ | refine AWp.c9 rfl ?_ | (refine zz rfl ?_; first | refine qaK (a := x) (b := wSwap) rfl rfl (by assumption) ?_ | refine qaA rH.os.rs rfl rfl (by omega) (r.at hx) fun _ => ?_ | refine qat (PT.of rH.os.rs (r.at hx)) rfl rfl ?_))
   cases f1 : (wordI ws (i + 1)).isSome <;> cases f2 : (wordI ws (i + 2)).isSome
   ·
    repeat (first | refine W.w ?_ | refine AL.skip rfl rfl ?_ | refine AL.eff rfl (qan (vs := askC ({ askV0 with k := y1, v := y2 }) ({ ask0 with kind := 2, key := b1, value := b2 })) rfl rfl rfl (qaU kH.o.r) kH.g4 rfl ?_) | (refine zz rfl ?_; first | refine qae rfl ?_ | refine qaa rfl ?_ | refine qaj (sz := 7) rfl rfl kH.g6 (Nat.le_refl _) ?_ | refine qah (v := .bool _) rfl rfl ?_))
    refine ⟨_, ResV.cell2 rfl rfl rfl (Heap.set_at _ _ _) (Nat.le_refl _), { askV0 with k := y1, v := y2 }, { ask0 with kind := 2, key := b1, value := b2 }, rfl, kH.o.put kH.g4 (show (29 : TypeId) ≠ 5 by decide) _, wf.ext_set kH.ext kH.n4 _, ?_⟩
    intro q; cases q
   ·
    repeat (first | refine W.w ?_ | refine AL.skip rfl rfl ?_ | refine AL.eff rfl (qan (vs := askC ({ askV0 with k := y1, v := y2 }) ({ ask0 with kind := 2, key := b1, value := b2 })) rfl rfl rfl (qaU kH.o.r) kH.g4 rfl ?_) | (refine zz rfl ?_; first | refine qae rfl ?_ | refine qaa rfl ?_ | refine qaj (sz := 7) rfl rfl kH.g6 (Nat.le_refl _) ?_ | refine qah (v := .bool _) rfl rfl ?_))
    refine ⟨_, ResV.cell2 rfl rfl rfl (Heap.set_at _ _ _) (Nat.le_refl _), { askV0 with k := y1, v := y2 }, { ask0 with kind := 2, key := b1, value := b2 }, rfl, kH.o.put kH.g4 (show (29 : TypeId) ≠ 5 by decide) _, wf.ext_set kH.ext kH.n4 _, ?_⟩
    intro q; cases q
   ·
    repeat (first | refine W.w ?_ | refine AL.skip rfl rfl ?_ | refine AL.eff rfl (qan (vs := askC ({ askV0 with k := y1, v := y2 }) ({ ask0 with kind := 2, key := b1, value := b2 })) rfl rfl rfl (qaU kH.o.r) kH.g4 rfl ?_) | (refine zz rfl ?_; first | refine qae rfl ?_ | refine qaa rfl ?_ | refine qaj (sz := 7) rfl rfl kH.g6 (Nat.le_refl _) ?_ | refine qah (v := .bool _) rfl rfl ?_))
    refine ⟨_, ResV.cell2 rfl rfl rfl (Heap.set_at _ _ _) (Nat.le_refl _), { askV0 with k := y1, v := y2 }, { ask0 with kind := 2, key := b1, value := b2 }, rfl, kH.o.put kH.g4 (show (29 : TypeId) ≠ 5 by decide) _, wf.ext_set kH.ext kH.n4 _, ?_⟩
    intro q; cases q
   ·
    repeat (first | refine W.w ?_ | refine AL.eff rfl (qan (vs := askC ({ askV0 with k := y1, v := y2 }) ({ ask0 with kind := 2, key := b1, value := b2 })) rfl rfl rfl (qaU kH.o.r) kH.g4 rfl ?_) | (refine zz rfl ?_; first | refine qae rfl ?_ | refine qaa rfl ?_ | refine qaj (sz := 7) rfl rfl kH.g6 (Nat.le_refl _) ?_ | refine qah (v := .bool _) rfl rfl ?_))
    refine ⟨_, ResV.cell2 rfl rfl rfl (Heap.set_at _ _ _) (Nat.le_refl _), { askV0 with k := y1, v := y2 }, { ask0 with kind := 2, key := b1, value := b2 }, rfl, kH.o.put kH.g4 (show (29 : TypeId) ≠ 5 by decide) _, wf.ext_set kH.ext kH.n4 _, ?_⟩
    intro _; rw [s1 f1, s2 f2]; rfl
  by_cases c4 : x = wFresh
  ·
   rw [askI_fresh hnl (by rw [hx, c4])]
   have c5 : ¬ x = wSwap := by rw [c4]; decide
   repeat (first | refine W.w ?_ | refine AWp.c8 rfl ?_ | refine AWp.c9 rfl ?_ | refine AL.eff rfl (qau (b := ⟨askC ({ askV0 with k := y1 }) ({ ask0 with key := b1 }), 29, true⟩) rfl rfl rfl kC.g6 rfl (by exact Nat.le_of_ble_eq_true rfl) ?_) | (refine zz rfl ?_; first | refine qac rfl ?_ | refine qaa rfl ?_ | refine qaK (a := x) (b := wGet) rfl rfl (by assumption) ?_ | refine qaK (a := x) (b := wDelete) rfl rfl (by assumption) ?_ | refine qaK (a := x) (b := wPut) rfl rfl (by assumption) ?_ | refine qaO (a := x) (b := wFresh) rfl rfl (by assumption) ?_ | refine qal (v := v) rfl ?_ | refine qaA rC.os.rs rfl rfl (by omega) (r.at hx) fun _ => ?_ | refine qat (PT.of rC.os.rs (r.at hx)) rfl rfl ?_ | refine qao rfl ?_))
   refine AL.heap (h := H4.set j6 ⟨askC ({ askV0 with k := y1 }) ({ ask0 with kind := 4, key := b1 }), 29, true⟩) rfl ?_
   have rD := rC.put kC.g6 qbP ⟨askC ({ askV0 with k := y1 }) ({ ask0 with kind := 4, key := b1 }), 29, true⟩
   have kD := kC.set wf ({ askV0 with k := y1 }) ({ ask0 with kind := 4, key := b1 }) ⟨kC.o.k, kC.o.t, kC.o.v, kC.o.w⟩
   generalize H4.set j6 ⟨askC ({ askV0 with k := y1 }) ({ ask0 with kind := 4, key := b1 }), 29, true⟩ = H5 at rD kD ⊢
   repeat (first | refine W.w ?_ | refine AL.eff rfl (qau (b := ⟨askC ({ askV0 with k := y1 }) ({ ask0 with kind := 4, key := b1 }), 29, true⟩) rfl rfl rfl kD.g6 rfl (by exact Nat.le_of_ble_eq_true rfl) ?_) | (refine zz rfl ?_; first | refine qac rfl ?_ | refine qaO (a := x) (b := wFresh) rfl rfl (by assumption) ?_ | refine qal (v := v) rfl ?_ | refine qaA rD.os.rs rfl rfl (by omega) (r.at hx) fun _ => ?_ | refine qat (PT.of rD.os.rs (r.at hx)) rfl rfl ?_ | refine qao rfl ?_ | refine qas rfl rfl (by omega) ?_))
   refine AL.heap (h := H5.set j6 ⟨askC ({ askV0 with k := y1 }) ({ ask0 with kind := 4, key := b1, none := true }), 29, true⟩) rfl ?_
   have rE := rD.put kD.g6 qbP ⟨askC ({ askV0 with k := y1 }) ({ ask0 with kind := 4, key := b1, none := true }), 29, true⟩
   have kE := kD.set wf ({ askV0 with k := y1 }) ({ ask0 with kind := 4, key := b1, none := true }) ⟨kD.o.k, kD.o.t, kD.o.v, kD.o.w⟩
   generalize H5.set j6 ⟨askC ({ askV0 with k := y1 }) ({ ask0 with kind := 4, key := b1, none := true }), 29, true⟩ = H6 at rE kE ⊢
   skip
   refine zz rfl (qar rfl rfl ((qci B v ws (i + 2) (((i : Nat) : Int) + 2) (by omega) H6 rE).wf_post.mono ?_))
   rintro _ H7 ⟨⟨⟨y2, b2, rfl, o2, s2⟩, xx⟩, wf2, n2⟩
   replace o2 := OS.low o2 kE.nx
   have kF := kE.more xx wf2 n2
   have rF := rE.ext xx
   have e2 := (RS.one (OS.rs o2)).1
   clear xx wf2 n2
   repeat (first | refine W.w ?_ | refine AL.eff rfl (qau (b := ⟨askC ({ askV0 with k := y1 }) ({ ask0 with kind := 4, key := b1, none := true }), 29, true⟩) rfl rfl e2 kF.g6 rfl (by exact Nat.le_of_ble_eq_true rfl) ?_) | (refine zz rfl ?_; first | refine qac rfl ?_ | refine qaH rfl ?_ | refine qaa rfl ?_ | refine qal (v := v) rfl ?_ | refine qav rfl rfl ?_ | refine qao rfl ?_))
   refine AL.heap (h := H7.set j6 ⟨askC ({ askV0 with k := y1, v := y2 }) ({ ask0 with kind := 4, key := b1, none := true, value := b2 }), 29, true⟩) rfl ?_
   have rG := rF.put kF.g6 qbP ⟨askC ({ askV0 with k := y1, v := y2 }) ({ ask0 with kind := 4, key := b1, none := true, value := b2 }), 29, true⟩
   have kG := kF.set wf ({ askV0 with k := y1, v := y2 }) ({ ask0 with kind := 4, key := b1, none := true, value := b2 }) ⟨kF.o.k, OS.nil _ _ _, o2, OS.nil _ _ _⟩
   generalize H7.set j6 ⟨askC ({ askV0 with k := y1, v := y2 }) ({ ask0 with kind := 4, key := b1, none := true, value := b2 }), 29, true⟩ = H8 at rG kG ⊢
   repeat (first | refine W.w ?_ | refine AWp.c9 rfl ?_ | (refine zz rfl ?_; first | refine qac rfl ?_ | refine qaK (a := x) (b := wPut) rfl rfl (by assumption) ?_ | refine qaK (a := x) (b := wSwap) rfl rfl (by assumption) ?_ | refine qal (v := v) rfl ?_ | refine qaA rG.os.rs rfl rfl (by omega) (r.at hx) fun _ => ?_ | refine qat (PT.of rG.os.rs (r.at hx)) rfl rfl ?_))
   cases f1 : (wordI ws (i + 1)).isSome <;> cases f2 : (wordI ws (i + 2)).isSome
   ·
    repeat (first | refine W.w ?_ | refine AL.skip rfl rfl ?_ | refine AL.eff rfl (qan (vs := askC ({ askV0 with k := y1, v := y2 }) ({ ask0 with kind := 4, none := true, key := b1, value := b2 })) rfl rfl rfl (qaU kG.o.r) kG.g4 rfl ?_) | (refine zz rfl ?_; first | refine qae rfl ?_ | refine qaa rfl ?_ | refine qaj (sz := 7) rfl rfl kG.g6 (Nat.le_refl _) ?_ | refine qah (v := .bool _) rfl rfl ?_))
    refine ⟨_, ResV.cell2 rfl rfl rfl (Heap.set_at _ _ _) (Nat.le_refl _), { askV0 with k := y1, v := y2 }, { ask0 with kind := 4, none := true, key := b1, value := b2 }, rfl, kG.o.put kG.g4 (show (29 : TypeId) ≠ 5 by decide) _, wf.ext_set kG.ext kG.n4 _, ?_⟩
    intro q; cases q
   ·
    repeat (first | refine W.w ?_ | refine AL.skip rfl rfl ?_ | refine AL.eff rfl (qan (vs := askC ({ askV0 with k := y1, v := y2 }) ({ ask0 with kind := 4, none := true, key := b1, value := b2 })) rfl rfl rfl (qaU kG.o.r) kG.g4 rfl ?_) | (refine zz rfl ?_; first | refine qae rfl ?_ | refine qaa rfl ?_ | refine qaj (sz := 7) rfl rfl kG.g6 (Nat.le_refl _) ?_ | refine qah (v := .bool _) rfl rfl ?_))
    refine ⟨_, ResV.cell2 rfl rfl rfl (Heap.set_at _ _ _) (Nat.le_refl _), { askV0 with k := y1, v := y2 }, { ask0 with kind := 4, none := true, key := b1, value := b2 }, rfl, kG.o.put kG.g4 (show (29 : TypeId) ≠ 5 by decide) _, wf.ext_set kG.ext kG.n4 _, ?_⟩
    intro q; cases q
   ·
    repeat (first | refine W.w ?_ | refine AL.skip rfl rfl ?_ | refine AL.eff rfl (qan (vs := askC ({ askV0 with k := y1, v := y2 }) ({ ask0 with kind := 4, none := true, key := b1, value := b2 })) rfl rfl rfl (qaU kG.o.r) kG.g4 rfl ?_) | (refine zz rfl ?_; first | refine qae rfl ?_ | refine qaa rfl ?_ | refine qaj (sz := 7) rfl rfl kG.g6 (Nat.le_refl _) ?_ | refine qah (v := .bool _) rfl rfl ?_))
    refine ⟨_, ResV.cell2 rfl rfl rfl (Heap.set_at _ _ _) (Nat.le_refl _), { askV0 with k := y1, v := y2 }, { ask0 with kind := 4, none := true, key := b1, value := b2 }, rfl, kG.o.put kG.g4 (show (29 : TypeId) ≠ 5 by decide) _, wf.ext_set kG.ext kG.n4 _, ?_⟩
    intro q; cases q
   ·
    repeat (first | refine W.w ?_ | refine AL.eff rfl (qan (vs := askC ({ askV0 with k := y1, v := y2 }) ({ ask0 with kind := 4, none := true, key := b1, value := b2 })) rfl rfl rfl (qaU kG.o.r) kG.g4 rfl ?_) | (refine zz rfl ?_; first | refine qae rfl ?_ | refine qaa rfl ?_ | refine qaj (sz := 7) rfl rfl kG.g6 (Nat.le_refl _) ?_ | refine qah (v := .bool _) rfl rfl ?_))
    refine ⟨_, ResV.cell2 rfl rfl rfl (Heap.set_at _ _ _) (Nat.le_refl _), { askV0 with k := y1, v := y2 }, { ask0 with kind := 4, none := true, key := b1, value := b2 }, rfl, kG.o.put kG.g4 (show (29 : TypeId) ≠ 5 by decide) _, wf.ext_set kG.ext kG.n4 _, ?_⟩
    intro _; rw [s1 f1, s2 f2]; rfl
  by_cases c5 : x = wSwap
  ·
   rw [askI_swap hnl (by rw [hx, c5])]
   repeat (first | refine W.w ?_ | refine AWp.c8 rfl ?_ | refine AWp.c9 rfl ?_ | refine AL.eff rfl (qau (b := ⟨askC ({ askV0 with k := y1 }) ({ ask0 with key := b1 }), 29, true⟩) rfl rfl rfl kC.g6 rfl (by exact Nat.le_of_ble_eq_true rfl) ?_) | (refine zz rfl ?_; first | refine qac rfl ?_ | refine qaa rfl ?_ | refine qaK (a := x) (b := wGet) rfl rfl (by assumption) ?_ | refine qaK (a := x) (b := wDelete) rfl rfl (by assumption) ?_ | refine qaK (a := x) (b := wPut) rfl rfl (by assumption) ?_ | refine qaK (a := x) (b := wFresh) rfl rfl (by assumption) ?_ | refine qaO (a := x) (b := wSwap) rfl rfl (by assumption) ?_ | refine qal (v := v) rfl ?_ | refine qaA rC.os.rs rfl rfl (by omega) (r.at hx) fun _ => ?_ | refine qat (PT.of rC.os.rs (r.at hx)) rfl rfl ?_ | refine qao rfl ?_))
   refine AL.heap (h := H4.set j6 ⟨askC ({ askV0 with k := y1 }) ({ ask0 with kind := 4, key := b1 }), 29, true⟩) rfl ?_
   have rD := rC.put kC.g6 qbP ⟨askC ({ askV0 with k := y1 }) ({ ask0 with kind := 4, key := b1 }), 29, true⟩
   have kD := kC.set wf ({ askV0 with k := y1 }) ({ ask0 with kind := 4, key := b1 }) ⟨kC.o.k, kC.o.t, kC.o.v, kC.o.w⟩
   generalize H4.set j6 ⟨askC ({ askV0 with k := y1 }) ({ ask0 with kind := 4, key := b1 }), 29, true⟩ = H5 at rD kD ⊢
   repeat (first | refine W.w ?_ | refine AL.eff rfl (qau (b := ⟨askC ({ askV0 with k := y1 }) ({ ask0 with kind := 4, key := b1 }), 29, true⟩) rfl rfl rfl kD.g6 rfl (by exact Nat.le_of_ble_eq_true rfl) ?_) | (refine zz rfl ?_; first | refine qac rfl ?_ | refine qaK (a := x) (b := wFresh) rfl rfl (by assumption) ?_ | refine qal (v := v) rfl ?_ | refine qaA rD.os.rs rfl rfl (by omega) (r.at hx) fun _ => ?_ | refine qat (PT.of rD.os.rs (r.at hx)) rfl rfl ?_ | refine qao rfl ?_ | refine qas rfl rfl (by omega) ?_))
   refine AL.heap (h := H5.set j6 ⟨askC ({ askV0 with k := y1 }) ({ ask0 with kind := 4, key := b1, none := false }), 29, true⟩) rfl ?_
   have rE := rD.put kD.g6 qbP ⟨askC ({ askV0 with k := y1 }) ({ ask0 with kind := 4, key := b1, none := false }), 29, true⟩
   have kE := kD.set wf ({ askV0 with k := y1 }) ({ ask0 with kind := 4, key := b1, none := false }) ⟨kD.o.k, kD.o.t, kD.o.v, kD.o.w⟩
   generalize H5.set j6 ⟨askC ({ askV0 with k := y1 }) ({ ask0 with kind := 4, key := b1, none := false }), 29, true⟩ = H6 at rE kE ⊢
   skip
   refine zz rfl (qar rfl rfl ((qci B v ws (i + 2) (((i : Nat) : Int) + 2) (by omega) H6 rE).wf_post.mono ?_))
   rintro _ H7 ⟨⟨⟨y2, b2, rfl, o2, s2⟩, xx⟩, wf2, n2⟩
   replace o2 := OS.low o2 kE.nx
   have kF := kE.more xx wf2 n2
   have rF := rE.ext xx
   have e2 := (RS.one (OS.rs o2)).1
   clear xx wf2 n2
   repeat (first | refine W.w ?_ | refine AL.eff rfl (qau (b := ⟨askC ({ askV0 with k := y1 }) ({ ask0 with kind := 4, key := b1, none := false }), 29, true⟩) rfl rfl e2 kF.g6 rfl (by exact Nat.le_of_ble_eq_true rfl) ?_) | (refine zz rfl ?_; first | refine qac rfl ?_ | refine qaH rfl ?_ | refine qaa rfl ?_ | refine qal (v := v) rfl ?_ | refine qav rfl rfl ?_ | refine qao rfl ?_))
   refine AL.heap (h := H7.set j6 ⟨askC ({ askV0 with k := y1, v := y2 }) ({ ask0 with kind := 4, key := b1, none := false, value := b2 }), 29, true⟩) rfl ?_
   have rG := rF.put kF.g6 qbP ⟨askC ({ askV0 with k := y1, v := y2 }) ({ ask0 with kind := 4, key := b1, none := false, value := b2 }), 29, true⟩
   have kG := kF.set wf ({ askV0 with k := y1, v := y2 }) ({ ask0 with kind := 4, key := b1, none := false, value := b2 }) ⟨kF.o.k, OS.nil _ _ _, o2, OS.nil _ _ _⟩
   generalize H7.set j6 ⟨askC ({ askV0 with k := y1, v := y2 }) ({ ask0 with kind := 4, key := b1, none := false, value := b2 }), 29, true⟩ = H8 at rG kG ⊢
   repeat (first | refine W.w ?_ | refine AWp.c8 rfl ?_ | refine AWp.c9 rfl ?_ | (refine zz rfl ?_; first | refine qac rfl ?_ | refine qaK (a := x) (b := wPut) rfl rfl (by assumption) ?_ | refine qaO (a := x) (b := wSwap) rfl rfl (by assumption) ?_ | refine qal (v := v) rfl ?_ | refine qaA rG.os.rs rfl rfl (by omega) (r.at hx) fun _ => ?_ | refine qat (PT.of rG.os.rs (r.at hx)) rfl rfl ?_ | refine qas rfl rfl (by omega) ?_))
   refine zz rfl (qar rfl rfl ((qci B v ws (i + 3) (((i : Nat) : Int) + 3) (by omega) H8 rG).wf_post.mono ?_))
   rintro _ H9 ⟨⟨⟨y3, b3, rfl, o3, s3⟩, xx⟩, wf2, n2⟩
   replace o3 := OS.low o3 kG.nx
   have kH := kG.more xx wf2 n2
   have rH := rG.ext xx
   have e3 := (RS.one (OS.rs o3)).1
   clear xx wf2 n2
   repeat (first | refine W.w ?_ | refine AL.eff rfl (qau (b := ⟨askC ({ askV0 with k := y1, v := y2 }) ({ ask0 with kind := 4, key := b1, none := false, value := b2 }), 29, true⟩) rfl rfl e3 kH.g6 rfl (by exact Nat.le_of_ble_eq_true rfl) ?_) | (refine zz rfl ?_; first | refine qaH rfl ?_ | refine qaa rfl ?_ | refine qav rfl rfl ?_ | refine qao rfl ?_))
   refine AL.heap (h := H9.set j6 ⟨askC ({ askV0 with k := y1, v := y2, w := y3 }) ({ ask0 with kind := 4, key := b1, value := b2, was := b3 }), 29, true⟩) rfl ?_
   have rI := rH.put kH.g6 qbP ⟨askC ({ askV0 with k := y1, v := y2, w := y3 }) ({ ask0 with kind := 4, key := b1, value := b2, was := b3 }), 29, true⟩
   have kI := kH.set wf ({ askV0 with k := y1, v := y2, w := y3 }) ({ ask0 with kind := 4, key := b1, value := b2, was := b3 }) ⟨kH.o.k, OS.nil _ _ _, kH.o.v, o3⟩
   generalize H9.set j6 ⟨askC ({ askV0 with k := y1, v := y2, w := y3 }) ({ ask0 with kind := 4, key := b1, value := b2, was := b3 }), 29, true⟩ = H10 at rI kI ⊢
   cases f1 : (wordI ws (i + 1)).isSome <;> cases f2 : (wordI ws (i + 2)).isSome <;> cases f3 : (wordI ws (i + 3)).isSome
   all_goals (
    repeat (first | refine W.w ?_ | refine AL.skip rfl rfl ?_ | refine AL.eff rfl (qan (vs := askC ({ askV0 with k := y1, v := y2, w := y3 }) ({ ask0 with kind := 4, key := b1, value := b2, was := b3 })) rfl rfl rfl (qaU kI.o.r) kI.g4 rfl ?_) | (refine zz rfl ?_; first | refine qae rfl ?_ | refine qaa rfl ?_ | refine qaj (sz := 7) rfl rfl kI.g6 (Nat.le_refl _) ?_ | refine qah (v := .bool _) rfl rfl ?_))
    refine ⟨_, ResV.cell2 rfl rfl rfl (Heap.set_at _ _ _) (Nat.le_refl _), { askV0 with k := y1, v := y2, w := y3 }, { ask0 with kind := 4, key := b1, value := b2, was := b3 }, rfl, kI.o.put kI.g4 (show (29 : TypeId) ≠ 5 by decide) _, wf.ext_set kI.ext kI.n4 _, ?_⟩
    first | (intro q; cases q; done) | (intro _; rw [s1 f1, s2 f2, s3 f3]; rfl))
  by_cases c6 : x = wScan
  ·
   rw [askI_scan hnl (by rw [hx, c6])]
   repeat (first | refine W.w ?_ | refine AWp.c8 rfl ?_ | refine AWp.c9 rfl ?_ | refine AL.eff rfl (qau (b := ⟨askC ({ askV0 with k := y1 }) ({ ask0 with key := b1 }), 29, true⟩) rfl rfl rfl kC.g6 rfl (by exact Nat.le_of_ble_eq_true rfl) ?_) | (refine zz rfl ?_; first | refine qac rfl ?_ | refine qaa rfl ?_ | refine qaK (a := x) (b := wGet) rfl rfl (by assumption) ?_ | refine qaK (a := x) (b := wDelete) rfl rfl (by assumption) ?_ | refine qaK (a := x) (b := wPut) rfl rfl (by assumption) ?_ | refine qaK (a := x) (b := wFresh) rfl rfl (by assumption) ?_ | refine qaK (a := x) (b := wSwap) rfl rfl (by assumption) ?_ | refine qaO (a := x) (b := wScan) rfl rfl (by assumption) ?_ | refine qal (v := v) rfl ?_ | refine qaA rC.os.rs rfl rfl (by omega) (r.at hx) fun _ => ?_ | refine qat (PT.of rC.os.rs (r.at hx)) rfl rfl ?_ | refine qao rfl ?_ | refine qas rfl rfl (by omega) ?_))
   refine AL.heap (h := H4.set j6 ⟨askC ({ askV0 with k := y1 }) ({ ask0 with kind := 5, key := b1 }), 29, true⟩) rfl ?_
   have rD := rC.put kC.g6 qbP ⟨askC ({ askV0 with k := y1 }) ({ ask0 with kind := 5, key := b1 }), 29, true⟩
   have kD := kC.set wf ({ askV0 with k := y1 }) ({ ask0 with kind := 5, key := b1 }) ⟨kC.o.k, kC.o.t, kC.o.v, kC.o.w⟩
   generalize H4.set j6 ⟨askC ({ askV0 with k := y1 }) ({ ask0 with kind := 5, key := b1 }), 29, true⟩ = H5 at rD kD ⊢
   skip
   refine zz rfl (qar rfl rfl ((qci B v ws (i + 2) (((i : Nat) : Int) + 2) (by omega) H5 rD).wf_post.mono ?_))
   rintro _ H6 ⟨⟨⟨y2, b2, rfl, o2, s2⟩, xx⟩, wf2, n2⟩
   replace o2 := OS.low o2 kD.nx
   have kE := kD.more xx wf2 n2
   have rE := rD.ext xx
   have e2 := (RS.one (OS.rs o2)).1
   clear xx wf2 n2
   repeat (first | refine W.w ?_ | refine AL.eff rfl (qau (b := ⟨askC ({ askV0 with k := y1 }) ({ ask0 with kind := 5, key := b1 }), 29, true⟩) rfl rfl e2 kE.g6 rfl (by exact Nat.le_of_ble_eq_true rfl) ?_) | (refine zz rfl ?_; first | refine qac rfl ?_ | refine qaH rfl ?_ | refine qaa rfl ?_ | refine qal (v := v) rfl ?_ | refine qav rfl rfl ?_ | refine qao rfl ?_ | refine qas rfl rfl (by omega) ?_))
   refine AL.heap (h := H6.set j6 ⟨askC ({ askV0 with k := y1, t := y2 }) ({ ask0 with kind := 5, key := b1, «to» := b2 }), 29, true⟩) rfl ?_
   have rF := rE.put kE.g6 qbP ⟨askC ({ askV0 with k := y1, t := y2 }) ({ ask0 with kind := 5, key := b1, «to» := b2 }), 29, true⟩
   have kF := kE.set wf ({ askV0 with k := y1, t := y2 }) ({ ask0 with kind := 5, key := b1, «to» := b2 }) ⟨kE.o.k, o2, OS.nil _ _ _, OS.nil _ _ _⟩
   generalize H6.set j6 ⟨askC ({ askV0 with k := y1, t := y2 }) ({ ask0 with kind := 5, key := b1, «to» := b2 }), 29, true⟩ = H7 at rF kF ⊢
   have cn := qdc B v ws (i + 3) (((i : Nat) : Int) + 3) (by omega) H7 rF (t.ext kF.ext)
   repeat (first | refine zz rfl (qao rfl ?_) | refine zz rfl (qab rfl rfl cn ?_))
   repeat (first | refine W.w ?_ | refine AL.eff rfl (qau (b := ⟨askC ({ askV0 with k := y1, t := y2 }) ({ ask0 with kind := 5, key := b1, «to» := b2 }), 29, true⟩) rfl rfl rfl kF.g6 rfl (by exact Nat.le_of_ble_eq_true rfl) ?_))
   refine AL.heap (h := H7.set j6 ⟨askC ({ askV0 with k := y1, t := y2 }) ({ ask0 with kind := 5, key := b1, «to» := b2, most := numI ws (i + 3) }), 29, true⟩) rfl ?_
   have rG := rF.put kF.g6 qbP ⟨askC ({ askV0 with k := y1, t := y2 }) ({ ask0 with kind := 5, key := b1, «to» := b2, most := numI ws (i + 3) }), 29, true⟩
   have kG := kF.set wf ({ askV0 with k := y1, t := y2 }) ({ ask0 with kind := 5, key := b1, «to» := b2, most := numI ws (i + 3) }) ⟨kF.o.k, kF.o.t, kF.o.v, kF.o.w⟩
   generalize H7.set j6 ⟨askC ({ askV0 with k := y1, t := y2 }) ({ ask0 with kind := 5, key := b1, «to» := b2, most := numI ws (i + 3) }), 29, true⟩ = H8 at rG kG ⊢
   cases f1 : (wordI ws (i + 1)).isSome <;> cases f2 : (wordI ws (i + 2)).isSome
   ·
    repeat (first | refine W.w ?_ | refine AL.skip rfl rfl ?_ | refine AL.eff rfl (qan (vs := askC ({ askV0 with k := y1, t := y2 }) ({ ask0 with kind := 5, key := b1, «to» := b2, most := numI ws (i + 3) })) rfl rfl rfl (qaU kG.o.r) kG.g4 rfl ?_) | (refine zz rfl ?_; first | refine qae rfl ?_ | refine qaa rfl ?_ | refine qaj (sz := 7) rfl rfl kG.g6 (Nat.le_refl _) ?_ | refine qah (v := .bool _) rfl rfl ?_))
    refine ⟨_, ResV.cell2 rfl rfl rfl (Heap.set_at _ _ _) (Nat.le_refl _), { askV0 with k := y1, t := y2 }, { ask0 with kind := 5, key := b1, «to» := b2, most := numI ws (i + 3) }, rfl, kG.o.put kG.g4 (show (29 : TypeId) ≠ 5 by decide) _, wf.ext_set kG.ext kG.n4 _, ?_⟩
    intro q; cases q
   ·
    repeat (first | refine W.w ?_ | refine AL.skip rfl rfl ?_ | refine AL.eff rfl (qan (vs := askC ({ askV0 with k := y1, t := y2 }) ({ ask0 with kind := 5, key := b1, «to» := b2, most := numI ws (i + 3) })) rfl rfl rfl (qaU kG.o.r) kG.g4 rfl ?_) | (refine zz rfl ?_; first | refine qae rfl ?_ | refine qaa rfl ?_ | refine qaj (sz := 7) rfl rfl kG.g6 (Nat.le_refl _) ?_ | refine qah (v := .bool _) rfl rfl ?_))
    refine ⟨_, ResV.cell2 rfl rfl rfl (Heap.set_at _ _ _) (Nat.le_refl _), { askV0 with k := y1, t := y2 }, { ask0 with kind := 5, key := b1, «to» := b2, most := numI ws (i + 3) }, rfl, kG.o.put kG.g4 (show (29 : TypeId) ≠ 5 by decide) _, wf.ext_set kG.ext kG.n4 _, ?_⟩
    intro q; cases q
   ·
    repeat (first | refine W.w ?_ | refine AL.skip rfl rfl ?_ | refine AL.eff rfl (qan (vs := askC ({ askV0 with k := y1, t := y2 }) ({ ask0 with kind := 5, key := b1, «to» := b2, most := numI ws (i + 3) })) rfl rfl rfl (qaU kG.o.r) kG.g4 rfl ?_) | (refine zz rfl ?_; first | refine qae rfl ?_ | refine qaa rfl ?_ | refine qaj (sz := 7) rfl rfl kG.g6 (Nat.le_refl _) ?_ | refine qah (v := .bool _) rfl rfl ?_))
    refine ⟨_, ResV.cell2 rfl rfl rfl (Heap.set_at _ _ _) (Nat.le_refl _), { askV0 with k := y1, t := y2 }, { ask0 with kind := 5, key := b1, «to» := b2, most := numI ws (i + 3) }, rfl, kG.o.put kG.g4 (show (29 : TypeId) ≠ 5 by decide) _, wf.ext_set kG.ext kG.n4 _, ?_⟩
    intro q; cases q
   ·
    repeat (first | refine W.w ?_ | refine AL.eff rfl (qan (vs := askC ({ askV0 with k := y1, t := y2 }) ({ ask0 with kind := 5, key := b1, «to» := b2, most := numI ws (i + 3) })) rfl rfl rfl (qaU kG.o.r) kG.g4 rfl ?_) | (refine zz rfl ?_; first | refine qae rfl ?_ | refine qaa rfl ?_ | refine qaj (sz := 7) rfl rfl kG.g6 (Nat.le_refl _) ?_ | refine qah (v := .bool _) rfl rfl ?_))
    refine ⟨_, ResV.cell2 rfl rfl rfl (Heap.set_at _ _ _) (Nat.le_refl _), { askV0 with k := y1, t := y2 }, { ask0 with kind := 5, key := b1, «to» := b2, most := numI ws (i + 3) }, rfl, kG.o.put kG.g4 (show (29 : TypeId) ≠ 5 by decide) _, wf.ext_set kG.ext kG.n4 _, ?_⟩
    intro _; rw [s1 f1, s2 f2]; rfl
  ·
   rw [askI_else hnl hx c1 c2 c3 c4 c5 c6]
   repeat (first | refine W.w ?_ | refine AWp.c9 rfl ?_ | (refine zz rfl ?_; first | refine qaa rfl ?_ | refine qaK (a := x) (b := wGet) rfl rfl (by assumption) ?_ | refine qaK (a := x) (b := wDelete) rfl rfl (by assumption) ?_ | refine qaK (a := x) (b := wPut) rfl rfl (by assumption) ?_ | refine qaK (a := x) (b := wFresh) rfl rfl (by assumption) ?_ | refine qaK (a := x) (b := wSwap) rfl rfl (by assumption) ?_ | refine qaK (a := x) (b := wScan) rfl rfl (by assumption) ?_ | refine qaA rC.os.rs rfl rfl (by omega) (r.at hx) fun _ => ?_ | refine qat (PT.of rC.os.rs (r.at hx)) rfl rfl ?_))
   cases f1 : (wordI ws (i + 1)).isSome
   ·
    repeat (first | refine W.w ?_ | refine AL.skip rfl rfl ?_ | refine AL.eff rfl (qan (vs := askC ({ askV0 with k := y1 }) ({ ask0 with key := b1 })) rfl rfl rfl (qaU kC.o.r) kC.g4 rfl ?_) | (refine zz rfl ?_; first | refine qae rfl ?_ | refine qaa rfl ?_ | refine qaj (sz := 7) rfl rfl kC.g6 (Nat.le_refl _) ?_ | refine qah (v := .bool _) rfl rfl ?_))
    refine ⟨_, ResV.cell2 rfl rfl rfl (Heap.set_at _ _ _) (Nat.le_refl _), { askV0 with k := y1 }, { ask0 with key := b1 }, rfl, kC.o.put kC.g4 (show (29 : TypeId) ≠ 5 by decide) _, wf.ext_set kC.ext kC.n4 _, ?_⟩
    intro q; cases q
   ·
    repeat (first | refine W.w ?_ | refine AL.eff rfl (qan (vs := askC ({ askV0 with k := y1 }) ({ ask0 with key := b1 })) rfl rfl rfl (qaU kC.o.r) kC.g4 rfl ?_) | (refine zz rfl ?_; first | refine qae rfl ?_ | refine qaa rfl ?_ | refine qaj (sz := 7) rfl rfl kC.g6 (Nat.le_refl _) ?_ | refine qah (v := .bool _) rfl rfl ?_))
    refine ⟨_, ResV.cell2 rfl rfl rfl (Heap.set_at _ _ _) (Nat.le_refl _), { askV0 with k := y1 }, { ask0 with key := b1 }, rfl, kC.o.put kC.g4 (show (29 : TypeId) ≠ 5 by decide) _, wf.ext_set kC.ext kC.n4 _, ?_⟩
    intro _; rw [s1 f1]; rfl
 ·
  clear hv
  repeat (first | refine W.w ?_ | refine AWp.c8 rfl ?_ | refine AL.eff rfl (qan (vs := askC askV0 ask0) rfl rfl rfl rfl g4 rfl ?_) | (refine zz rfl ?_; first | refine qac rfl ?_ | refine qaa rfl ?_ | refine qal (v := v) rfl ?_ | refine qaS rW.os.rs rfl ?_ | refine qam rfl rfl rfl (by omega) ?_ | refine qax (out := askC askV0 ask0) rfl rfl ?_))
  have e := askI_no (w := ws) (i := i) (by omega)
  exact ⟨_, ResV.cell2 rfl rfl rfl (Heap.set_at _ _ _) (Nat.le_refl _), askV0, ask0, by rw [e]; rfl, AskO.nil _ _, wf.ext_set x4 (Nat.le_refl _) _, fun _ => by rw [e]⟩
structure UpI (h : Heap) (j4 j6 : Nat) (q : CmdV) (a : CmdM) (H : Heap) : Prop where
 ext : Ext h H
 wf : WF H
 nx : h.next ≤ H.next
 n4 : h.next ≤ j4
 n6 : h.next ≤ j6
 ne : j4 ≠ j6
 g4 : H.get j4 = some ⟨cmdC cmdV0 cmd0, 37, true⟩
 g6 : H.get j6 = some ⟨cmdC q a, 37, true⟩
 o : CmdO h.next H q a
theorem CmdO.ext {B : Nat} {h h' : Heap} {q : CmdV} {a : CmdM} (o : CmdO B h q a) (hx : Ext h h') : CmdO B h' q a := ⟨o.hq, o.hk.ext hx, o.hc⟩
theorem CmdO.put {B : Nat} {h : Heap} {q : CmdV} {a : CmdM} {j : Nat} {x : Blk} (o : CmdO B h q a) (hb : h.get j = some x) (hx : x.elem ≠ 5) (b : Blk) : CmdO B (h.set j b) q a := ⟨o.hq, OS.put o.hk hb hx b, o.hc⟩
theorem UpI.more {h H H' : Heap} {j4 j6 : Nat} {q : CmdV} {a : CmdM} (k : UpI h j4 j6 q a H) (hx : Ext H H') (wf : WF H') (hn : H.next ≤ H'.next) : UpI h j4 j6 q a H' := ⟨k.ext.trans hx, wf, Nat.le_trans k.nx hn, k.n4, k.n6, k.ne, hx.c _ _ k.g4, hx.c _ _ k.g6, k.o.ext hx⟩
theorem UpI.set {h H : Heap} {j4 j6 : Nat} {q : CmdV} {a : CmdM} (k : UpI h j4 j6 q a H) (wf : WF h) (q' : CmdV) (a' : CmdM) (o : CmdO h.next H q' a') : UpI h j4 j6 q' a' (H.set j6 ⟨cmdC q' a', 37, true⟩) :=
 ⟨wf.ext_set k.ext k.n6 _, k.wf.set (k.wf.lt k.g6) _, k.nx, k.n4, k.n6, k.ne, (Heap.set_other k.ne).trans k.g4, Heap.set_at _ _ _, o.put k.g6 (show (37 : TypeId) ≠ 5 by decide) _⟩
theorem qdW : (37 : TypeId) ≠ 9 := by decide
theorem rplanI_c (B : Nat) (v : Value) (ws : List Bytes) (h : Heap) (r : RW B h v ws) (t : Tabs h) : ACalls Tryz.prog 57 [v] h fun u h' => ∃ q a, u = .tuple #[.agg (cmdC q a).toArray, .bool (planI ws).2] ∧ CmdO h.next h' q a ∧ Ext h h' ∧ ((planI ws).2 = true → a = (planI ws).1) := by
 refine ACalls.wf fun wf => ?_
 refine ACalls.body Tryz.func57 rfl rfl ?_
 obtain ⟨va, vc, hv⟩ := RS.slice r.os.rs
 have hml : (ws.map str).length = ws.length := List.length_map _
 have hl := r.len
 repeat (first | refine W.w ?_)
 refine zz rfl (qaw ?_)
 refine AL.heap (h := h.alloc ⟨cmdC cmdV0 cmd0, 37, true⟩) rfl ?_
 obtain ⟨H1, hQ, g4, x4, w4, n4⟩ := aq wf ⟨cmdC cmdV0 cmd0, 37, true⟩
 rw [hQ]
 have rW := r.ext x4
 by_cases hlt : ws.length < 4
 ·
  clear hv
  repeat (first | refine W.w ?_ | refine AWp.c8 rfl ?_ | refine AL.eff rfl (qan (vs := cmdC cmdV0 cmd0) rfl rfl rfl rfl g4 rfl ?_) | (refine zz rfl ?_; first | refine qaa rfl ?_ | refine qal (v := v) rfl ?_ | refine qaS rW.os.rs rfl ?_ | refine qam rfl rfl rfl (by omega) ?_ | refine qax (out := cmdC cmdV0 cmd0) rfl rfl ?_))
  have e := planI_no (w := ws) hlt
  exact ⟨_, ResV.cell2 rfl rfl rfl (Heap.set_at _ _ _) (Nat.le_refl _), cmdV0, cmd0, by rw [e]; rfl, CmdO.nil _ _, wf.ext_set x4 (Nat.le_refl _) _, fun _ => by rw [e]⟩
 ·
  obtain ⟨x, hx⟩ : ∃ x, ws[2]? = some x := ⟨_, List.getElem?_eq_getElem (by omega)⟩
  repeat (first | refine W.w ?_ | refine AWp.c9 rfl ?_ | refine AL.eff rfl (qaE (vs := cmdC cmdV0 cmd0) rfl rfl rfl rfl rfl ?_) | (refine zz rfl ?_; first | refine qaa rfl ?_ | refine qal (v := v) rfl ?_ | refine qaS rW.os.rs rfl ?_ | refine qak rfl rfl rfl (by omega) ?_ | refine qax (out := cmdC cmdV0 cmd0) rfl rfl ?_ | refine qaw ?_))
  have g6 := Heap.alloc_new H1 ⟨cmdC cmdV0 cmd0, 37, true⟩
  have x6 := w4.ext ⟨cmdC cmdV0 cmd0, 37, true⟩
  have w6 := w4.alloc ⟨cmdC cmdV0 cmd0, 37, true⟩
  have kA : UpI h h.next H1.next cmdV0 cmd0 (H1.alloc ⟨cmdC cmdV0 cmd0, 37, true⟩) := ⟨x4.trans x6, w6, by show h.next ≤ H1.next + 1; omega, Nat.le_refl _, by omega, by omega, x6.c _ _ g4, g6, CmdO.nil _ _⟩
  have rA := rW.ext x6
  clear g6 x6 w6 rW
  refine AL.heap (h := H1.alloc ⟨cmdC cmdV0 cmd0, 37, true⟩) rfl ?_
  generalize H1.alloc ⟨cmdC cmdV0 cmd0, 37, true⟩ = H2 at kA rA ⊢
  generalize H1.next = j6 at kA ⊢
  skip
  refine zz rfl (qar rfl rfl ((qci B v ws 3 (3 : Int) rfl H2 rA).wf_post.mono ?_))
  rintro _ H3 ⟨⟨⟨y1, b1, rfl, o1, s1⟩, xx⟩, wf2, n2⟩
  replace o1 := OS.low o1 kA.nx
  have kB := kA.more xx wf2 n2
  have rB := rA.ext xx
  have e1 := (RS.one (OS.rs o1)).1
  clear xx wf2 n2
  repeat (first | refine W.w ?_ | (refine zz rfl ?_; first | refine qaH rfl ?_ | refine qaa rfl ?_ | refine qav rfl rfl ?_ | refine qao rfl ?_ | refine qaq (v := y1) rfl ?_ | refine qal (v := y1) rfl ?_))
  repeat (first | refine W.w ?_ | refine zz rfl (qal (v := v) rfl ?_) | refine AL.eff rfl (qau (b := ⟨cmdC (cmdV0) (cmd0), 37, true⟩) rfl rfl e1 kB.g6 rfl (by exact Nat.le_of_ble_eq_true rfl) ?_))
  refine AL.heap (h := H3.set j6 ⟨cmdC ({ cmdV0 with k := y1 }) ({ cmd0 with key := b1 }), 37, true⟩) rfl ?_
  have rC := rB.put kB.g6 qdW ⟨cmdC ({ cmdV0 with k := y1 }) ({ cmd0 with key := b1 }), 37, true⟩
  have kC := kB.set wf ({ cmdV0 with k := y1 }) ({ cmd0 with key := b1 }) ⟨rfl, o1, rfl⟩
  generalize H3.set j6 ⟨cmdC ({ cmdV0 with k := y1 }) ({ cmd0 with key := b1 }), 37, true⟩ = H4 at rC kC ⊢
  by_cases c1 : x = wSplit
  ·
   rw [qhf hlt (by rw [hx, c1])]
   repeat (first | refine W.w ?_ | refine AWp.c8 rfl ?_ | refine AL.eff rfl (qau (b := ⟨cmdC ({ cmdV0 with k := y1 }) ({ cmd0 with key := b1 }), 37, true⟩) rfl rfl rfl kC.g6 rfl (by exact Nat.le_of_ble_eq_true rfl) ?_) | (refine zz rfl ?_; first | refine qaa rfl ?_ | refine qaO (a := x) (b := wSplit) rfl rfl (by assumption) ?_ | refine qaA rC.os.rs rfl rfl (by omega) (r.at hx) fun _ => ?_ | refine qat (PT.of rC.os.rs (r.at hx)) rfl rfl ?_ | refine qao rfl ?_))
   refine AL.heap (h := H4.set j6 ⟨cmdC ({ cmdV0 with k := y1 }) ({ cmd0 with kind := 6, key := b1 }), 37, true⟩) rfl ?_
   have rD := rC.put kC.g6 qdW ⟨cmdC ({ cmdV0 with k := y1 }) ({ cmd0 with kind := 6, key := b1 }), 37, true⟩
   have kD := kC.set wf ({ cmdV0 with k := y1 }) ({ cmd0 with kind := 6, key := b1 }) ⟨rfl, kC.o.hk, rfl⟩
   generalize H4.set j6 ⟨cmdC ({ cmdV0 with k := y1 }) ({ cmd0 with kind := 6, key := b1 }), 37, true⟩ = H5 at rD kD ⊢
   repeat (first | refine W.w ?_ | refine AL.eff rfl (qan (vs := cmdC ({ cmdV0 with k := y1 }) ({ cmd0 with kind := 6, key := b1 })) rfl rfl rfl (qa5 kD.o.r) kD.g4 rfl ?_) | (refine zz rfl ?_; first | refine qae rfl ?_ | refine qaa rfl ?_ | refine qaj (sz := 20) rfl rfl kD.g6 (Nat.le_refl _) ?_))
   refine ⟨_, ResV.cell2 rfl rfl rfl (Heap.set_at _ _ _) (Nat.le_refl _), { cmdV0 with k := y1 }, { cmd0 with kind := 6, key := b1 }, rfl, kD.o.put kD.g4 (show (37 : TypeId) ≠ 5 by decide) _, wf.ext_set kD.ext kD.n4 _, fun q => ?_⟩
   rw [s1 q]
   rfl
  by_cases c2 : x = wUnion
  ·
   rw [qhb hlt (by rw [hx, c2])]
   repeat (first | refine W.w ?_ | refine AWp.c8 rfl ?_ | refine AWp.c9 rfl ?_ | refine AL.eff rfl (qau (b := ⟨cmdC ({ cmdV0 with k := y1 }) ({ cmd0 with key := b1 }), 37, true⟩) rfl rfl rfl kC.g6 rfl (by exact Nat.le_of_ble_eq_true rfl) ?_) | (refine zz rfl ?_; first | refine qaa rfl ?_ | refine qaK (a := x) (b := wSplit) rfl rfl (by assumption) ?_ | refine qaO (a := x) (b := wUnion) rfl rfl (by assumption) ?_ | refine qaA rC.os.rs rfl rfl (by omega) (r.at hx) fun _ => ?_ | refine qat (PT.of rC.os.rs (r.at hx)) rfl rfl ?_ | refine qao rfl ?_))
   refine AL.heap (h := H4.set j6 ⟨cmdC ({ cmdV0 with k := y1 }) ({ cmd0 with kind := 7, key := b1 }), 37, true⟩) rfl ?_
   have rD := rC.put kC.g6 qdW ⟨cmdC ({ cmdV0 with k := y1 }) ({ cmd0 with kind := 7, key := b1 }), 37, true⟩
   have kD := kC.set wf ({ cmdV0 with k := y1 }) ({ cmd0 with kind := 7, key := b1 }) ⟨rfl, kC.o.hk, rfl⟩
   generalize H4.set j6 ⟨cmdC ({ cmdV0 with k := y1 }) ({ cmd0 with kind := 7, key := b1 }), 37, true⟩ = H5 at rD kD ⊢
   repeat (first | refine W.w ?_ | refine AL.eff rfl (qan (vs := cmdC ({ cmdV0 with k := y1 }) ({ cmd0 with kind := 7, key := b1 })) rfl rfl rfl (qa5 kD.o.r) kD.g4 rfl ?_) | (refine zz rfl ?_; first | refine qae rfl ?_ | refine qaa rfl ?_ | refine qaj (sz := 20) rfl rfl kD.g6 (Nat.le_refl _) ?_))
   refine ⟨_, ResV.cell2 rfl rfl rfl (Heap.set_at _ _ _) (Nat.le_refl _), { cmdV0 with k := y1 }, { cmd0 with kind := 7, key := b1 }, rfl, kD.o.put kD.g4 (show (37 : TypeId) ≠ 5 by decide) _, wf.ext_set kD.ext kD.n4 _, fun q => ?_⟩
   rw [s1 q]
   rfl
  by_cases c3 : x = wMove
  ·
   rw [planI_move hlt (by rw [hx, c3])]
   have cn := qdc B v ws 4 4 rfl H4 rC (t.ext kC.ext)
   repeat (first | refine W.w ?_ | refine AWp.c8 rfl ?_ | refine AWp.c9 rfl ?_ | (refine zz rfl ?_; first | refine qaa rfl ?_ | refine qaK (a := x) (b := wSplit) rfl rfl (by assumption) ?_ | refine qaK (a := x) (b := wUnion) rfl rfl (by assumption) ?_ | refine qaO (a := x) (b := wMove) rfl rfl (by assumption) ?_ | refine qal (v := v) rfl ?_ | refine qaA rC.os.rs rfl rfl (by omega) (r.at hx) fun _ => ?_ | refine qat (PT.of rC.os.rs (r.at hx)) rfl rfl ?_ | refine qao rfl ?_ | refine qab rfl rfl cn ?_))
   repeat (first | refine zz rfl (qao rfl ?_) | refine AL.eff rfl (qau (b := ⟨cmdC ({ cmdV0 with k := y1 }) ({ cmd0 with key := b1 }), 37, true⟩) rfl rfl rfl kC.g6 rfl (by exact Nat.le_of_ble_eq_true rfl) ?_))
   refine AL.heap (h := H4.set j6 ⟨cmdC ({ cmdV0 with k := y1 }) ({ cmd0 with kind := 8, key := b1 }), 37, true⟩) rfl ?_
   have rD := rC.put kC.g6 qdW ⟨cmdC ({ cmdV0 with k := y1 }) ({ cmd0 with kind := 8, key := b1 }), 37, true⟩
   have kD := kC.set wf ({ cmdV0 with k := y1 }) ({ cmd0 with kind := 8, key := b1 }) ⟨rfl, kC.o.hk, rfl⟩
   generalize H4.set j6 ⟨cmdC ({ cmdV0 with k := y1 }) ({ cmd0 with kind := 8, key := b1 }), 37, true⟩ = H5 at rD kD ⊢
   repeat (first | refine W.w ?_ | refine AL.eff rfl (qau (b := ⟨cmdC ({ cmdV0 with k := y1 }) ({ cmd0 with kind := 8, key := b1 }), 37, true⟩) rfl rfl rfl kD.g6 rfl (by exact Nat.le_of_ble_eq_true rfl) ?_))
   refine AL.heap (h := H5.set j6 ⟨cmdC ({ cmdV0 with k := y1 }) ({ cmd0 with kind := 8, key := b1, group := numI ws 4 }), 37, true⟩) rfl ?_
   have rE := rD.put kD.g6 qdW ⟨cmdC ({ cmdV0 with k := y1 }) ({ cmd0 with kind := 8, key := b1, group := numI ws 4 }), 37, true⟩
   have kE := kD.set wf ({ cmdV0 with k := y1 }) ({ cmd0 with kind := 8, key := b1, group := numI ws 4 }) ⟨rfl, kD.o.hk, rfl⟩
   generalize H5.set j6 ⟨cmdC ({ cmdV0 with k := y1 }) ({ cmd0 with kind := 8, key := b1, group := numI ws 4 }), 37, true⟩ = H6 at rE kE ⊢
   repeat (first | refine W.w ?_ | refine AL.eff rfl (qan (vs := cmdC ({ cmdV0 with k := y1 }) ({ cmd0 with kind := 8, key := b1, group := numI ws 4 })) rfl rfl rfl (qa5 kE.o.r) kE.g4 rfl ?_) | (refine zz rfl ?_; first | refine qae rfl ?_ | refine qaa rfl ?_ | refine qaj (sz := 20) rfl rfl kE.g6 (Nat.le_refl _) ?_))
   refine ⟨_, ResV.cell2 rfl rfl rfl (Heap.set_at _ _ _) (Nat.le_refl _), { cmdV0 with k := y1 }, { cmd0 with kind := 8, key := b1, group := numI ws 4 }, rfl, kE.o.put kE.g4 (show (37 : TypeId) ≠ 5 by decide) _, wf.ext_set kE.ext kE.n4 _, fun q => ?_⟩
   rw [s1 q]
   rfl
  ·
   rw [planI_else hlt hx c1 c2 c3]
   repeat (first | refine W.w ?_ | refine AWp.c9 rfl ?_ | (refine zz rfl ?_; first | refine qaa rfl ?_ | refine qaK (a := x) (b := wSplit) rfl rfl (by assumption) ?_ | refine qaK (a := x) (b := wUnion) rfl rfl (by assumption) ?_ | refine qaK (a := x) (b := wMove) rfl rfl (by assumption) ?_ | refine qaA rC.os.rs rfl rfl (by omega) (r.at hx) fun _ => ?_ | refine qat (PT.of rC.os.rs (r.at hx)) rfl rfl ?_))
   repeat (first | refine W.w ?_ | refine AL.eff rfl (qan (vs := cmdC ({ cmdV0 with k := y1 }) ({ cmd0 with key := b1 })) rfl rfl rfl (qa5 kC.o.r) kC.g4 rfl ?_) | (refine zz rfl ?_; first | refine qae rfl ?_ | refine qaa rfl ?_ | refine qaj (sz := 20) rfl rfl kC.g6 (Nat.le_refl _) ?_))
   refine ⟨_, ResV.cell2 rfl rfl rfl (Heap.set_at _ _ _) (Nat.le_refl _), { cmdV0 with k := y1 }, { cmd0 with key := b1 }, rfl, kC.o.put kC.g4 (show (37 : TypeId) ≠ 5 by decide) _, wf.ext_set kC.ext kC.n4 _, fun q => ?_⟩
   rw [s1 q]
   rfl
end Go.Proofs.YtigmojilaadbhaaGreatDoor
