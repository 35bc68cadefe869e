/-
  Texts of one claim, merged: 4 parts.
-/
import Derived.Test.YtigmojilaadbhaaGreatDoorMfu
import Derived.Test.YtigmojilaadbhaaGreatDoorMfs
import Derived.Test.YtigmojilaadbhaaGreatDoorMfx
import Derived.Test.YtigmojilaadbhaaGreatDoorMfr
import Derived.Test.YtigmojilaadbhaaGreatDoorMft
set_option maxHeartbeats 16000000
/- . -/
namespace Go.Proofs.YtigmojilaadbhaaGreatDoor
open Go Go.Eng Go.Pln Go.Lib
attribute [local irreducible] AWp AL DAL AOp TAL
instance i_muchE : FnC Tryz.prog 85 := ⟨Tryz.f85, Tryz.func85, by kernel_rfl, by kernel_rfl⟩
instance i_longC : FnC Tryz.prog 38 := ⟨Tryz.f38, Tryz.func38, by kernel_rfl, by kernel_rfl⟩
instance i_longQ : FnC Tryz.prog 39 := ⟨Tryz.f39, Tryz.func39, by kernel_rfl, by kernel_rfl⟩
instance i_longA : FnC Tryz.prog 14 := ⟨Tryz.f14, Tryz.func14, by kernel_rfl, by kernel_rfl⟩
instance i_muchS : FnC Tryz.prog 13 := ⟨Tryz.f13, Tryz.func13, by kernel_rfl, by kernel_rfl⟩
theorem muchE_c (u : Value) (l : List EntM) (most : Int) (h : Heap) (r : RE h u l) : ACalls Tryz.prog 85 [u, .int .i64 most] h fun x h' => (∃ b, x = .bool b) ∧ h' = h := by
 refine ACalls.body Tryz.func85 rfl rfl ?_
 obtain ⟨ro, s1, s2, s3⟩ := r.ex
 have hlen := r.len
 obtain ⟨ua, uc, hu⟩ := s1.slice
 repeat (first | refine W.w ?_ | refine zz rfl (qad rfl ?_) | refine zz rfl (qaa rfl ?_))
 refine AWp.loop (α := Nat × Int) (fun d => [(0, u), (1, .int .i64 most), (5, .int .i64 d.2), (6, .int .i64 (d.1 : Nat))]) (fun _ => h) (fun d => d.1 ≤ l.length) (fun d => l.length - d.1) (0, 0) (Nat.zero_le _) (Weak.same (EW.cons rfl (EW.cons rfl (EW.cons rfl (EW.cons rfl EW.nil))))) ?_
 rintro ⟨k, n⟩ hk
 replace hk : k ≤ l.length := hk
 show AWp _ _ _ _ [(0, u), (1, .int .i64 most), (5, .int .i64 n), (6, .int .i64 (k : Nat))] h
 by_cases hlt : k < l.length
 ·
  obtain ⟨e, hle⟩ : ∃ e, l[k]? = some e := ⟨_, List.getElem?_eq_getElem hlt⟩
  obtain ⟨row, hrow⟩ : ∃ row, ro[k]? = some row := ⟨_, List.getElem?_eq_getElem (by omega)⟩
  obtain ⟨k1, v1, rfl, b1, b2⟩ := s3 _ _ _ hrow hle
  have hrw : ro[((k : Nat) : Int).toNat]? = some (entC k1 v1 e) := hrow
  have pe := s1.elt hrw
  by_cases hm : n ≤ most
  ·
   repeat (first | refine W.w ?_ | refine AWp.c8 rfl ?_ | (refine zz rfl ?_; first | refine qac rfl ?_ | refine qag rfl ?_ | refine qam (v := u) rfl ?_ | refine qav s1 rfl ?_ | refine qaj rfl rfl rfl (by omega) ?_ | refine qai (v := .bool _) rfl rfl ?_))
   refine AWp.drawR mixed (by kernel_rfl) ?_
   repeat (first | refine DAL.r rfl rfl rfl (fun h' hx hn => qac rfl ⟨rfl, rfl⟩) ?_ | refine DAL.r rfl rfl rfl (fun h' hx hn => qad rfl ⟨rfl, rfl⟩) ?_ | refine DAL.r rfl rfl rfl (fun h' hx hn => qam (v := u) rfl ⟨rfl, rfl⟩) ?_ | refine DAL.r rfl rfl rfl (fun h' hx hn => qaz (s1.ext hx) rfl rfl (by omega) hrw ⟨rfl, rfl⟩) ?_ | refine DAL.r rfl rfl rfl (fun h' hx hn => qcE (pe.ext hx) rfl ⟨rfl, rfl⟩) ?_ | refine DAL.r rfl rfl rfl (fun h' hx hn => qbu (pe.ext hx) rfl rfl rfl ⟨rfl, rfl⟩) ?_ | refine DAL.r rfl rfl rfl (fun h' hx hn => qaG (b1.ext hx) rfl ⟨rfl, rfl⟩) ?_ | refine DAL.r rfl rfl rfl (fun h' hx hn => qaG (b2.ext hx) rfl ⟨rfl, rfl⟩) ?_ | refine DAL.r rfl rfl rfl (fun h' hx hn => qdZ rfl rfl ⟨rfl, rfl⟩) ?_ | refine DAL.r rfl rfl rfl (fun h' hx hn => qa9 rfl rfl rfl ⟨rfl, rfl⟩) ?_)
   refine DAL.nil ?_
   repeat (first | refine W.w ?_ | (refine zz rfl ?_; first | refine qac rfl ?_ | refine qad rfl ?_ | refine qas rfl rfl (by omega) ?_))
   exact ⟨(k + 1, _), hlt, by show l.length - (k + 1) < l.length - k; omega, Weak.same (EW.cons rfl (EW.cons rfl (EW.cons rfl (EW.cons rfl EW.nil))))⟩
  ·
   repeat' (first | refine AL.nil ?_ | refine AWp.seq ?_ | refine AWp.r9 ?_ | refine AWp.c9 rfl ?_ | refine AWp.ret ?_ | refine AWp.exit ?_ | (refine zz rfl ?_; first | refine qac rfl ?_ | refine qag rfl ?_ | refine qaa rfl ?_ | refine qam (v := u) rfl ?_ | refine qav s1 rfl ?_ | refine qaj rfl rfl rfl (by omega) ?_ | refine qak rfl rfl rfl (by omega) ?_ | refine qai (v := .bool _) rfl rfl ?_))
   exact ⟨_, ResV.tmp rfl, ⟨_, rfl⟩, rfl⟩
 ·
  repeat' (first | refine AL.nil ?_ | refine AL.skip rfl rfl ?_ | refine AWp.seq ?_ | refine AWp.r9 ?_ | refine AWp.c9 rfl ?_ | refine AWp.ret ?_ | refine AWp.exit ?_ | (refine zz rfl ?_; first | refine qac rfl ?_ | refine qag rfl ?_ | refine qaa rfl ?_ | refine qam (v := u) rfl ?_ | refine qav s1 rfl ?_ | refine qak rfl rfl rfl (by omega) ?_ | refine qai (v := .bool _) rfl rfl ?_ | refine qaO rfl rfl rfl (fun c => ?_) (fun c => ?_)))
  all_goals exact ⟨_, ResV.tmp rfl, ⟨_, rfl⟩, rfl⟩
theorem at8 {h : Heap} {vs : List Value} {ll : List Bytes} (q : RBs h vs ll) {k : Nat} (hk : k < vs.length) : ∃ x l, vs[k]? = some x ∧ RB h x l := by
 obtain ⟨h1, h2⟩ := q.at
 obtain ⟨x, hx⟩ : ∃ x, vs[k]? = some x := ⟨_, List.getElem?_eq_getElem hk⟩
 obtain ⟨l, hl⟩ : ∃ l, ll[k]? = some l := ⟨_, List.getElem?_eq_getElem (by omega)⟩
 exact ⟨x, l, hx, h2 k x l hx hl⟩
theorem longC_c (p : CmdV) (m : CmdM) (most : Int) (h : Heap) (r : CmdR h p m) : ACalls Tryz.prog 38 [.agg (cmdC p m).toArray, .int .i64 most] h fun x h' => (∃ b, x = .bool b) ∧ h' = h := by
 refine ACalls.wf fun wf => ACalls.reset ?_
 refine ACalls.body Tryz.func38 rfl rfl ?_
 repeat (first | refine W.w ?_ | refine zz rfl (qaa rfl ?_) | refine zz rfl (qaK rfl (by intro e; cases e) ?_))
 generalize hH : h.alloc _ = H
 have hg : H.get h.next = some ⟨cmdC p m, 37, true⟩ := hH ▸ Heap.alloc_new _ _
 have xh : Ext h H := hH ▸ wf.ext _
 have wfH : WF H := hH ▸ wf.alloc _
 clear hH
 refine AWp.cutI (α := Nat × Nat × Heap) (fun d => [(1, .int .i64 most), (2, ptr h.next), (5, ptr d.1), (6, ptr d.2.1)]) (fun d => d.2.2) (fun d => Ext H d.2.2 ∧ WF d.2.2 ∧ d.2.2.get d.1 = some ⟨askC p.r m.req.ask, 29, true⟩ ∧ d.2.2.get d.2.1 = some ⟨moveC p.m m.move, 34, true⟩) ?_ ?_
 ·
  have ra := r.ext xh
  have n0 := wfH.lt hg
  refine AWp.treeJ (fun H => H.get h.next = some ⟨cmdC p m, 37, true⟩) (fun _ _ a b => b.c _ _ a) (t := OT.seq [(0, .R), (1, .R), (2, .R), (3, .P), (4, .S)] (.alt (OT.seq [(5, .X), (6, .X), (7, .W), (8, .W)] .nil) (OT.seq [(6, .X), (5, .X), (7, .W), (8, .W)] .nil))) mixed (by kernel_rfl) hg ?_
  repeat (first | refine TAL.r rfl rfl rfl (fun h' hx hn => qan rfl ⟨rfl, rfl⟩) ?_ | refine TAL.r rfl rfl rfl (fun h' hx hn => qah (sz := 7) rfl rfl (hx.c _ _ hg) (Nat.le_of_ble_eq_true rfl) ⟨rfl, rfl⟩) ?_ | refine TAL.p rfl rfl rfl (fun h' hn => qan rfl ⟨rfl, rfl⟩) ?_ | refine TAL.s rfl rfl rfl (fun h' hn hx => qah (sz := 6) rfl rfl hx (Nat.le_of_ble_eq_true rfl) ⟨rfl, rfl⟩) ?_)
  refine TAL.two ?_ ?_
  ·
   refine TAL.x rfl rfl rfl (qat ⟨wfH.ext _, ?_⟩)
   have g5 := Heap.alloc_new H ⟨(askC askV0 ask0), 29, true⟩
   have x1 := wfH.ext ⟨(askC askV0 ask0), 29, true⟩
   have w1 := wfH.alloc ⟨(askC askV0 ask0), 29, true⟩
   have n1 : (H.alloc ⟨(askC askV0 ask0), 29, true⟩).next = H.next + 1 := rfl
   refine TAL.heap (h := H.alloc ⟨(askC askV0 ask0), 29, true⟩) rfl ?_
   generalize H.alloc ⟨(askC askV0 ask0), 29, true⟩ = H1 at g5 x1 w1 n1 ⊢
   refine TAL.x rfl rfl rfl (qat ⟨w1.ext _, ?_⟩)
   have g6 := Heap.alloc_new H1 ⟨(moveC ⟨.slice none 0 0, .slice none 0 0⟩ ⟨0, [], [], false, 0, 0⟩), 34, true⟩
   have x2 := w1.ext ⟨(moveC ⟨.slice none 0 0, .slice none 0 0⟩ ⟨0, [], [], false, 0, 0⟩), 34, true⟩
   have w2 := w1.alloc ⟨(moveC ⟨.slice none 0 0, .slice none 0 0⟩ ⟨0, [], [], false, 0, 0⟩), 34, true⟩
   refine TAL.heap (h := H1.alloc ⟨(moveC ⟨.slice none 0 0, .slice none 0 0⟩ ⟨0, [], [], false, 0, 0⟩), 34, true⟩) rfl ?_
   generalize H1.alloc ⟨(moveC ⟨.slice none 0 0, .slice none 0 0⟩ ⟨0, [], [], false, 0, 0⟩), 34, true⟩ = H2 at g6 x2 w2 ⊢
   replace g5 := x2.c _ _ g5
   have xx := x1.trans x2
   refine TAL.wj0 rfl rfl (qap (vs := askC p.r m.req.ask) rfl rfl rfl (qbO ra.r) g5 rfl ⟨(Heap.set_other (by omega)).trans (xx.c _ _ hg), ?_⟩)
   have g6' : (H2.set H.next ⟨askC p.r m.req.ask, 29, true⟩).get H1.next = some ⟨moveC ⟨.slice none 0 0, .slice none 0 0⟩ ⟨0, [], [], false, 0, 0⟩, 34, true⟩ := (Heap.set_other (by omega)).trans g6
   have x3 := wfH.ext_set xx (show H.next ≤ H.next by omega) ⟨askC p.r m.req.ask, 29, true⟩
   have w3 := w2.set (w2.lt g5) ⟨askC p.r m.req.ask, 29, true⟩
   have g5' : (H2.set H.next ⟨askC p.r m.req.ask, 29, true⟩).get H.next = some ⟨askC p.r m.req.ask, 29, true⟩ := Heap.set_at _ _ _
   generalize H2.set H.next ⟨askC p.r m.req.ask, 29, true⟩ = H3 at g6' x3 w3 g5' ⊢
   refine TAL.wj0 rfl rfl (qap (vs := moveC p.m m.move) rfl rfl rfl (qb9 ra.m) g6' rfl ⟨(Heap.set_other (by omega)).trans (x3.c _ _ hg), ?_⟩)
   refine TAL.nil ?_
   exact ⟨(H.next, H1.next, H3.set H1.next ⟨moveC p.m m.move, 34, true⟩), ⟨wfH.ext_set x3 (by omega) _, w3.set (w3.lt g6') _, (Heap.set_other (by omega)).trans g5', Heap.set_at _ _ _⟩, Weak.same (EW.cons rfl (EW.cons rfl (EW.cons rfl (EW.cons rfl EW.nil))))⟩
  ·
   refine TAL.x rfl rfl rfl (qat ⟨wfH.ext _, ?_⟩)
   have g6 := Heap.alloc_new H ⟨(moveC ⟨.slice none 0 0, .slice none 0 0⟩ ⟨0, [], [], false, 0, 0⟩), 34, true⟩
   have x1 := wfH.ext ⟨(moveC ⟨.slice none 0 0, .slice none 0 0⟩ ⟨0, [], [], false, 0, 0⟩), 34, true⟩
   have w1 := wfH.alloc ⟨(moveC ⟨.slice none 0 0, .slice none 0 0⟩ ⟨0, [], [], false, 0, 0⟩), 34, true⟩
   have n1 : (H.alloc ⟨(moveC ⟨.slice none 0 0, .slice none 0 0⟩ ⟨0, [], [], false, 0, 0⟩), 34, true⟩).next = H.next + 1 := rfl
   refine TAL.heap (h := H.alloc ⟨(moveC ⟨.slice none 0 0, .slice none 0 0⟩ ⟨0, [], [], false, 0, 0⟩), 34, true⟩) rfl ?_
   generalize H.alloc ⟨(moveC ⟨.slice none 0 0, .slice none 0 0⟩ ⟨0, [], [], false, 0, 0⟩), 34, true⟩ = H1 at g6 x1 w1 n1 ⊢
   refine TAL.x rfl rfl rfl (qat ⟨w1.ext _, ?_⟩)
   have g5 := Heap.alloc_new H1 ⟨(askC askV0 ask0), 29, true⟩
   have x2 := w1.ext ⟨(askC askV0 ask0), 29, true⟩
   have w2 := w1.alloc ⟨(askC askV0 ask0), 29, true⟩
   refine TAL.heap (h := H1.alloc ⟨(askC askV0 ask0), 29, true⟩) rfl ?_
   generalize H1.alloc ⟨(askC askV0 ask0), 29, true⟩ = H2 at g5 x2 w2 ⊢
   replace g6 := x2.c _ _ g6
   have xx := x1.trans x2
   refine TAL.wj0 rfl rfl (qap (vs := askC p.r m.req.ask) rfl rfl rfl (qbO ra.r) g5 rfl ⟨(Heap.set_other (by omega)).trans (xx.c _ _ hg), ?_⟩)
   have g6' : (H2.set H1.next ⟨askC p.r m.req.ask, 29, true⟩).get H.next = some ⟨moveC ⟨.slice none 0 0, .slice none 0 0⟩ ⟨0, [], [], false, 0, 0⟩, 34, true⟩ := (Heap.set_other (by omega)).trans g6
   have x3 := wfH.ext_set xx (show H.next ≤ H1.next by omega) ⟨askC p.r m.req.ask, 29, true⟩
   have w3 := w2.set (w2.lt g5) ⟨askC p.r m.req.ask, 29, true⟩
   have g5' : (H2.set H1.next ⟨askC p.r m.req.ask, 29, true⟩).get H1.next = some ⟨askC p.r m.req.ask, 29, true⟩ := Heap.set_at _ _ _
   generalize H2.set H1.next ⟨askC p.r m.req.ask, 29, true⟩ = H3 at g6' x3 w3 g5' ⊢
   refine TAL.wj0 rfl rfl (qap (vs := moveC p.m m.move) rfl rfl rfl (qb9 ra.m) g6' rfl ⟨(Heap.set_other (by omega)).trans (x3.c _ _ hg), ?_⟩)
   refine TAL.nil ?_
   exact ⟨(H1.next, H.next, H3.set H.next ⟨moveC p.m m.move, 34, true⟩), ⟨wfH.ext_set x3 (by omega) _, w3.set (w3.lt g6') _, (Heap.set_other (by omega)).trans g5', Heap.set_at _ _ _⟩, Weak.same (EW.cons rfl (EW.cons rfl (EW.cons rfl (EW.cons rfl EW.nil))))⟩
 ·
  rintro ⟨j5, j6, G⟩ ⟨x2, w2, g5, g6⟩
  replace x2 : Ext H G := x2
  replace w2 : WF G := w2
  replace g5 : G.get j5 = some ⟨askC p.r m.req.ask, 29, true⟩ := g5
  replace g6 : G.get j6 = some ⟨moveC p.m m.move, 34, true⟩ := g6
  show AWp _ _ _ _ [(1, .int .i64 most), (2, ptr h.next), (5, ptr j5), (6, ptr j6)] G
  have hg2 := x2.c _ _ hg
  obtain ⟨rr, rm, re, rn, rk⟩ := r.ext (xh.trans x2)
  have q : RBs G [p.r.k, p.r.t, p.r.v, p.r.w, p.m.f, p.m.t, p.n, p.k] [m.req.ask.key, m.req.ask.to, m.req.ask.value, m.req.ask.was, m.move.from_, m.move.to, m.answers, m.key] := ⟨rr.k, rr.t, rr.v, rr.w, rm.f, rm.t, rn, rk, trivial⟩
  repeat (first | refine W.w ?_ | (refine zz rfl ?_; first | refine qad rfl ?_ | refine qa5 rfl ?_ | refine qan rfl ?_ | refine qae rfl rfl g5 rfl ?_ | refine qae rfl rfl g6 rfl ?_ | refine qae rfl rfl hg2 rfl ?_ | refine qaL [p.r.k, p.r.t, p.r.v, p.r.w, p.m.f, p.m.t, p.n, p.k] rfl rfl rfl rfl q.ones ?_))
  obtain ⟨G3, hQ, g8, x3, _, _⟩ := aq w2 ⟨[p.r.k, p.r.t, p.r.v, p.r.w, p.m.f, p.m.t, p.n, p.k], 27, true⟩
  rw [hQ]
  replace q := q.ext x3
  have hg3 := x3.c _ _ hg2
  have rs : RS G3 (.slice (some ⟨G.next, 0, some 1⟩) 8 8) [p.r.k, p.r.t, p.r.v, p.r.w, p.m.f, p.m.t, p.n, p.k] := RS.own g8 rfl
  have hvl : [p.r.k, p.r.t, p.r.v, p.r.w, p.m.f, p.m.t, p.n, p.k].length = 8 := rfl
  generalize [p.r.k, p.r.t, p.r.v, p.r.w, p.m.f, p.m.t, p.n, p.k] = vs at q rs hvl
  skip
  refine AWp.loop (α := Nat × Int) (fun d => [(1, .int .i64 most), (2, ptr h.next), (7, .int .i64 d.2), (8, .slice (some ⟨G.next, 0, some 1⟩) 8 8), (9, .int .i64 (d.1 : Nat))]) (fun _ => G3) (fun d => d.1 ≤ 8) (fun d => 8 - d.1) (0, 0) (Nat.zero_le _) (Weak.same (EW.cons rfl (EW.cons rfl (EW.cons rfl (EW.cons rfl (EW.cons rfl EW.nil)))))) ?_
  rintro ⟨k, n⟩ hk
  replace hk : k ≤ 8 := hk
  show AWp _ _ _ _ [(1, .int .i64 most), (2, ptr h.next), (7, .int .i64 n), (8, .slice (some ⟨G.next, 0, some 1⟩) 8 8), (9, .int .i64 (k : Nat))] G3
  by_cases hlt : k < 8
  ·
   obtain ⟨x, l, hx, rx⟩ := at8 q (show k < vs.length by omega)
   have hx2 : vs[((k : Nat) : Int).toNat]? = some x := hx
   repeat (first | refine W.w ?_ | refine AWp.c8 rfl ?_ | (refine zz rfl ?_; first | refine qac rfl ?_ | refine qcn rfl ?_ | refine qad rfl ?_ | refine qbU rfl ?_ | refine qaj rfl rfl rfl (by omega) ?_ | refine qaM rs rfl rfl (by omega) hx2 fun _ => ?_ | refine qaw (PT.of rs hx2) rfl rfl ?_ | refine qaG rx rfl ?_ | refine qdZ rfl rfl ?_ | refine qas rfl rfl (by omega) ?_ | refine qa9 rfl rfl rfl ?_))
   exact ⟨(k + 1, _), hlt, by show 8 - (k + 1) < 8 - k; omega, Weak.same (EW.cons rfl (EW.cons rfl (EW.cons rfl (EW.cons rfl (EW.cons rfl EW.nil)))))⟩
  ·
   have ce := muchE_c p.e m.entries most G3 (re.ext x3)
   have xx := xh.trans (x2.trans x3)
   by_cases hm : most < n
   ·
    repeat (first | refine AL.nil ?_ | refine AL.skip rfl rfl ?_ | refine AWp.seq ?_ | refine AWp.r9 ?_ | refine AWp.c9 rfl ?_ | refine AWp.ret ?_ | refine AWp.exit ?_ | (refine zz rfl ?_; first | refine qac rfl ?_ | refine qcn rfl ?_ | refine qag rfl ?_ | refine qaa rfl ?_ | refine qbU rfl ?_ | refine qaj rfl rfl rfl (by omega) ?_ | refine qak rfl rfl rfl (by omega) ?_ | refine qai (v := .bool _) rfl rfl ?_))
    exact ⟨_, ResV.tmp rfl, rfl, xx, ⟨_, rfl⟩, rfl⟩
   ·
    repeat (first | refine AL.nil ?_ | refine AWp.seq ?_ | refine AWp.r9 ?_ | refine AWp.c9 rfl ?_ | refine AWp.exit ?_ | (refine zz rfl ?_; first | refine qac rfl ?_ | refine qcn rfl ?_ | refine qag rfl ?_ | refine qbU rfl ?_ | refine qak rfl rfl rfl (by omega) ?_ | refine qan rfl ?_ | refine qae rfl rfl hg3 rfl ?_))
    refine zz rfl (qar rfl rfl (ce.mono ?_))
    rintro _ G4 ⟨⟨b, rfl⟩, hG4⟩
    cases hG4.symm
    cases b
    ·
     repeat (first | refine W.w ?_ | refine zz rfl (qaa rfl ?_) | refine zz rfl (qai (v := .bool _) rfl rfl ?_))
     exact ⟨_, ResV.tmp rfl, rfl, xx, ⟨_, rfl⟩, rfl⟩
    ·
     repeat (first | refine W.w ?_ | refine zz rfl (qaa rfl ?_) | refine zz rfl (qai (v := .bool _) rfl rfl ?_))
     exact ⟨_, ResV.tmp rfl, rfl, xx, ⟨_, rfl⟩, rfl⟩
theorem longQ_c (p : AskV) (a : AskM) (most : Int) (h : Heap) (r : AskR h p a) : ACalls Tryz.prog 39 [.agg (askC p a).toArray, .int .i64 most] h fun x h' => (∃ b, x = .bool b) ∧ h' = h := by
 refine ACalls.wf fun wf => ACalls.reset ?_
 refine ACalls.body Tryz.func39 rfl rfl ?_
 repeat (first | refine W.w ?_ | refine zz rfl (qaa rfl ?_) | refine zz rfl (qaK rfl (by intro e; cases e) ?_))
 generalize hH : h.alloc _ = H
 have hg : H.get h.next = some ⟨askC p a, 29, true⟩ := hH ▸ Heap.alloc_new _ _
 have xh : Ext h H := hH ▸ wf.ext _
 have wfH : WF H := hH ▸ wf.alloc _
 clear hH
 have rH := r.ext xh
 have rc : CmdR H { cmdV0 with r := p } { cmd0 with req := ⟨0, 0, a⟩ } := ⟨rH, (CmdR.nil H).m, RE.nil H, RB.nil H, RB.nil H⟩
 have cl := longC_c { cmdV0 with r := p } { cmd0 with req := ⟨0, 0, a⟩ } most H rc
 repeat (first | (refine zz rfl ?_; first | refine qac rfl ?_ | refine qah (sz := 7) rfl rfl hg (Nat.le_refl _) ?_ | refine qay (out := reqC p ⟨0, 0, a⟩) rfl rfl ?_ | refine qay (out := cmdC { cmdV0 with r := p } { cmd0 with req := ⟨0, 0, a⟩ }) rfl rfl ?_))
 refine zz rfl (qar rfl rfl (cl.mono ?_))
 rintro _ G4 ⟨⟨b, rfl⟩, hG4⟩
 cases hG4.symm
 repeat (first | refine W.w ?_ | refine zz rfl (qaa rfl ?_))
 exact ⟨_, ResV.tmp rfl, rfl, xh, ⟨_, rfl⟩, rfl⟩
theorem longA_c (p : ActV) (a : ActM) (most : Int) (h : Heap) (r : ActR h p a) : ACalls Tryz.prog 14 [.agg (actC p a).toArray, .int .i64 most] h fun x h' => (∃ b, x = .bool b) ∧ h' = h := by
 refine ACalls.wf fun wf => ACalls.reset ?_
 refine ACalls.body Tryz.func14 rfl rfl ?_
 repeat (first | refine W.w ?_ | refine zz rfl (qaa rfl ?_) | refine zz rfl (qaK rfl (by intro e; cases e) ?_))
 generalize hH : h.alloc _ = H
 have hg : H.get h.next = some ⟨actC p a, 40, true⟩ := hH ▸ Heap.alloc_new _ _
 have xh : Ext h H := hH ▸ wf.ext _
 have wfH : WF H := hH ▸ wf.alloc _
 clear hH
 obtain ⟨ra, rc, rk⟩ := r.ext xh
 have rn := rk.rn
 have hkl := rk.len
 have hml : (a.keep.map keptR).length = a.keep.length := List.length_map _
 repeat (first | refine W.w ?_ | (refine zz rfl ?_; first | refine qad rfl ?_ | refine qan rfl ?_ | refine qae rfl rfl hg rfl ?_ | refine qav rn rfl ?_))
 refine AWp.loop (α := Nat × Int) (fun d => [(1, .int .i64 most), (2, ptr h.next), (5, .int .i64 d.2), (6, .int .i64 (d.1 : Nat))]) (fun _ => H) (fun d => d.1 ≤ a.keep.length) (fun d => a.keep.length - d.1) (0, _) (Nat.zero_le _) (Weak.same (EW.cons rfl (EW.cons rfl (EW.cons rfl (EW.cons rfl EW.nil))))) ?_
 rintro ⟨k, n⟩ hk
 replace hk : k ≤ a.keep.length := hk
 show AWp _ _ _ _ [(1, .int .i64 most), (2, ptr h.next), (5, .int .i64 n), (6, .int .i64 (k : Nat))] H
 have cc := longC_c p.c a.cmd most H rc
 have cq := longQ_c p.q a.ask most H ra
 by_cases hcond : k < a.keep.length ∧ n ≤ most
 ·
  obtain ⟨hlt, hm⟩ := hcond
  obtain ⟨x, hxl⟩ : ∃ x, a.keep[k]? = some x := ⟨_, List.getElem?_eq_getElem hlt⟩
  have hx2 : (a.keep.map keptR)[((k : Nat) : Int).toNat]? = some (keptR x) := by simp [hxl]
  have px := rn.elt hx2
  repeat (first | refine W.w ?_ | refine AWp.c8 rfl ?_ | (refine zz rfl ?_; first | refine qac rfl ?_ | refine qag rfl ?_ | refine qad rfl ?_ | refine qan rfl ?_ | refine qae rfl rfl hg rfl ?_ | refine qav rn rfl ?_ | refine qaj rfl rfl rfl (by omega) ?_ | refine qai (v := .bool _) rfl rfl ?_ | refine qaz rn rfl rfl (by omega) hx2 ?_ | refine qcE px rfl ?_ | refine qbu px rfl rfl rfl ?_ | refine qa4 rfl ?_ | refine qdZ rfl rfl ?_ | refine qas rfl rfl (by omega) ?_ | refine qa9 rfl rfl rfl ?_))
  exact ⟨(k + 1, _), hlt, by show a.keep.length - (k + 1) < a.keep.length - k; omega, Weak.same (EW.cons rfl (EW.cons rfl (EW.cons rfl (EW.cons rfl EW.nil))))⟩
 ·
  by_cases hlt : k < a.keep.length
  ·
   repeat (first | refine AL.nil ?_ | refine AL.skip rfl rfl ?_ | refine AWp.seq ?_ | refine AWp.r9 ?_ | refine AWp.c9 rfl ?_ | refine AWp.ret ?_ | refine AWp.exit ?_ | (refine zz rfl ?_; first | refine qac rfl ?_ | refine qag rfl ?_ | refine qaa rfl ?_ | refine qan rfl ?_ | refine qae rfl rfl hg rfl ?_ | refine qav rn rfl ?_ | refine qaj rfl rfl rfl (by omega) ?_ | refine qak rfl rfl rfl (by omega) ?_ | refine qai (v := .bool _) rfl rfl ?_))
   exact ⟨_, ResV.tmp rfl, rfl, xh, ⟨_, rfl⟩, rfl⟩
  ·
   by_cases hm : most < n
   ·
    repeat (first | refine AL.nil ?_ | refine AL.skip rfl rfl ?_ | refine AWp.seq ?_ | refine AWp.r9 ?_ | refine AWp.c9 rfl ?_ | refine AWp.ret ?_ | refine AWp.exit ?_ | (refine zz rfl ?_; first | refine qac rfl ?_ | refine qag rfl ?_ | refine qaa rfl ?_ | refine qan rfl ?_ | refine qae rfl rfl hg rfl ?_ | refine qav rn rfl ?_ | refine qaj rfl rfl rfl (by omega) ?_ | refine qak rfl rfl rfl (by omega) ?_ | refine qai (v := .bool _) rfl rfl ?_))
    exact ⟨_, ResV.tmp rfl, rfl, xh, ⟨_, rfl⟩, rfl⟩
   ·
    repeat (first | refine AL.nil ?_ | refine AL.skip rfl rfl ?_ | refine AWp.seq ?_ | refine AWp.r9 ?_ | refine AWp.c9 rfl ?_ | refine AWp.exit ?_ | (refine zz rfl ?_; first | refine qac rfl ?_ | refine qag rfl ?_ | refine qan rfl ?_ | refine qae rfl rfl hg rfl ?_ | refine qav rn rfl ?_ | refine qak rfl rfl rfl (by omega) ?_ | refine qai (v := .bool _) rfl rfl ?_ | refine qah (sz := 20) rfl rfl hg (Nat.le_of_ble_eq_true rfl) ?_))
    refine zz rfl (qar rfl rfl (cc.mono ?_))
    rintro _ G4 ⟨⟨b, rfl⟩, hG4⟩
    cases hG4.symm
    cases b
    ·
     repeat (first | (refine zz rfl ?_; first | refine qac rfl ?_ | refine qag rfl ?_ | refine qai (v := .bool _) rfl rfl ?_ | refine qan rfl ?_ | refine qah (sz := 7) rfl rfl hg (Nat.le_of_ble_eq_true rfl) ?_))
     refine zz rfl (qar rfl rfl (cq.mono ?_))
     rintro _ G4 ⟨⟨b, rfl⟩, hG4⟩
     cases hG4.symm
     cases b
     ·
      repeat (first | refine W.w ?_ | refine zz rfl (qaa rfl ?_) | refine zz rfl (qai (v := .bool _) rfl rfl ?_))
      exact ⟨_, ResV.tmp rfl, rfl, xh, ⟨_, rfl⟩, rfl⟩
     ·
      repeat (first | refine W.w ?_ | refine zz rfl (qaa rfl ?_) | refine zz rfl (qai (v := .bool _) rfl rfl ?_))
      exact ⟨_, ResV.tmp rfl, rfl, xh, ⟨_, rfl⟩, rfl⟩
    ·
     repeat (first | refine W.w ?_ | refine AL.skip rfl rfl ?_ | (refine zz rfl ?_; first | refine qag rfl ?_ | refine qaa rfl ?_ | refine qai (v := .bool _) rfl rfl ?_))
     exact ⟨_, ResV.tmp rfl, rfl, xh, ⟨_, rfl⟩, rfl⟩
theorem muchS_c (s : ScrM) (vg va : Value) (most : Int) (h : Heap) (rg : RG h vg s.setup.groups) (r : RA h va s.acts) : ACalls Tryz.prog 13 [.agg (scrC vg va s.setup).toArray, .int .i64 most] h fun x h' => (∃ b, x = .bool b) ∧ h' = h := by
 refine ACalls.wf fun wf => ACalls.reset ?_
 refine ACalls.body Tryz.func13 rfl rfl ?_
 repeat (first | refine W.w ?_ | refine zz rfl (qaa rfl ?_) | refine zz rfl (qaK rfl (by intro e; cases e) ?_))
 generalize hH : h.alloc _ = H
 have hg : H.get h.next = some ⟨scrC vg va s.setup, 44, true⟩ := hH ▸ Heap.alloc_new _ _
 have xh : Ext h H := hH ▸ wf.ext _
 have wfH : WF H := hH ▸ wf.alloc _
 clear hH
 obtain ⟨gvs, g1, g2, g3, g4⟩ := rg.ext xh
 obtain ⟨rows, r1, r2, r3⟩ := (r.ext xh).ex
 have hal := r.len
 repeat (first | refine W.w ?_ | (refine zz rfl ?_; first | refine qad rfl ?_ | refine qan rfl ?_ | refine qae rfl rfl hg rfl ?_ | refine qaJ g1 rfl ?_ | refine qav r1 rfl ?_ | refine qas rfl rfl (by omega) ?_))
 refine AWp.loop (α := Nat × Int) (fun d => [(1, .int .i64 most), (2, ptr h.next), (5, .int .i64 d.2), (6, .int .i64 (d.1 : Nat))]) (fun _ => H) (fun d => d.1 ≤ gvs.length) (fun d => gvs.length - d.1) (0, _) (Nat.zero_le _) (Weak.same (EW.cons rfl (EW.cons rfl (EW.cons rfl (EW.cons rfl EW.nil))))) ?_
 rintro ⟨k, n⟩ hk
 replace hk : k ≤ gvs.length := hk
 show AWp _ _ _ _ [(1, .int .i64 most), (2, ptr h.next), (5, .int .i64 n), (6, .int .i64 (k : Nat))] H
 by_cases hcond : k < gvs.length ∧ n ≤ most
 ·
  obtain ⟨hlt, hm⟩ := hcond
  obtain ⟨v, hv⟩ : ∃ v, gvs[k]? = some v := ⟨_, List.getElem?_eq_getElem hlt⟩
  obtain ⟨g, hgk⟩ : ∃ g, s.setup.groups[k]? = some g := ⟨_, List.getElem?_eq_getElem (by omega)⟩
  have hv2 : gvs[((k : Nat) : Int).toNat]? = some v := hv
  obtain ⟨rv, _⟩ := g4 k v g hv hgk
  repeat (first | refine W.w ?_ | refine AWp.c8 rfl ?_ | (refine zz rfl ?_; first | refine qac rfl ?_ | refine qag rfl ?_ | refine qad rfl ?_ | refine qan rfl ?_ | refine qae rfl rfl hg rfl ?_ | refine qaJ g1 rfl ?_ | refine qaj rfl rfl rfl (by omega) ?_ | refine qai (v := .bool _) rfl rfl ?_ | refine qaM g1 rfl rfl (by omega) hv2 fun _ => ?_ | refine qaw (PT.of g1 hv2) rfl rfl ?_ | refine qaJ rv rfl ?_ | refine qdZ rfl rfl ?_ | refine qas rfl rfl (by omega) ?_ | refine qa9 rfl rfl rfl ?_))
  exact ⟨(k + 1, _), hlt, by show gvs.length - (k + 1) < gvs.length - k; omega, Weak.same (EW.cons rfl (EW.cons rfl (EW.cons rfl (EW.cons rfl EW.nil))))⟩
 ·
  repeat' (first | refine AL.nil ?_ | refine AL.skip rfl rfl ?_ | refine AWp.seq ?_ | refine AWp.r9 ?_ | refine AWp.c9 rfl ?_ | refine AWp.exit ?_ | refine AWp.b9 ?_ | (refine zz rfl ?_; first | refine qac rfl ?_ | refine qag rfl ?_ | refine qad rfl ?_ | refine qan rfl ?_ | refine qae rfl rfl hg rfl ?_ | refine qaJ g1 rfl ?_ | refine qak rfl rfl rfl (by omega) ?_ | refine qai (v := .bool _) rfl rfl ?_ | refine qaO rfl rfl rfl (fun c => ?_) (fun c => ?_)))
  all_goals first | (exfalso; omega) | skip
  all_goals (
   refine AWp.loop (α := Nat) (fun d => [(1, .int .i64 most), (2, ptr h.next), (5, .int .i64 n), (7, .int .i64 (d : Nat))]) (fun _ => H) (fun d => d ≤ rows.length) (fun d => rows.length - d) 0 (Nat.zero_le _) (Weak.same (EW.cons rfl (EW.cons rfl (EW.cons rfl (EW.cons rfl EW.nil))))) ?_
   intro j hj
   replace hj : j ≤ rows.length := hj
   by_cases hc2 : j < rows.length ∧ n ≤ most
   ·
    obtain ⟨hlt, hm⟩ := hc2
    obtain ⟨row, hrow⟩ : ∃ row, rows[j]? = some row := ⟨_, List.getElem?_eq_getElem hlt⟩
    obtain ⟨a, hla⟩ : ∃ a, s.acts[j]? = some a := ⟨_, List.getElem?_eq_getElem (by omega)⟩
    obtain ⟨q, rfl, hq⟩ := r3 j row a hrow hla
    have hrw : rows[((j : Nat) : Int).toNat]? = some (actC q a) := hrow
    have pe := r1.elt hrw
    have cl := longA_c q a 3000 H hq
    repeat (first | refine W.w ?_ | refine AWp.c8 rfl ?_ | (refine zz rfl ?_; first | refine qac rfl ?_ | refine qag rfl ?_ | refine qan rfl ?_ | refine qae rfl rfl hg rfl ?_ | refine qav r1 rfl ?_ | refine qaj rfl rfl rfl (by omega) ?_ | refine qai (v := .bool _) rfl rfl ?_ | refine qaz r1 rfl rfl (by omega) hrw ?_ | refine qaP pe rfl rfl rfl ?_))
    refine zz rfl (qar rfl rfl (cl.mono ?_))
    rintro _ G4 ⟨⟨b, rfl⟩, hG4⟩
    cases hG4.symm
    cases b
    ·
     repeat (first | refine W.w ?_ | refine AWp.c9 rfl ?_ | (refine zz rfl ?_; first | refine qac rfl ?_ | refine qad rfl ?_ | refine qas rfl rfl (by omega) ?_))
     exact ⟨j + 1, hlt, by omega, Weak.same (EW.cons rfl (EW.cons rfl (EW.cons rfl (EW.cons rfl EW.nil))))⟩
    ·
     repeat (first | refine W.w ?_ | refine AWp.c8 rfl ?_ | refine zz rfl (qaa rfl ?_))
     exact ⟨_, ResV.tmp rfl, rfl, xh, ⟨_, rfl⟩, rfl⟩
   ·
    repeat' (first | refine AL.nil ?_ | refine AL.skip rfl rfl ?_ | refine AWp.seq ?_ | refine AWp.r9 ?_ | refine AWp.c9 rfl ?_ | refine AWp.ret ?_ | refine AWp.exit ?_ | (refine zz rfl ?_; first | refine qac rfl ?_ | refine qag rfl ?_ | refine qaa rfl ?_ | refine qan rfl ?_ | refine qae rfl rfl hg rfl ?_ | refine qav r1 rfl ?_ | refine qaj rfl rfl rfl (by omega) ?_ | refine qak rfl rfl rfl (by omega) ?_ | refine qai (v := .bool _) rfl rfl ?_ | refine qaO rfl rfl rfl (fun c => ?_) (fun c => ?_)))
    all_goals first | (exfalso; omega) | exact ⟨_, ResV.tmp rfl, rfl, xh, ⟨_, rfl⟩, rfl⟩)
end Go.Proofs.YtigmojilaadbhaaGreatDoor
/- . -/
namespace Go.Proofs.YtigmojilaadbhaaGreatDoor
open Go Go.Eng Go.Pln
open Go.Lib hiding splitN
attribute [local irreducible] AWp AL DAL AOp TAL
theorem RA.nil' (h : Heap) : RA h nilS [] := ⟨⟨[], RN.nil _ _, rfl, fun k row a hr => by simp at hr⟩, Nat.zero_le _⟩
theorem qhg (x : SetM) (vg : Value) (h : Heap) (t : Tabs h) (h8 : 8 ≤ h.next) (rg : RG h vg x.groups) : ACalls Tryz.prog 9 [.agg (setC vg x).toArray] h fun u h' => u = .bool true ∧ h' = h := by
 refine ACalls.wf fun wf => ACalls.reset ?_
 refine ACalls.body Tryz.func9 rfl rfl ?_
 repeat (first | refine W.w ?_ | refine zz rfl (qaa rfl ?_) | refine zz rfl (qaK rfl (by intro e; cases e) ?_))
 generalize hH : h.alloc _ = H
 have n8 : 8 ≤ H.next := by rw [← hH]; show 8 ≤ h.next + 1; omega
 have hg : H.get h.next = some ⟨setC vg x, 24, true⟩ := hH ▸ Heap.alloc_new _ _
 have xh : Ext h H := hH ▸ wf.ext _
 clear hH
 have tH := t.ext xh
 have gH := rg.ext xh
 have cK := qhW H tH n8
 repeat (first | refine zz rfl (qah (sz := 5) rfl rfl hg (Nat.le_refl _) ?_) | refine zz rfl (qay (out := scrC vg nilS x) rfl rfl ?_))
 refine zz rfl (qar (evs := [.agg (scrC vg nilS x).toArray, .int .i64 9000]) rfl rfl ((muchS_c ⟨x, []⟩ vg nilS 9000 H gH (RA.nil' H)).mono ?_))
 rintro _ K1 ⟨⟨b, rfl⟩, hK1⟩
 cases hK1.symm
 cases b with
 | true =>
  repeat (first | refine W.w ?_ | refine AWp.c8 rfl ?_ | refine zz rfl (qaa rfl ?_) | refine zz rfl (qab rfl rfl cK ?_))
  exact ⟨_, ResV.tmp rfl, rfl, xh, rfl, rfl⟩
 | false =>
  have cH := head_c x vg H tH gH
  have cA := fun (G : Heap) (hx : Ext H G) => qdR x vg G (gH.ext hx)
  have cB := fun (G : Heap) (hx : Ext H G) => qc0 x vg G (gH.ext hx)
  have cB0 := qc0 x vg H gH
  cases hm : maySet x with
  | false =>
   rw [show headV x = .tuple #[str [], .int .i64 2] by unfold headV; rw [hm]; rfl] at cH
   rw [hm] at cA cB cB0
   have c2 := qc2 2 H
   repeat (first | refine W.w ?_ | refine AWp.c9 rfl ?_ | (refine zz rfl ?_; first | refine qaH rfl ?_ | refine qad rfl ?_ | refine qaf rfl ?_ | refine qah (sz := 5) rfl rfl hg (Nat.le_refl _) ?_ | refine qab rfl rfl cH ?_ | refine qau rfl rfl ?_))
   refine AWp.drawR mixed (by kernel_rfl) ?_
   repeat (first | refine DAL.r rfl rfl rfl (fun h' hx hn => qah (sz := 5) rfl rfl (hx.c _ _ hg) (Nat.le_refl _) ⟨rfl, rfl⟩) ?_ | refine DAL.r rfl rfl rfl (fun h' hx hn => qab rfl rfl (cA _ hx) ⟨rfl, rfl⟩) ?_ | refine DAL.r rfl rfl rfl (fun h' hx hn => qab rfl rfl (cB _ hx) ⟨rfl, rfl⟩) ?_ | refine DAL.r rfl rfl rfl (fun h' hx hn => qfb (a := false) (b := false) rfl rfl rfl ⟨rfl, rfl⟩) ?_)
   refine DAL.nil ?_
   repeat (first | refine W.w ?_ | refine AWp.c8 rfl ?_ | refine AWp.c9 rfl ?_ | (refine zz rfl ?_; first | refine qac rfl ?_ | refine qag rfl ?_ | refine qal rfl ?_ | refine qaa rfl ?_ | refine qah (sz := 5) rfl rfl hg (Nat.le_refl _) ?_ | refine qab rfl rfl cB0 ?_ | refine qaW (a := []) (b := []) rfl rfl rfl ?_ | refine qai (v := .bool _) rfl rfl ?_ | refine qab rfl rfl c2 ?_ | refine qaj rfl rfl rfl (by omega) ?_ | refine qab rfl rfl cK ?_ | refine qaE rfl ?_))
   exact ⟨_, ResV.tmp rfl, rfl, xh, rfl, rfl⟩
  | true =>
   rw [show headV x = .tuple #[str (catN (headsM x)), .int .i64 0] by unfold headV; rw [hm]; rfl] at cH
   rw [hm] at cA cB cB0
   have cT := rtext_c ⟨x, []⟩ vg nilS H tH hm (fun a ha => by cases ha) (Nat.zero_le _) gH (RA.nil' H)
   rw [show textM ⟨x, []⟩ = catN (headsM x) by unfold textM; simp] at cT
   have c0 := qc2 0 H
   generalize catN (headsM x) = tx at cH cT
   repeat (first | refine W.w ?_ | refine AWp.c9 rfl ?_ | (refine zz rfl ?_; first | refine qaH rfl ?_ | refine qad rfl ?_ | refine qaf rfl ?_ | refine qah (sz := 5) rfl rfl hg (Nat.le_refl _) ?_ | refine qab rfl rfl cH ?_ | refine qau rfl rfl ?_))
   refine AWp.drawR mixed (by kernel_rfl) ?_
   repeat (first | refine DAL.r rfl rfl rfl (fun h' hx hn => qah (sz := 5) rfl rfl (hx.c _ _ hg) (Nat.le_refl _) ⟨rfl, rfl⟩) ?_ | refine DAL.r rfl rfl rfl (fun h' hx hn => qab rfl rfl (cA _ hx) ⟨rfl, rfl⟩) ?_ | refine DAL.r rfl rfl rfl (fun h' hx hn => qab rfl rfl (cB _ hx) ⟨rfl, rfl⟩) ?_ | refine DAL.r rfl rfl rfl (fun h' hx hn => qfb (a := true) (b := true) rfl rfl rfl ⟨rfl, rfl⟩) ?_)
   refine DAL.nil ?_
   repeat (first | refine W.w ?_ | refine AWp.c9 rfl ?_ | (refine zz rfl ?_; first | refine qac rfl ?_ | refine qag rfl ?_ | refine qal rfl ?_ | refine qaa rfl ?_ | refine qah (sz := 5) rfl rfl hg (Nat.le_refl _) ?_ | refine qab rfl rfl cB0 ?_ | refine qay (out := scrC vg nilS x) rfl rfl ?_ | refine qab rfl rfl cT ?_ | refine qaW (a := tx) (b := tx) rfl rfl rfl ?_ | refine qai (v := .bool _) rfl rfl ?_ | refine qab rfl rfl c0 ?_ | refine qaj rfl rfl rfl (by omega) ?_ | refine qab rfl rfl cK ?_ | refine qaE rfl ?_))
   exact ⟨_, ResV.tmp rfl, rfl, xh, rfl, rfl⟩
theorem texts_walk (s : ScrM) (vg va : Value) (h : Heap) (t : Tabs h) (h8 : 8 ≤ h.next) (rg : RG h vg s.setup.groups) (ra : RA h va s.acts) : ACalls Tryz.prog 10 [.agg (scrC vg va s.setup).toArray] h fun u h' => u = .bool true ∧ h' = h := by
 refine ACalls.wf fun wf => ACalls.reset ?_
 refine ACalls.body Tryz.func10 rfl rfl ?_
 repeat (first | refine W.w ?_ | refine zz rfl (qaa rfl ?_) | refine zz rfl (qaK rfl (by intro e; cases e) ?_))
 generalize hH : h.alloc _ = H
 have n8 : 8 ≤ H.next := by rw [← hH]; show 8 ≤ h.next + 1; omega
 have hg : H.get h.next = some (scrB vg va s.setup) := hH ▸ Heap.alloc_new _ _
 have xh : Ext h H := hH ▸ wf.ext _
 clear hH
 have tH := t.ext xh
 have gH := rg.ext xh
 have aH := ra.ext xh
 have cK := qhW H tH n8
 repeat (first | refine zz rfl (qah (sz := 6) rfl rfl hg (Nat.le_refl _) ?_))
 refine zz rfl (qar (evs := [.agg (scrC vg va s.setup).toArray, .int .i64 9000]) rfl rfl ((muchS_c s vg va 9000 H gH aH).mono ?_))
 rintro _ K1 ⟨⟨b, rfl⟩, hK1⟩
 cases hK1.symm
 cases b with
 | true =>
  repeat (first | refine W.w ?_ | refine AWp.c8 rfl ?_ | refine zz rfl (qaa rfl ?_) | refine zz rfl (qab rfl rfl cK ?_))
  exact ⟨_, ResV.tmp rfl, rfl, xh, rfl, rfl⟩
 | false =>
  have cC := check_c s vg va H gH aH
  have cD := rcheck_c s vg va H gH aH
  have cT := textF_c s vg va H tH gH aH
  have hce := qf0 (s := s)
  generalize hm1 : (checkM s).1 = i1 at cC cD
  by_cases hc : (checkM s).2 = 0
  ·
   obtain ⟨q1, q2, q3⟩ := hce hc
   have cR := rtext_c s vg va H tH q1 q3 q2 gH aH
   rw [hc] at cC cD
   have c0 := qc2 0 H
   have c3 := qc2 3 H
   by_cases hl : 1048576 < (textM s).length
   ·
    rw [show textV s = .tuple #[str [], .int .i64 3] by unfold textV; rw [if_pos hc, if_pos hl]] at cT
    generalize textM s = tx at cR hl
    repeat (first | refine W.w ?_ | refine AWp.c8 rfl ?_ | refine AWp.c9 rfl ?_ | (refine zz rfl ?_; first | refine qac rfl ?_ | refine qag rfl ?_ | refine qal rfl ?_ | refine qaH rfl ?_ | refine qad rfl ?_ | refine qaa rfl ?_ | refine qaf rfl ?_ | refine qah (sz := 6) rfl rfl hg (Nat.le_refl _) ?_ | refine qab rfl rfl cC ?_ | refine qab rfl rfl cD ?_ | refine qab rfl rfl cT ?_ | refine qau rfl rfl ?_ | refine qak (a := i1) (b := i1) rfl rfl rfl (fun e => e rfl) ?_ | refine qab rfl rfl c0 ?_ | refine qab rfl rfl c3 ?_ | refine qaj rfl rfl rfl (by omega) ?_ | refine qak rfl rfl rfl (by omega) ?_ | refine qai (v := .bool _) rfl rfl ?_ | refine qab rfl rfl cR ?_ | refine qa4 rfl ?_ | refine qaW (a := []) (b := []) rfl rfl rfl ?_ | refine qab rfl rfl cK ?_))
    exact ⟨_, ResV.tmp rfl, rfl, xh, rfl, rfl⟩
   ·
    rw [show textV s = .tuple #[str (textM s), .int .i64 0] by unfold textV; rw [if_pos hc, if_neg hl]] at cT
    generalize textM s = tx at cR hl cT
    repeat (first | refine W.w ?_ | refine AWp.c9 rfl ?_ | (refine zz rfl ?_; first | refine qac rfl ?_ | refine qag rfl ?_ | refine qal rfl ?_ | refine qaH rfl ?_ | refine qad rfl ?_ | refine qaa rfl ?_ | refine qaf rfl ?_ | refine qah (sz := 6) rfl rfl hg (Nat.le_refl _) ?_ | refine qab rfl rfl cC ?_ | refine qab rfl rfl cD ?_ | refine qab rfl rfl cT ?_ | refine qau rfl rfl ?_ | refine qak (a := i1) (b := i1) rfl rfl rfl (fun e => e rfl) ?_ | refine qab rfl rfl c0 ?_ | refine qaj rfl rfl rfl (by omega) ?_ | refine qak rfl rfl rfl (by omega) ?_ | refine qai (v := .bool _) rfl rfl ?_ | refine qab rfl rfl cR ?_ | refine qa4 rfl ?_ | refine qaW (a := tx) (b := tx) rfl rfl rfl ?_ | refine qab rfl rfl cK ?_))
    exact ⟨_, ResV.tmp rfl, rfl, xh, rfl, rfl⟩
  ·
   rw [show textV s = .tuple #[str [], .int .i64 (checkM s).2] by unfold textV; rw [if_neg hc]] at cT
   generalize (checkM s).2 = i2 at cC cD cT hc
   have c2 := qc2 i2 H
   repeat (first | refine W.w ?_ | refine AWp.c8 rfl ?_ | refine AWp.c9 rfl ?_ | (refine zz rfl ?_; first | refine qac rfl ?_ | refine qag rfl ?_ | refine qal rfl ?_ | refine qaH rfl ?_ | refine qad rfl ?_ | refine qaa rfl ?_ | refine qaf rfl ?_ | refine qah (sz := 6) rfl rfl hg (Nat.le_refl _) ?_ | refine qab rfl rfl cC ?_ | refine qab rfl rfl cD ?_ | refine qab rfl rfl cT ?_ | refine qau rfl rfl ?_ | refine qak (a := i1) (b := i1) rfl rfl rfl (fun e => e rfl) ?_ | refine qab rfl rfl c2 ?_ | refine qak (a := i2) (b := i2) rfl rfl rfl (fun e => e rfl) ?_ | refine qaj (a := i2) (b := 0) rfl rfl rfl hc ?_ | refine qai (v := .bool _) rfl rfl ?_ | refine qaW (a := []) (b := []) rfl rfl rfl ?_ | refine qaj (a := i2) (b := i2) rfl rfl rfl rfl ?_ | refine qab rfl rfl cK ?_))
   exact ⟨_, ResV.tmp rfl, rfl, xh, rfl, rfl⟩
end Go.Proofs.YtigmojilaadbhaaGreatDoor
