/-
  Texts of one claim, merged: 5 parts.
-/
import Derived.Test.YtigmojilaadbhaaGreatDoorMdx
import Derived.Test.YtigmojilaadbhaaGreatDoorMdu
import Derived.Test.YtigmojilaadbhaaGreatDoorMdw
import Derived.Test.YtigmojilaadbhaaGreatDoorMdt
import Derived.Test.YtigmojilaadbhaaGreatDoorMdv
set_option maxHeartbeats 16000000
/- . -/
namespace Go.Proofs.YtigmojilaadbhaaGreatDoor
open Go Go.Eng Go.Pln Go.Lib
attribute [local irreducible] AWp AL DAL AOp TAL
instance i_muchE : FnC Tryz.prog 85 := ⟨Tryz.f85, Tryz.func85, by kernel_rfl, by kernel_rfl⟩
instance i_longC : FnC Tryz.prog 38 := ⟨Tryz.f38, Tryz.func38, by kernel_rfl, by kernel_rfl⟩
instance i_longQ : FnC Tryz.prog 39 := ⟨Tryz.f39, Tryz.func39, by kernel_rfl, by kernel_rfl⟩
instance i_longA : FnC Tryz.prog 14 := ⟨Tryz.f14, Tryz.func14, by kernel_rfl, by kernel_rfl⟩
instance i_muchS : FnC Tryz.prog 13 := ⟨Tryz.f13, Tryz.func13, by kernel_rfl, by kernel_rfl⟩
theorem muchE_c (u : Value) (l : List EntM) (most : Int) (h : Heap) (r : RE h u l) : ACalls Tryz.prog 85 [u, .int .i64 most] h fun x h' => (∃ b, x = .bool b) ∧ h' = h := by
 refine ACalls.body Tryz.func85 rfl rfl ?_
 obtain ⟨ro, s1, s2, s3⟩ := r.ex
 have hlen := r.len
 obtain ⟨ua, uc, hu⟩ := s1.slice
 repeat (first | refine W.w ?_ | refine zz rfl (qac rfl ?_) | refine zz rfl (qaa rfl ?_))
 refine AWp.loop (α := Nat × Int) (fun d => [(0, u), (1, .int .i64 most), (5, .int .i64 d.2), (6, .int .i64 (d.1 : Nat))]) (fun _ => h) (fun d => d.1 ≤ l.length) (fun d => l.length - d.1) (0, 0) (Nat.zero_le _) (Weak.same (EW.cons rfl (EW.cons rfl (EW.cons rfl (EW.cons rfl EW.nil))))) ?_
 rintro ⟨k, n⟩ hk
 replace hk : k ≤ l.length := hk
 show AWp _ _ _ _ [(0, u), (1, .int .i64 most), (5, .int .i64 n), (6, .int .i64 (k : Nat))] h
 by_cases hlt : k < l.length
 ·
  obtain ⟨e, hle⟩ : ∃ e, l[k]? = some e := ⟨_, List.getElem?_eq_getElem hlt⟩
  obtain ⟨row, hrow⟩ : ∃ row, ro[k]? = some row := ⟨_, List.getElem?_eq_getElem (by omega)⟩
  obtain ⟨k1, v1, rfl, b1, b2⟩ := s3 _ _ _ hrow hle
  have hrw : ro[((k : Nat) : Int).toNat]? = some (entC k1 v1 e) := hrow
  have pe := s1.elt hrw
  by_cases hm : n ≤ most
  ·
   repeat (first | refine W.w ?_ | refine AWp.c8 rfl ?_ | (refine zz rfl ?_; first | refine qad rfl ?_ | refine qag rfl ?_ | refine qan (v := u) rfl ?_ | refine qau s1 rfl ?_ | refine qaj rfl rfl rfl (by omega) ?_ | refine qai (v := .bool _) rfl rfl ?_))
   refine AWp.drawR mixed (by kernel_rfl) ?_
   repeat (first | refine DAL.r rfl rfl rfl (fun h' hx hn => qad rfl ⟨rfl, rfl⟩) ?_ | refine DAL.r rfl rfl rfl (fun h' hx hn => qac rfl ⟨rfl, rfl⟩) ?_ | refine DAL.r rfl rfl rfl (fun h' hx hn => qan (v := u) rfl ⟨rfl, rfl⟩) ?_ | refine DAL.r rfl rfl rfl (fun h' hx hn => qaF (s1.ext hx) rfl rfl (by omega) hrw ⟨rfl, rfl⟩) ?_ | refine DAL.r rfl rfl rfl (fun h' hx hn => op_faN (pe.ext hx) rfl ⟨rfl, rfl⟩) ?_ | refine DAL.r rfl rfl rfl (fun h' hx hn => qgA (pe.ext hx) rfl rfl rfl ⟨rfl, rfl⟩) ?_ | refine DAL.r rfl rfl rfl (fun h' hx hn => qaZ (b1.ext hx) rfl ⟨rfl, rfl⟩) ?_ | refine DAL.r rfl rfl rfl (fun h' hx hn => qaZ (b2.ext hx) rfl ⟨rfl, rfl⟩) ?_ | refine DAL.r rfl rfl rfl (fun h' hx hn => qdm rfl rfl ⟨rfl, rfl⟩) ?_ | refine DAL.r rfl rfl rfl (fun h' hx hn => qbe rfl rfl rfl ⟨rfl, rfl⟩) ?_)
   refine DAL.nil ?_
   repeat (first | refine W.w ?_ | (refine zz rfl ?_; first | refine qad rfl ?_ | refine qac rfl ?_ | refine qav rfl rfl (by omega) ?_))
   exact ⟨(k + 1, _), hlt, by show l.length - (k + 1) < l.length - k; omega, Weak.same (EW.cons rfl (EW.cons rfl (EW.cons rfl (EW.cons rfl EW.nil))))⟩
  ·
   repeat' (first | refine AL.nil ?_ | refine AWp.seq ?_ | refine AWp.r9 ?_ | refine AWp.c9 rfl ?_ | refine AWp.ret ?_ | refine AWp.exit ?_ | (refine zz rfl ?_; first | refine qad rfl ?_ | refine qag rfl ?_ | refine qaa rfl ?_ | refine qan (v := u) rfl ?_ | refine qau s1 rfl ?_ | refine qaj rfl rfl rfl (by omega) ?_ | refine qak rfl rfl rfl (by omega) ?_ | refine qai (v := .bool _) rfl rfl ?_))
   exact ⟨_, ResV.tmp rfl, ⟨_, rfl⟩, rfl⟩
 ·
  repeat' (first | refine AL.nil ?_ | refine AL.skip rfl rfl ?_ | refine AWp.seq ?_ | refine AWp.r9 ?_ | refine AWp.c9 rfl ?_ | refine AWp.ret ?_ | refine AWp.exit ?_ | (refine zz rfl ?_; first | refine qad rfl ?_ | refine qag rfl ?_ | refine qaa rfl ?_ | refine qan (v := u) rfl ?_ | refine qau s1 rfl ?_ | refine qak rfl rfl rfl (by omega) ?_ | refine qai (v := .bool _) rfl rfl ?_ | refine qaU rfl rfl rfl (fun c => ?_) (fun c => ?_)))
  all_goals exact ⟨_, ResV.tmp rfl, ⟨_, rfl⟩, rfl⟩
theorem at8 {h : Heap} {vs : List Value} {ll : List Bytes} (q : RBs h vs ll) {k : Nat} (hk : k < vs.length) : ∃ x l, vs[k]? = some x ∧ RB h x l := by
 obtain ⟨h1, h2⟩ := q.at
 obtain ⟨x, hx⟩ : ∃ x, vs[k]? = some x := ⟨_, List.getElem?_eq_getElem hk⟩
 obtain ⟨l, hl⟩ : ∃ l, ll[k]? = some l := ⟨_, List.getElem?_eq_getElem (by omega)⟩
 exact ⟨x, l, hx, h2 k x l hx hl⟩
theorem longC_c (p : CmdV) (m : CmdM) (most : Int) (h : Heap) (r : CmdR h p m) : ACalls Tryz.prog 38 [.agg (cmdC p m).toArray, .int .i64 most] h fun x h' => (∃ b, x = .bool b) ∧ h' = h := by
 refine ACalls.wf fun wf => ACalls.reset ?_
 refine ACalls.body Tryz.func38 rfl rfl ?_
 repeat (first | refine W.w ?_ | refine zz rfl (qaa rfl ?_) | refine zz rfl (qaI rfl (by intro e; cases e) ?_))
 generalize hH : h.alloc _ = H
 have hg : H.get h.next = some ⟨cmdC p m, 37, true⟩ := hH ▸ Heap.alloc_new _ _
 have xh : Ext h H := hH ▸ wf.ext _
 have wfH : WF H := hH ▸ wf.alloc _
 clear hH
 refine AWp.cutI (α := Nat × Nat × Heap) (fun d => [(1, .int .i64 most), (2, ptr h.next), (5, ptr d.1), (6, ptr d.2.1)]) (fun d => d.2.2) (fun d => Ext H d.2.2 ∧ WF d.2.2 ∧ d.2.2.get d.1 = some ⟨askC p.r m.req.ask, 29, true⟩ ∧ d.2.2.get d.2.1 = some ⟨moveC p.m m.move, 34, true⟩) ?_ ?_
 ·
  have ra := r.ext xh
  have n0 := wfH.lt hg
  refine AWp.treeJ (fun H => H.get h.next = some ⟨cmdC p m, 37, true⟩) (fun _ _ a b => b.c _ _ a) (t := OT.seq [(0, .R), (1, .R), (2, .R), (3, .P), (4, .S)] (.alt (OT.seq [(5, .X), (6, .X), (7, .W), (8, .W)] .nil) (OT.seq [(6, .X), (5, .X), (7, .W), (8, .W)] .nil))) mixed (by kernel_rfl) hg ?_
  repeat (first | refine TAL.r rfl rfl rfl (fun h' hx hn => qap rfl ⟨rfl, rfl⟩) ?_ | refine TAL.r rfl rfl rfl (fun h' hx hn => qaf (sz := 7) rfl rfl (hx.c _ _ hg) (Nat.le_of_ble_eq_true rfl) ⟨rfl, rfl⟩) ?_ | refine TAL.p rfl rfl rfl (fun h' hn => qap rfl ⟨rfl, rfl⟩) ?_ | refine TAL.s rfl rfl rfl (fun h' hn hx => qaf (sz := 6) rfl rfl hx (Nat.le_of_ble_eq_true rfl) ⟨rfl, rfl⟩) ?_)
  refine TAL.two ?_ ?_
  ·
   refine TAL.x rfl rfl rfl (qat ⟨wfH.ext _, ?_⟩)
   have g5 := Heap.alloc_new H ⟨(askC askV0 ask0), 29, true⟩
   have x1 := wfH.ext ⟨(askC askV0 ask0), 29, true⟩
   have w1 := wfH.alloc ⟨(askC askV0 ask0), 29, true⟩
   have n1 : (H.alloc ⟨(askC askV0 ask0), 29, true⟩).next = H.next + 1 := rfl
   refine TAL.heap (h := H.alloc ⟨(askC askV0 ask0), 29, true⟩) rfl ?_
   generalize H.alloc ⟨(askC askV0 ask0), 29, true⟩ = H1 at g5 x1 w1 n1 ⊢
   refine TAL.x rfl rfl rfl (qat ⟨w1.ext _, ?_⟩)
   have g6 := Heap.alloc_new H1 ⟨(moveC ⟨.slice none 0 0, .slice none 0 0⟩ ⟨0, [], [], false, 0, 0⟩), 34, true⟩
   have x2 := w1.ext ⟨(moveC ⟨.slice none 0 0, .slice none 0 0⟩ ⟨0, [], [], false, 0, 0⟩), 34, true⟩
   have w2 := w1.alloc ⟨(moveC ⟨.slice none 0 0, .slice none 0 0⟩ ⟨0, [], [], false, 0, 0⟩), 34, true⟩
   refine TAL.heap (h := H1.alloc ⟨(moveC ⟨.slice none 0 0, .slice none 0 0⟩ ⟨0, [], [], false, 0, 0⟩), 34, true⟩) rfl ?_
   generalize H1.alloc ⟨(moveC ⟨.slice none 0 0, .slice none 0 0⟩ ⟨0, [], [], false, 0, 0⟩), 34, true⟩ = H2 at g6 x2 w2 ⊢
   replace g5 := x2.c _ _ g5
   have xx := x1.trans x2
   refine TAL.wj0 rfl rfl (qas (vs := askC p.r m.req.ask) rfl rfl rfl (qbT ra.r) g5 rfl ⟨(Heap.set_other (by omega)).trans (xx.c _ _ hg), ?_⟩)
   have g6' : (H2.set H.next ⟨askC p.r m.req.ask, 29, true⟩).get H1.next = some ⟨moveC ⟨.slice none 0 0, .slice none 0 0⟩ ⟨0, [], [], false, 0, 0⟩, 34, true⟩ := (Heap.set_other (by omega)).trans g6
   have x3 := wfH.ext_set xx (show H.next ≤ H.next by omega) ⟨askC p.r m.req.ask, 29, true⟩
   have w3 := w2.set (w2.lt g5) ⟨askC p.r m.req.ask, 29, true⟩
   have g5' : (H2.set H.next ⟨askC p.r m.req.ask, 29, true⟩).get H.next = some ⟨askC p.r m.req.ask, 29, true⟩ := Heap.set_at _ _ _
   generalize H2.set H.next ⟨askC p.r m.req.ask, 29, true⟩ = H3 at g6' x3 w3 g5' ⊢
   refine TAL.wj0 rfl rfl (qas (vs := moveC p.m m.move) rfl rfl rfl (qcY ra.m) g6' rfl ⟨(Heap.set_other (by omega)).trans (x3.c _ _ hg), ?_⟩)
   refine TAL.nil ?_
   exact ⟨(H.next, H1.next, H3.set H1.next ⟨moveC p.m m.move, 34, true⟩), ⟨wfH.ext_set x3 (by omega) _, w3.set (w3.lt g6') _, (Heap.set_other (by omega)).trans g5', Heap.set_at _ _ _⟩, Weak.same (EW.cons rfl (EW.cons rfl (EW.cons rfl (EW.cons rfl EW.nil))))⟩
  ·
   refine TAL.x rfl rfl rfl (qat ⟨wfH.ext _, ?_⟩)
   have g6 := Heap.alloc_new H ⟨(moveC ⟨.slice none 0 0, .slice none 0 0⟩ ⟨0, [], [], false, 0, 0⟩), 34, true⟩
   have x1 := wfH.ext ⟨(moveC ⟨.slice none 0 0, .slice none 0 0⟩ ⟨0, [], [], false, 0, 0⟩), 34, true⟩
   have w1 := wfH.alloc ⟨(moveC ⟨.slice none 0 0, .slice none 0 0⟩ ⟨0, [], [], false, 0, 0⟩), 34, true⟩
   have n1 : (H.alloc ⟨(moveC ⟨.slice none 0 0, .slice none 0 0⟩ ⟨0, [], [], false, 0, 0⟩), 34, true⟩).next = H.next + 1 := rfl
   refine TAL.heap (h := H.alloc ⟨(moveC ⟨.slice none 0 0, .slice none 0 0⟩ ⟨0, [], [], false, 0, 0⟩), 34, true⟩) rfl ?_
   generalize H.alloc ⟨(moveC ⟨.slice none 0 0, .slice none 0 0⟩ ⟨0, [], [], false, 0, 0⟩), 34, true⟩ = H1 at g6 x1 w1 n1 ⊢
   refine TAL.x rfl rfl rfl (qat ⟨w1.ext _, ?_⟩)
   have g5 := Heap.alloc_new H1 ⟨(askC askV0 ask0), 29, true⟩
   have x2 := w1.ext ⟨(askC askV0 ask0), 29, true⟩
   have w2 := w1.alloc ⟨(askC askV0 ask0), 29, true⟩
   refine TAL.heap (h := H1.alloc ⟨(askC askV0 ask0), 29, true⟩) rfl ?_
   generalize H1.alloc ⟨(askC askV0 ask0), 29, true⟩ = H2 at g5 x2 w2 ⊢
   replace g6 := x2.c _ _ g6
   have xx := x1.trans x2
   refine TAL.wj0 rfl rfl (qas (vs := askC p.r m.req.ask) rfl rfl rfl (qbT ra.r) g5 rfl ⟨(Heap.set_other (by omega)).trans (xx.c _ _ hg), ?_⟩)
   have g6' : (H2.set H1.next ⟨askC p.r m.req.ask, 29, true⟩).get H.next = some ⟨moveC ⟨.slice none 0 0, .slice none 0 0⟩ ⟨0, [], [], false, 0, 0⟩, 34, true⟩ := (Heap.set_other (by omega)).trans g6
   have x3 := wfH.ext_set xx (show H.next ≤ H1.next by omega) ⟨askC p.r m.req.ask, 29, true⟩
   have w3 := w2.set (w2.lt g5) ⟨askC p.r m.req.ask, 29, true⟩
   have g5' : (H2.set H1.next ⟨askC p.r m.req.ask, 29, true⟩).get H1.next = some ⟨askC p.r m.req.ask, 29, true⟩ := Heap.set_at _ _ _
   generalize H2.set H1.next ⟨askC p.r m.req.ask, 29, true⟩ = H3 at g6' x3 w3 g5' ⊢
   refine TAL.wj0 rfl rfl (qas (vs := moveC p.m m.move) rfl rfl rfl (qcY ra.m) g6' rfl ⟨(Heap.set_other (by omega)).trans (x3.c _ _ hg), ?_⟩)
   refine TAL.nil ?_
   exact ⟨(H1.next, H.next, H3.set H.next ⟨moveC p.m m.move, 34, true⟩), ⟨wfH.ext_set x3 (by omega) _, w3.set (w3.lt g6') _, (Heap.set_other (by omega)).trans g5', Heap.set_at _ _ _⟩, Weak.same (EW.cons rfl (EW.cons rfl (EW.cons rfl (EW.cons rfl EW.nil))))⟩
 ·
  rintro ⟨j5, j6, G⟩ ⟨x2, w2, g5, g6⟩
  replace x2 : Ext H G := x2
  replace w2 : WF G := w2
  replace g5 : G.get j5 = some ⟨askC p.r m.req.ask, 29, true⟩ := g5
  replace g6 : G.get j6 = some ⟨moveC p.m m.move, 34, true⟩ := g6
  show AWp _ _ _ _ [(1, .int .i64 most), (2, ptr h.next), (5, ptr j5), (6, ptr j6)] G
  have hg2 := x2.c _ _ hg
  obtain ⟨rr, rm, re, rn, rk⟩ := r.ext (xh.trans x2)
  have q : RBs G [p.r.k, p.r.t, p.r.v, p.r.w, p.m.f, p.m.t, p.n, p.k] [m.req.ask.key, m.req.ask.to, m.req.ask.value, m.req.ask.was, m.move.from_, m.move.to, m.answers, m.key] := ⟨rr.k, rr.t, rr.v, rr.w, rm.f, rm.t, rn, rk, trivial⟩
  repeat (first | refine W.w ?_ | (refine zz rfl ?_; first | refine qac rfl ?_ | refine qbl rfl ?_ | refine qap rfl ?_ | refine qae rfl rfl g5 rfl ?_ | refine qae rfl rfl g6 rfl ?_ | refine qae rfl rfl hg2 rfl ?_ | refine qa0 [p.r.k, p.r.t, p.r.v, p.r.w, p.m.f, p.m.t, p.n, p.k] rfl rfl rfl rfl q.ones ?_))
  obtain ⟨G3, hQ, g8, x3, _, _⟩ := aq w2 ⟨[p.r.k, p.r.t, p.r.v, p.r.w, p.m.f, p.m.t, p.n, p.k], 27, true⟩
  rw [hQ]
  replace q := q.ext x3
  have hg3 := x3.c _ _ hg2
  have rs : RS G3 (.slice (some ⟨G.next, 0, some 1⟩) 8 8) [p.r.k, p.r.t, p.r.v, p.r.w, p.m.f, p.m.t, p.n, p.k] := RS.own g8 rfl
  have hvl : [p.r.k, p.r.t, p.r.v, p.r.w, p.m.f, p.m.t, p.n, p.k].length = 8 := rfl
  generalize [p.r.k, p.r.t, p.r.v, p.r.w, p.m.f, p.m.t, p.n, p.k] = vs at q rs hvl
  skip
  refine AWp.loop (α := Nat × Int) (fun d => [(1, .int .i64 most), (2, ptr h.next), (7, .int .i64 d.2), (8, .slice (some ⟨G.next, 0, some 1⟩) 8 8), (9, .int .i64 (d.1 : Nat))]) (fun _ => G3) (fun d => d.1 ≤ 8) (fun d => 8 - d.1) (0, 0) (Nat.zero_le _) (Weak.same (EW.cons rfl (EW.cons rfl (EW.cons rfl (EW.cons rfl (EW.cons rfl EW.nil)))))) ?_
  rintro ⟨k, n⟩ hk
  replace hk : k ≤ 8 := hk
  show AWp _ _ _ _ [(1, .int .i64 most), (2, ptr h.next), (7, .int .i64 n), (8, .slice (some ⟨G.next, 0, some 1⟩) 8 8), (9, .int .i64 (k : Nat))] G3
  by_cases hlt : k < 8
  ·
   obtain ⟨x, l, hx, rx⟩ := at8 q (show k < vs.length by omega)
   have hx2 : vs[((k : Nat) : Int).toNat]? = some x := hx
   repeat (first | refine W.w ?_ | refine AWp.c8 rfl ?_ | (refine zz rfl ?_; first | refine qad rfl ?_ | refine qcd rfl ?_ | refine qac rfl ?_ | refine qb2 rfl ?_ | refine qaj rfl rfl rfl (by omega) ?_ | refine qa2 rs rfl rfl (by omega) hx2 fun _ => ?_ | refine qaB (PT.of rs hx2) rfl rfl ?_ | refine qaZ rx rfl ?_ | refine qdm rfl rfl ?_ | refine qav rfl rfl (by omega) ?_ | refine qbe rfl rfl rfl ?_))
   exact ⟨(k + 1, _), hlt, by show 8 - (k + 1) < 8 - k; omega, Weak.same (EW.cons rfl (EW.cons rfl (EW.cons rfl (EW.cons rfl (EW.cons rfl EW.nil)))))⟩
  ·
   have ce := muchE_c p.e m.entries most G3 (re.ext x3)
   have xx := xh.trans (x2.trans x3)
   by_cases hm : most < n
   ·
    repeat (first | refine AL.nil ?_ | refine AL.skip rfl rfl ?_ | refine AWp.seq ?_ | refine AWp.r9 ?_ | refine AWp.c9 rfl ?_ | refine AWp.ret ?_ | refine AWp.exit ?_ | (refine zz rfl ?_; first | refine qad rfl ?_ | refine qcd rfl ?_ | refine qag rfl ?_ | refine qaa rfl ?_ | refine qb2 rfl ?_ | refine qaj rfl rfl rfl (by omega) ?_ | refine qak rfl rfl rfl (by omega) ?_ | refine qai (v := .bool _) rfl rfl ?_))
    exact ⟨_, ResV.tmp rfl, rfl, xx, ⟨_, rfl⟩, rfl⟩
   ·
    repeat (first | refine AL.nil ?_ | refine AWp.seq ?_ | refine AWp.r9 ?_ | refine AWp.c9 rfl ?_ | refine AWp.exit ?_ | (refine zz rfl ?_; first | refine qad rfl ?_ | refine qcd rfl ?_ | refine qag rfl ?_ | refine qb2 rfl ?_ | refine qak rfl rfl rfl (by omega) ?_ | refine qap rfl ?_ | refine qae rfl rfl hg3 rfl ?_))
    refine zz rfl (qao rfl rfl (ce.mono ?_))
    rintro _ G4 ⟨⟨b, rfl⟩, hG4⟩
    cases hG4.symm
    cases b
    ·
     repeat (first | refine W.w ?_ | refine zz rfl (qaa rfl ?_) | refine zz rfl (qai (v := .bool _) rfl rfl ?_))
     exact ⟨_, ResV.tmp rfl, rfl, xx, ⟨_, rfl⟩, rfl⟩
    ·
     repeat (first | refine W.w ?_ | refine zz rfl (qaa rfl ?_) | refine zz rfl (qai (v := .bool _) rfl rfl ?_))
     exact ⟨_, ResV.tmp rfl, rfl, xx, ⟨_, rfl⟩, rfl⟩
theorem longQ_c (p : AskV) (a : AskM) (most : Int) (h : Heap) (r : AskR h p a) : ACalls Tryz.prog 39 [.agg (askC p a).toArray, .int .i64 most] h fun x h' => (∃ b, x = .bool b) ∧ h' = h := by
 refine ACalls.wf fun wf => ACalls.reset ?_
 refine ACalls.body Tryz.func39 rfl rfl ?_
 repeat (first | refine W.w ?_ | refine zz rfl (qaa rfl ?_) | refine zz rfl (qaI rfl (by intro e; cases e) ?_))
 generalize hH : h.alloc _ = H
 have hg : H.get h.next = some ⟨askC p a, 29, true⟩ := hH ▸ Heap.alloc_new _ _
 have xh : Ext h H := hH ▸ wf.ext _
 have wfH : WF H := hH ▸ wf.alloc _
 clear hH
 have rH := r.ext xh
 have rc : CmdR H { cmdV0 with r := p } { cmd0 with req := ⟨0, 0, a⟩ } := ⟨rH, (CmdR.nil H).m, RE.nil H, RB.nil H, RB.nil H⟩
 have cl := longC_c { cmdV0 with r := p } { cmd0 with req := ⟨0, 0, a⟩ } most H rc
 repeat (first | (refine zz rfl ?_; first | refine qad rfl ?_ | refine qaf (sz := 7) rfl rfl hg (Nat.le_refl _) ?_ | refine qay (out := reqC p ⟨0, 0, a⟩) rfl rfl ?_ | refine qay (out := cmdC { cmdV0 with r := p } { cmd0 with req := ⟨0, 0, a⟩ }) rfl rfl ?_))
 refine zz rfl (qao rfl rfl (cl.mono ?_))
 rintro _ G4 ⟨⟨b, rfl⟩, hG4⟩
 cases hG4.symm
 repeat (first | refine W.w ?_ | refine zz rfl (qaa rfl ?_))
 exact ⟨_, ResV.tmp rfl, rfl, xh, ⟨_, rfl⟩, rfl⟩
theorem longA_c (p : ActV) (a : ActM) (most : Int) (h : Heap) (r : ActR h p a) : ACalls Tryz.prog 14 [.agg (actC p a).toArray, .int .i64 most] h fun x h' => (∃ b, x = .bool b) ∧ h' = h := by
 refine ACalls.wf fun wf => ACalls.reset ?_
 refine ACalls.body Tryz.func14 rfl rfl ?_
 repeat (first | refine W.w ?_ | refine zz rfl (qaa rfl ?_) | refine zz rfl (qaI rfl (by intro e; cases e) ?_))
 generalize hH : h.alloc _ = H
 have hg : H.get h.next = some ⟨actC p a, 40, true⟩ := hH ▸ Heap.alloc_new _ _
 have xh : Ext h H := hH ▸ wf.ext _
 have wfH : WF H := hH ▸ wf.alloc _
 clear hH
 obtain ⟨ra, rc, rk⟩ := r.ext xh
 have rn := rk.rn
 have hkl := rk.len
 have hml : (a.keep.map keptR).length = a.keep.length := List.length_map _
 repeat (first | refine W.w ?_ | (refine zz rfl ?_; first | refine qac rfl ?_ | refine qap rfl ?_ | refine qae rfl rfl hg rfl ?_ | refine qau rn rfl ?_))
 refine AWp.loop (α := Nat × Int) (fun d => [(1, .int .i64 most), (2, ptr h.next), (5, .int .i64 d.2), (6, .int .i64 (d.1 : Nat))]) (fun _ => H) (fun d => d.1 ≤ a.keep.length) (fun d => a.keep.length - d.1) (0, _) (Nat.zero_le _) (Weak.same (EW.cons rfl (EW.cons rfl (EW.cons rfl (EW.cons rfl EW.nil))))) ?_
 rintro ⟨k, n⟩ hk
 replace hk : k ≤ a.keep.length := hk
 show AWp _ _ _ _ [(1, .int .i64 most), (2, ptr h.next), (5, .int .i64 n), (6, .int .i64 (k : Nat))] H
 have cc := longC_c p.c a.cmd most H rc
 have cq := longQ_c p.q a.ask most H ra
 by_cases hcond : k < a.keep.length ∧ n ≤ most
 ·
  obtain ⟨hlt, hm⟩ := hcond
  obtain ⟨x, hxl⟩ : ∃ x, a.keep[k]? = some x := ⟨_, List.getElem?_eq_getElem hlt⟩
  have hx2 : (a.keep.map keptR)[((k : Nat) : Int).toNat]? = some (keptR x) := by simp [hxl]
  have px := rn.elt hx2
  repeat (first | refine W.w ?_ | refine AWp.c8 rfl ?_ | (refine zz rfl ?_; first | refine qad rfl ?_ | refine qag rfl ?_ | refine qac rfl ?_ | refine qap rfl ?_ | refine qae rfl rfl hg rfl ?_ | refine qau rn rfl ?_ | refine qaj rfl rfl rfl (by omega) ?_ | refine qai (v := .bool _) rfl rfl ?_ | refine qaF rn rfl rfl (by omega) hx2 ?_ | refine op_faN px rfl ?_ | refine qgA px rfl rfl rfl ?_ | refine qbA rfl ?_ | refine qdm rfl rfl ?_ | refine qav rfl rfl (by omega) ?_ | refine qbe rfl rfl rfl ?_))
  exact ⟨(k + 1, _), hlt, by show a.keep.length - (k + 1) < a.keep.length - k; omega, Weak.same (EW.cons rfl (EW.cons rfl (EW.cons rfl (EW.cons rfl EW.nil))))⟩
 ·
  by_cases hlt : k < a.keep.length
  ·
   repeat (first | refine AL.nil ?_ | refine AL.skip rfl rfl ?_ | refine AWp.seq ?_ | refine AWp.r9 ?_ | refine AWp.c9 rfl ?_ | refine AWp.ret ?_ | refine AWp.exit ?_ | (refine zz rfl ?_; first | refine qad rfl ?_ | refine qag rfl ?_ | refine qaa rfl ?_ | refine qap rfl ?_ | refine qae rfl rfl hg rfl ?_ | refine qau rn rfl ?_ | refine qaj rfl rfl rfl (by omega) ?_ | refine qak rfl rfl rfl (by omega) ?_ | refine qai (v := .bool _) rfl rfl ?_))
   exact ⟨_, ResV.tmp rfl, rfl, xh, ⟨_, rfl⟩, rfl⟩
  ·
   by_cases hm : most < n
   ·
    repeat (first | refine AL.nil ?_ | refine AL.skip rfl rfl ?_ | refine AWp.seq ?_ | refine AWp.r9 ?_ | refine AWp.c9 rfl ?_ | refine AWp.ret ?_ | refine AWp.exit ?_ | (refine zz rfl ?_; first | refine qad rfl ?_ | refine qag rfl ?_ | refine qaa rfl ?_ | refine qap rfl ?_ | refine qae rfl rfl hg rfl ?_ | refine qau rn rfl ?_ | refine qaj rfl rfl rfl (by omega) ?_ | refine qak rfl rfl rfl (by omega) ?_ | refine qai (v := .bool _) rfl rfl ?_))
    exact ⟨_, ResV.tmp rfl, rfl, xh, ⟨_, rfl⟩, rfl⟩
   ·
    repeat (first | refine AL.nil ?_ | refine AL.skip rfl rfl ?_ | refine AWp.seq ?_ | refine AWp.r9 ?_ | refine AWp.c9 rfl ?_ | refine AWp.exit ?_ | (refine zz rfl ?_; first | refine qad rfl ?_ | refine qag rfl ?_ | refine qap rfl ?_ | refine qae rfl rfl hg rfl ?_ | refine qau rn rfl ?_ | refine qak rfl rfl rfl (by omega) ?_ | refine qai (v := .bool _) rfl rfl ?_ | refine qaf (sz := 20) rfl rfl hg (Nat.le_of_ble_eq_true rfl) ?_))
    refine zz rfl (qao rfl rfl (cc.mono ?_))
    rintro _ G4 ⟨⟨b, rfl⟩, hG4⟩
    cases hG4.symm
    cases b
    ·
     repeat (first | (refine zz rfl ?_; first | refine qad rfl ?_ | refine qag rfl ?_ | refine qai (v := .bool _) rfl rfl ?_ | refine qap rfl ?_ | refine qaf (sz := 7) rfl rfl hg (Nat.le_of_ble_eq_true rfl) ?_))
     refine zz rfl (qao rfl rfl (cq.mono ?_))
     rintro _ G4 ⟨⟨b, rfl⟩, hG4⟩
     cases hG4.symm
     cases b
     ·
      repeat (first | refine W.w ?_ | refine zz rfl (qaa rfl ?_) | refine zz rfl (qai (v := .bool _) rfl rfl ?_))
      exact ⟨_, ResV.tmp rfl, rfl, xh, ⟨_, rfl⟩, rfl⟩
     ·
      repeat (first | refine W.w ?_ | refine zz rfl (qaa rfl ?_) | refine zz rfl (qai (v := .bool _) rfl rfl ?_))
      exact ⟨_, ResV.tmp rfl, rfl, xh, ⟨_, rfl⟩, rfl⟩
    ·
     repeat (first | refine W.w ?_ | refine AL.skip rfl rfl ?_ | (refine zz rfl ?_; first | refine qag rfl ?_ | refine qaa rfl ?_ | refine qai (v := .bool _) rfl rfl ?_))
     exact ⟨_, ResV.tmp rfl, rfl, xh, ⟨_, rfl⟩, rfl⟩
theorem muchS_c (s : ScrM) (vg va : Value) (most : Int) (h : Heap) (rg : RG h vg s.setup.groups) (r : RA h va s.acts) : ACalls Tryz.prog 13 [.agg (scrC vg va s.setup).toArray, .int .i64 most] h fun x h' => (∃ b, x = .bool b) ∧ h' = h := by
 refine ACalls.wf fun wf => ACalls.reset ?_
 refine ACalls.body Tryz.func13 rfl rfl ?_
 repeat (first | refine W.w ?_ | refine zz rfl (qaa rfl ?_) | refine zz rfl (qaI rfl (by intro e; cases e) ?_))
 generalize hH : h.alloc _ = H
 have hg : H.get h.next = some ⟨scrC vg va s.setup, 44, true⟩ := hH ▸ Heap.alloc_new _ _
 have xh : Ext h H := hH ▸ wf.ext _
 have wfH : WF H := hH ▸ wf.alloc _
 clear hH
 obtain ⟨gvs, g1, g2, g3, g4⟩ := rg.ext xh
 obtain ⟨rows, r1, r2, r3⟩ := (r.ext xh).ex
 have hal := r.len
 repeat (first | refine W.w ?_ | (refine zz rfl ?_; first | refine qac rfl ?_ | refine qap rfl ?_ | refine qae rfl rfl hg rfl ?_ | refine qaE g1 rfl ?_ | refine qau r1 rfl ?_ | refine qav rfl rfl (by omega) ?_))
 refine AWp.loop (α := Nat × Int) (fun d => [(1, .int .i64 most), (2, ptr h.next), (5, .int .i64 d.2), (6, .int .i64 (d.1 : Nat))]) (fun _ => H) (fun d => d.1 ≤ gvs.length) (fun d => gvs.length - d.1) (0, _) (Nat.zero_le _) (Weak.same (EW.cons rfl (EW.cons rfl (EW.cons rfl (EW.cons rfl EW.nil))))) ?_
 rintro ⟨k, n⟩ hk
 replace hk : k ≤ gvs.length := hk
 show AWp _ _ _ _ [(1, .int .i64 most), (2, ptr h.next), (5, .int .i64 n), (6, .int .i64 (k : Nat))] H
 by_cases hcond : k < gvs.length ∧ n ≤ most
 ·
  obtain ⟨hlt, hm⟩ := hcond
  obtain ⟨v, hv⟩ : ∃ v, gvs[k]? = some v := ⟨_, List.getElem?_eq_getElem hlt⟩
  obtain ⟨g, hgk⟩ : ∃ g, s.setup.groups[k]? = some g := ⟨_, List.getElem?_eq_getElem (by omega)⟩
  have hv2 : gvs[((k : Nat) : Int).toNat]? = some v := hv
  obtain ⟨rv, _⟩ := g4 k v g hv hgk
  repeat (first | refine W.w ?_ | refine AWp.c8 rfl ?_ | (refine zz rfl ?_; first | refine qad rfl ?_ | refine qag rfl ?_ | refine qac rfl ?_ | refine qap rfl ?_ | refine qae rfl rfl hg rfl ?_ | refine qaE g1 rfl ?_ | refine qaj rfl rfl rfl (by omega) ?_ | refine qai (v := .bool _) rfl rfl ?_ | refine qa2 g1 rfl rfl (by omega) hv2 fun _ => ?_ | refine qaB (PT.of g1 hv2) rfl rfl ?_ | refine qaE rv rfl ?_ | refine qdm rfl rfl ?_ | refine qav rfl rfl (by omega) ?_ | refine qbe rfl rfl rfl ?_))
  exact ⟨(k + 1, _), hlt, by show gvs.length - (k + 1) < gvs.length - k; omega, Weak.same (EW.cons rfl (EW.cons rfl (EW.cons rfl (EW.cons rfl EW.nil))))⟩
 ·
  repeat' (first | refine AL.nil ?_ | refine AL.skip rfl rfl ?_ | refine AWp.seq ?_ | refine AWp.r9 ?_ | refine AWp.c9 rfl ?_ | refine AWp.exit ?_ | refine AWp.b9 ?_ | (refine zz rfl ?_; first | refine qad rfl ?_ | refine qag rfl ?_ | refine qac rfl ?_ | refine qap rfl ?_ | refine qae rfl rfl hg rfl ?_ | refine qaE g1 rfl ?_ | refine qak rfl rfl rfl (by omega) ?_ | refine qai (v := .bool _) rfl rfl ?_ | refine qaU rfl rfl rfl (fun c => ?_) (fun c => ?_)))
  all_goals first | (exfalso; omega) | skip
  all_goals (
   refine AWp.loop (α := Nat) (fun d => [(1, .int .i64 most), (2, ptr h.next), (5, .int .i64 n), (7, .int .i64 (d : Nat))]) (fun _ => H) (fun d => d ≤ rows.length) (fun d => rows.length - d) 0 (Nat.zero_le _) (Weak.same (EW.cons rfl (EW.cons rfl (EW.cons rfl (EW.cons rfl EW.nil))))) ?_
   intro j hj
   replace hj : j ≤ rows.length := hj
   by_cases hc2 : j < rows.length ∧ n ≤ most
   ·
    obtain ⟨hlt, hm⟩ := hc2
    obtain ⟨row, hrow⟩ : ∃ row, rows[j]? = some row := ⟨_, List.getElem?_eq_getElem hlt⟩
    obtain ⟨a, hla⟩ : ∃ a, s.acts[j]? = some a := ⟨_, List.getElem?_eq_getElem (by omega)⟩
    obtain ⟨q, rfl, hq⟩ := r3 j row a hrow hla
    have hrw : rows[((j : Nat) : Int).toNat]? = some (actC q a) := hrow
    have pe := r1.elt hrw
    have cl := longA_c q a 3000 H hq
    repeat (first | refine W.w ?_ | refine AWp.c8 rfl ?_ | (refine zz rfl ?_; first | refine qad rfl ?_ | refine qag rfl ?_ | refine qap rfl ?_ | refine qae rfl rfl hg rfl ?_ | refine qau r1 rfl ?_ | refine qaj rfl rfl rfl (by omega) ?_ | refine qai (v := .bool _) rfl rfl ?_ | refine qaF r1 rfl rfl (by omega) hrw ?_ | refine qaJ pe rfl rfl rfl ?_))
    refine zz rfl (qao rfl rfl (cl.mono ?_))
    rintro _ G4 ⟨⟨b, rfl⟩, hG4⟩
    cases hG4.symm
    cases b
    ·
     repeat (first | refine W.w ?_ | refine AWp.c9 rfl ?_ | (refine zz rfl ?_; first | refine qad rfl ?_ | refine qac rfl ?_ | refine qav rfl rfl (by omega) ?_))
     exact ⟨j + 1, hlt, by omega, Weak.same (EW.cons rfl (EW.cons rfl (EW.cons rfl (EW.cons rfl EW.nil))))⟩
    ·
     repeat (first | refine W.w ?_ | refine AWp.c8 rfl ?_ | refine zz rfl (qaa rfl ?_))
     exact ⟨_, ResV.tmp rfl, rfl, xh, ⟨_, rfl⟩, rfl⟩
   ·
    repeat' (first | refine AL.nil ?_ | refine AL.skip rfl rfl ?_ | refine AWp.seq ?_ | refine AWp.r9 ?_ | refine AWp.c9 rfl ?_ | refine AWp.ret ?_ | refine AWp.exit ?_ | (refine zz rfl ?_; first | refine qad rfl ?_ | refine qag rfl ?_ | refine qaa rfl ?_ | refine qap rfl ?_ | refine qae rfl rfl hg rfl ?_ | refine qau r1 rfl ?_ | refine qaj rfl rfl rfl (by omega) ?_ | refine qak rfl rfl rfl (by omega) ?_ | refine qai (v := .bool _) rfl rfl ?_ | refine qaU rfl rfl rfl (fun c => ?_) (fun c => ?_)))
    all_goals first | (exfalso; omega) | exact ⟨_, ResV.tmp rfl, rfl, xh, ⟨_, rfl⟩, rfl⟩)
theorem muchW_c (s : ScrM) (vg va : Value) (most : Int) (hm0 : 0 ≤ most ∧ most ≤ 1000000) (h : Heap) (rg : RG h vg s.setup.groups) (r : RA h va s.acts) : ACalls Tryz.prog 13 [.agg (scrC vg va s.setup).toArray, .int .i64 most] h fun x h' => (∃ b, x = .bool b ∧ (b = false → ∀ g ∈ s.setup.groups, (g.length : Int) ≤ most)) ∧ h' = h := by
 refine ACalls.wf fun wf => ACalls.reset ?_
 refine ACalls.body Tryz.func13 rfl rfl ?_
 repeat (first | refine W.w ?_ | refine zz rfl (qaa rfl ?_) | refine zz rfl (qaI rfl (by intro e; cases e) ?_))
 generalize hH : h.alloc _ = H
 have hg : H.get h.next = some ⟨scrC vg va s.setup, 44, true⟩ := hH ▸ Heap.alloc_new _ _
 have xh : Ext h H := hH ▸ wf.ext _
 have wfH : WF H := hH ▸ wf.alloc _
 clear hH
 obtain ⟨gvs, g1, g2, g3, g4⟩ := rg.ext xh
 obtain ⟨rows, r1, r2, r3⟩ := (r.ext xh).ex
 have hal := r.len
 repeat (first | refine W.w ?_ | (refine zz rfl ?_; first | refine qac rfl ?_ | refine qap rfl ?_ | refine qae rfl rfl hg rfl ?_ | refine qaE g1 rfl ?_ | refine qau r1 rfl ?_ | refine qav rfl rfl (by omega) ?_))
 refine AWp.loop (α := Nat × Int) (fun d => [(1, .int .i64 most), (2, ptr h.next), (5, .int .i64 d.2), (6, .int .i64 (d.1 : Nat))]) (fun _ => H) (fun d => d.1 ≤ gvs.length ∧ 0 ≤ d.2 ∧ (d.2 ≤ most → ∀ g ∈ s.setup.groups.take d.1, (g.length : Int) ≤ most)) (fun d => gvs.length - d.1) (0, _) ⟨Nat.zero_le _, by show (0 : Int) ≤ _; omega, fun _ g hg => by simp at hg⟩ (Weak.same (EW.cons rfl (EW.cons rfl (EW.cons rfl (EW.cons rfl EW.nil))))) ?_
 rintro ⟨k, n⟩ ⟨hk, hn0, hall⟩
 replace hk : k ≤ gvs.length := hk
 replace hn0 : 0 ≤ n := hn0
 replace hall : n ≤ most → ∀ g ∈ s.setup.groups.take k, (g.length : Int) ≤ most := hall
 show AWp _ _ _ _ [(1, .int .i64 most), (2, ptr h.next), (5, .int .i64 n), (6, .int .i64 (k : Nat))] H
 by_cases hcond : k < gvs.length ∧ n ≤ most
 ·
  obtain ⟨hlt, hm⟩ := hcond
  obtain ⟨v, hv⟩ : ∃ v, gvs[k]? = some v := ⟨_, List.getElem?_eq_getElem hlt⟩
  obtain ⟨g, hgk⟩ : ∃ g, s.setup.groups[k]? = some g := ⟨_, List.getElem?_eq_getElem (by omega)⟩
  have hv2 : gvs[((k : Nat) : Int).toNat]? = some v := hv
  obtain ⟨rv, _⟩ := g4 k v g hv hgk
  repeat (first | refine W.w ?_ | refine AWp.c8 rfl ?_ | (refine zz rfl ?_; first | refine qad rfl ?_ | refine qag rfl ?_ | refine qac rfl ?_ | refine qap rfl ?_ | refine qae rfl rfl hg rfl ?_ | refine qaE g1 rfl ?_ | refine qaj rfl rfl rfl (by omega) ?_ | refine qai (v := .bool _) rfl rfl ?_ | refine qa2 g1 rfl rfl (by omega) hv2 fun _ => ?_ | refine qaB (PT.of g1 hv2) rfl rfl ?_ | refine qaE rv rfl ?_ | refine qdm rfl rfl ?_ | refine qav rfl rfl (by omega) ?_))
  refine ⟨(k + 1, _), ⟨hlt, ?_, ?_⟩, by show gvs.length - (k + 1) < gvs.length - k; omega, Weak.same (EW.cons rfl (EW.cons rfl (EW.cons rfl (EW.cons rfl EW.nil))))⟩
  ·
   show (0 : Int) ≤ n + _
   omega
  ·
   intro hle g' hg'
   replace hle : n + (if most + 1 < ((iv64 g).length : Int) then most + 1 else ((iv64 g).length : Int)) ≤ most := hle
   rw [List.take_add_one, hgk] at hg'
   have hlen : (iv64 g).length = g.length := List.length_map _
   rcases List.mem_append.1 hg' with hg' | hg'
   ·
    exact hall (by split at hle <;> omega) g' hg'
   ·
    obtain rfl : g' = g := by simpa using hg'
    split at hle <;> omega
 ·
  have hfin : n ≤ most → ∀ g ∈ s.setup.groups, (g.length : Int) ≤ most := fun hn => by
   have e : s.setup.groups.take k = s.setup.groups := List.take_of_length_le (by omega)
   rw [e] at hall
   exact hall hn
  repeat' (first | refine AL.nil ?_ | refine AL.skip rfl rfl ?_ | refine AWp.seq ?_ | refine AWp.r9 ?_ | refine AWp.c9 rfl ?_ | refine AWp.exit ?_ | refine AWp.b9 ?_ | (refine zz rfl ?_; first | refine qad rfl ?_ | refine qag rfl ?_ | refine qac rfl ?_ | refine qap rfl ?_ | refine qae rfl rfl hg rfl ?_ | refine qaE g1 rfl ?_ | refine qak rfl rfl rfl (by omega) ?_ | refine qai (v := .bool _) rfl rfl ?_ | refine qaU rfl rfl rfl (fun c => ?_) (fun c => ?_)))
  all_goals first | (exfalso; omega) | skip
  all_goals (
   refine AWp.loop (α := Nat) (fun d => [(1, .int .i64 most), (2, ptr h.next), (5, .int .i64 n), (7, .int .i64 (d : Nat))]) (fun _ => H) (fun d => d ≤ rows.length) (fun d => rows.length - d) 0 (Nat.zero_le _) (Weak.same (EW.cons rfl (EW.cons rfl (EW.cons rfl (EW.cons rfl EW.nil))))) ?_
   intro j hj
   replace hj : j ≤ rows.length := hj
   by_cases hc2 : j < rows.length ∧ n ≤ most
   ·
    obtain ⟨hlt, hm⟩ := hc2
    obtain ⟨row, hrow⟩ : ∃ row, rows[j]? = some row := ⟨_, List.getElem?_eq_getElem hlt⟩
    obtain ⟨a, hla⟩ : ∃ a, s.acts[j]? = some a := ⟨_, List.getElem?_eq_getElem (by omega)⟩
    obtain ⟨q, rfl, hq⟩ := r3 j row a hrow hla
    have hrw : rows[((j : Nat) : Int).toNat]? = some (actC q a) := hrow
    have pe := r1.elt hrw
    have cl := longA_c q a 3000 H hq
    repeat (first | refine W.w ?_ | refine AWp.c8 rfl ?_ | (refine zz rfl ?_; first | refine qad rfl ?_ | refine qag rfl ?_ | refine qap rfl ?_ | refine qae rfl rfl hg rfl ?_ | refine qau r1 rfl ?_ | refine qaj rfl rfl rfl (by omega) ?_ | refine qai (v := .bool _) rfl rfl ?_ | refine qaF r1 rfl rfl (by omega) hrw ?_ | refine qaJ pe rfl rfl rfl ?_))
    refine zz rfl (qao rfl rfl (cl.mono ?_))
    rintro _ G4 ⟨⟨b, rfl⟩, hG4⟩
    cases hG4.symm
    cases b
    ·
     repeat (first | refine W.w ?_ | refine AWp.c9 rfl ?_ | (refine zz rfl ?_; first | refine qad rfl ?_ | refine qac rfl ?_ | refine qav rfl rfl (by omega) ?_))
     exact ⟨j + 1, hlt, by omega, Weak.same (EW.cons rfl (EW.cons rfl (EW.cons rfl (EW.cons rfl EW.nil))))⟩
    ·
     repeat (first | refine W.w ?_ | refine AWp.c8 rfl ?_ | refine zz rfl (qaa rfl ?_))
     exact ⟨_, ResV.tmp rfl, rfl, xh, ⟨_, rfl, fun e => absurd e (by decide : ¬ (true = false))⟩, rfl⟩
   ·
    repeat' (first | refine AL.nil ?_ | refine AL.skip rfl rfl ?_ | refine AWp.seq ?_ | refine AWp.r9 ?_ | refine AWp.c9 rfl ?_ | refine AWp.ret ?_ | refine AWp.exit ?_ | (refine zz rfl ?_; first | refine qad rfl ?_ | refine qag rfl ?_ | refine qaa rfl ?_ | refine qap rfl ?_ | refine qae rfl rfl hg rfl ?_ | refine qau r1 rfl ?_ | refine qaj rfl rfl rfl (by omega) ?_ | refine qak rfl rfl rfl (by omega) ?_ | refine qai (v := .bool _) rfl rfl ?_ | refine qaU rfl rfl rfl (fun c => ?_) (fun c => ?_)))
    all_goals first | (exfalso; omega) | exact ⟨_, ResV.tmp rfl, rfl, xh, ⟨_, rfl, fun e => absurd e (by decide : ¬ (true = false))⟩, rfl⟩ | exact ⟨_, ResV.tmp rfl, rfl, xh, ⟨_, rfl, fun _ => hfin (by omega)⟩, rfl⟩)
end Go.Proofs.YtigmojilaadbhaaGreatDoor
/- . -/
namespace Go.Proofs.YtigmojilaadbhaaGreatDoor
open Go Go.Eng Go.Pln
open Go.Lib hiding splitN
attribute [local irreducible] AWp AL DAL AOp TAL
theorem setJ_w {x : SetM} (w : SetW x) {n : Int} (hn : n ≤ 9000) (hl : ∀ g ∈ x.groups, (g.length : Int) ≤ n) : SetJ x :=
 ⟨w.1, w.2.1, w.2.2.1, w.2.2.2.1, fun g hg => ⟨w.2.2.2.2 g hg, by have := hl g hg; omega⟩⟩
theorem same_walk (a b : ScrM) (va vb ua ub : Value) (h : Heap) (t : Tabs h) (h8 : 8 ≤ h.next) (wa : SetW a.setup) (wb : SetW b.setup) (ra : RG h va a.setup.groups) (rb : RG h vb b.setup.groups) (sa : RA h ua a.acts) (sb : RA h ub b.acts) : ACalls Tryz.prog 8 [.agg (scrC va ua a.setup).toArray, .agg (scrC vb ub b.setup).toArray] h fun u h' => u = .bool true ∧ h' = h := by
 refine ACalls.wf fun wf => ACalls.reset ?_
 refine ACalls.body Tryz.func8 rfl rfl ?_
 repeat (first | refine W.w ?_ | refine zz rfl (qaa rfl ?_) | refine zz rfl (qaI rfl (by intro e; cases e) ?_))
 generalize hH : h.alloc _ = H1
 have n0 : 8 ≤ H1.next := by rw [← hH]; show 8 ≤ h.next + 1; omega
 have hg0 : H1.get h.next = some (scrB va ua a.setup) := hH ▸ Heap.alloc_new _ _
 have hx1 : Ext h H1 := hH ▸ wf.ext _
 have wf1 : WF H1 := hH ▸ wf.alloc _
 skip
 generalize hH2 : H1.alloc _ = H
 have n8 : 8 ≤ H.next := by rw [← hH2]; show 8 ≤ H1.next + 1; omega
 have hg2 : H.get H1.next = some (scrB vb ub b.setup) := hH2 ▸ Heap.alloc_new _ _
 have hx2 : Ext H1 H := hH2 ▸ wf1.ext _
 have hg1 : H.get h.next = some (scrB va ua a.setup) := hx2.c _ _ hg0
 have xh : Ext h H := hx1.trans hx2
 clear hH hH2
 have tH := t.ext xh
 have raH := ra.ext xh
 have rbH := rb.ext xh
 have saH := sa.ext xh
 have sbH := sb.ext xh
 have cK := qdI H tH n8
 repeat (first | refine zz rfl (qaf (sz := 6) rfl rfl hg1 (Nat.le_refl _) ?_))
 refine zz rfl (qao (evs := [.agg (scrC va ua a.setup).toArray, .int .i64 9000]) rfl rfl ((muchW_c a va ua 9000 (by omega) H raH saH).mono ?_))
 rintro _ K1 ⟨⟨b1, rfl, hb1⟩, hK1⟩
 cases hK1.symm
 cases b1 with
 | true =>
  repeat (first | refine W.w ?_ | refine AL.skip rfl rfl ?_ | refine AWp.c8 rfl ?_ | (refine zz rfl ?_; first | refine qag rfl ?_ | refine qaa rfl ?_ | refine qai (v := .bool _) rfl rfl ?_ | refine qab rfl rfl cK ?_))
  exact ⟨_, ResV.tmp rfl, rfl, xh, rfl, rfl⟩
 | false =>
  repeat (first | refine zz rfl (qag rfl ?_) | refine zz rfl (qaf (sz := 6) rfl rfl hg2 (Nat.le_refl _) ?_))
  refine zz rfl (qao (evs := [.agg (scrC vb ub b.setup).toArray, .int .i64 9000]) rfl rfl ((muchW_c b vb ub 9000 (by omega) H rbH sbH).mono ?_))
  rintro _ K2 ⟨⟨b2, rfl, hb2⟩, hK2⟩
  cases hK2.symm
  cases b2 with
  | true =>
   repeat (first | refine W.w ?_ | refine AWp.c8 rfl ?_ | (refine zz rfl ?_; first | refine qaa rfl ?_ | refine qai (v := .bool _) rfl rfl ?_ | refine qab rfl rfl cK ?_))
   exact ⟨_, ResV.tmp rfl, rfl, xh, rfl, rfl⟩
  | false =>
   have ja := setJ_w wa (by omega) (hb1 rfl)
   have jb := setJ_w wb (by omega) (hb2 rfl)
   repeat (first | refine W.w ?_ | refine AWp.c9 rfl ?_ | refine zz rfl (qai (v := .bool _) rfl rfl ?_))
   have cA := fun (G : Heap) (hx : Ext H G) => same_c a b va vb ua ub G (raH.ext hx) (rbH.ext hx) (saH.ext hx) (sbH.ext hx)
   have cB := fun (G : Heap) (hx : Ext H G) => rsame_c a b va vb ua ub G (tH.ext hx) ja jb (raH.ext hx) (rbH.ext hx) (saH.ext hx) (sbH.ext hx)
   have cC := fun (G : Heap) (hx : Ext H G) => same_c a a va va ua ua G (raH.ext hx) (raH.ext hx) (saH.ext hx) (saH.ext hx)
   rw [decide_eq_true rfl] at cC
   refine AWp.drawR mixed (by kernel_rfl) ?_
   repeat (first | refine DAL.r rfl rfl rfl (fun h' hx hn => qag rfl ⟨rfl, rfl⟩) ?_ | refine DAL.r rfl rfl rfl (fun h' hx hn => qaa rfl ⟨rfl, rfl⟩) ?_ | refine DAL.r rfl rfl rfl (fun h' hx hn => qaf (sz := 6) rfl rfl (hx.c _ _ hg1) (Nat.le_refl _) ⟨rfl, rfl⟩) ?_ | refine DAL.r rfl rfl rfl (fun h' hx hn => qaf (sz := 6) rfl rfl (hx.c _ _ hg2) (Nat.le_refl _) ⟨rfl, rfl⟩) ?_ | refine DAL.r rfl rfl rfl (fun h' hx hn => qab rfl rfl (cA _ hx) ⟨rfl, rfl⟩) ?_ | refine DAL.r rfl rfl rfl (fun h' hx hn => qab rfl rfl (cB _ hx) ⟨rfl, rfl⟩) ?_ | refine DAL.r rfl rfl rfl (fun h' hx hn => qab rfl rfl (cC _ hx) ⟨rfl, rfl⟩) ?_ | refine DAL.r rfl rfl rfl (fun h' hx hn => qby (a := decide (a = b)) (b := decide (a = b)) rfl rfl rfl ⟨rfl, rfl⟩) ?_ | refine DAL.r rfl rfl rfl (fun h' hx hn => qab rfl rfl (qdI _ (tH.ext hx) (by omega)) ⟨rfl, rfl⟩) ?_ | refine DAL.r rfl rfl rfl (fun h' hx hn => qai (v := .bool _) rfl rfl ⟨rfl, rfl⟩) ?_)
   refine DAL.nil ?_
   repeat (first | refine AWp.ret ?_)
   exact ⟨_, ResV.tmp rfl, rfl, xh, rfl, rfl⟩
theorem share1 {P : Heap → Prop} {G : Prop} (C : Heap → Prop) (main : (∀ H, C H → P H) → G) (tail : ∀ H, C H → P H) : G := main tail
theorem AL.drop {P : Program} {N : Nat} {ops : Array Oper} {l : List Oper} {Q : Exit → Env → Heap → Prop} {env env0 : Env} {h : Heap} (k : EW env env0) (p : AL P N ops l Q env0 h) : AL P N ops l Q env h := by
 unfold AL at p ⊢
 exact fun φ a w hd r => p φ a w hd (r.weak (Weak.same k))
theorem qfr (s : ScrM) : (textV s = .tuple #[str (textM s), .int .i64 0] ∧ checkM s = (0, 0) ∧ (textM s).length ≤ 1048576) ∨ ∃ c : Int, 0 < c ∧ c ≤ 3 ∧ textV s = .tuple #[str [], .int .i64 c] := by
 unfold textV
 have hcr : (checkM s).2 = 0 ∧ checkM s = (0, 0) ∨ 0 < (checkM s).2 ∧ (checkM s).2 ≤ 3 := by
  unfold checkM
  repeat' split
  all_goals simp
 rcases hcr with ⟨h1, h2⟩ | ⟨h1, h2⟩
 ·
  rw [if_pos h1]
  by_cases hl : 1048576 < (textM s).length
  ·
   rw [if_pos hl]; exact .inr ⟨3, by omega, by omega, rfl⟩
  ·
   rw [if_neg hl]; exact .inl ⟨rfl, h2, by omega⟩
 ·
  rw [if_neg (by omega)]; exact .inr ⟨_, h1, h2, rfl⟩
theorem parse_text {a : ScrM} (h : checkM a = (0, 0)) (hl : (textM a).length ≤ 1048576) : parseP (textM a) = (a, 0, 0) := by
 obtain ⟨n, hn⟩ := (qb3 (textM a) a).2 ⟨h, rfl, hl⟩
 rw [hn, qgO hn]
theorem text_parse {t : Bytes} (h : (parseP t).2.2 = 0) : textV (parseP t).1 = .tuple #[str t, .int .i64 0] := by
 have h0 : parseP t = ((parseP t).1, (parseP t).2.1, 0) := by rw [← h]
 obtain ⟨h1, h2, h3⟩ := (qb3 t (parseP t).1).1 ⟨_, h0⟩
 unfold textV
 rw [h2, if_pos (by rw [h1]), if_neg (by omega)]
theorem back_walk (a b : ScrM) (va vb ua ub : Value) (s : Bytes) (h : Heap) (t : Tabs h) (h8 : 8 ≤ h.next) (ra : RG h va a.setup.groups) (rb : RG h vb b.setup.groups) (sa : RA h ua a.acts) (sb : RA h ub b.acts) : ACalls Tryz.prog 12 [.agg (scrC va ua a.setup).toArray, .agg (scrC vb ub b.setup).toArray, str s] h fun u h' => u = .bool true ∧ h' = h := by
 refine ACalls.wf fun wf => ACalls.reset ?_
 refine ACalls.body Tryz.func12 rfl rfl ?_
 repeat (first | refine W.w ?_ | refine zz rfl (qaa rfl ?_) | refine zz rfl (qaI rfl (by intro e; cases e) ?_))
 generalize hH : h.alloc _ = H1
 have n0 : 8 ≤ H1.next := by rw [← hH]; show 8 ≤ h.next + 1; omega
 have hg0 : H1.get h.next = some (scrB va ua a.setup) := hH ▸ Heap.alloc_new _ _
 have hx1 : Ext h H1 := hH ▸ wf.ext _
 have wf1 : WF H1 := hH ▸ wf.alloc _
 skip
 generalize hH2 : H1.alloc _ = H
 have n8 : 8 ≤ H.next := by rw [← hH2]; show 8 ≤ H1.next + 1; omega
 have hg2 : H.get H1.next = some (scrB vb ub b.setup) := hH2 ▸ Heap.alloc_new _ _
 have hx2 : Ext H1 H := hH2 ▸ wf1.ext _
 have wH : WF H := hH2 ▸ wf1.alloc _
 have hg1 : H.get h.next = some (scrB va ua a.setup) := hx2.c _ _ hg0
 have xh : Ext h H := hx1.trans hx2
 clear hH hH2
 have tH := t.ext xh
 have cK := qdI H tH n8
 apply share1 (C := fun G => Ext H G ∧ 8 ≤ G.next)
 ·
  intro tail
  by_cases hl : s.length ≤ 30000
  ·
   repeat (first | refine W.w ?_ | refine AWp.c8 rfl ?_ | refine AWp.c9 rfl ?_ | (refine zz rfl ?_; first | refine qal rfl ?_ | refine qab rfl rfl cK ?_ | refine qbA rfl ?_ | refine qaj rfl rfl rfl (by omega) ?_ | refine qaD rfl ?_))
   refine zz rfl (qao (evs := [str s]) rfl rfl ((qem s H tH n8 (by omega)).wf_post.mono ?_))
   rintro _ K1 ⟨⟨B1, vg1, va1, rfl, o1, a1, y1⟩, v1, m1⟩
   have e1 := qb9 o1.one a1.one (parseP s).1.setup
   repeat (first | (refine zz rfl ?_; first | refine qaz rfl ?_ | refine qar rfl rfl ?_ | refine qat ?_))
   refine AL.eff rfl (qaC (vs := scrC vg1 va1 (parseP s).1.setup) rfl rfl rfl rfl e1 ?_)
   refine AL.heap (h := K1.alloc (scrB vg1 va1 (parseP s).1.setup)) rfl ?_
   obtain ⟨G, hQ, g1, z1, _, nQ⟩ := aq v1 (scrB vg1 va1 (parseP s).1.setup)
   rw [hQ]
   have nk : 8 ≤ G.next := by omega
   have x1 := y1.trans z1
   have cn := qbV (parseP s).2.2 G
   by_cases he : (parseP s).2.2 = 0
   ·
    have ct := qdZ (parseP s).1 vg1 va1 G (tH.ext x1) (o1.rg.ext z1) (a1.ra.ext z1)
    rw [text_parse he] at ct
    have c0 := qbV 0 G
    repeat (first | refine W.w ?_ | refine AWp.c8 rfl ?_ | refine AWp.c9 rfl ?_ | (refine zz rfl ?_; first | refine qad rfl ?_ | refine qag rfl ?_ | refine qal rfl ?_ | refine qaz rfl ?_ | refine qac rfl ?_ | refine qah rfl ?_ | refine qab rfl rfl cn ?_ | refine qaj rfl rfl rfl (by omega) ?_ | refine qak rfl rfl rfl (by omega) ?_ | refine qaf (sz := 6) rfl rfl g1 (Nat.le_refl _) ?_ | refine qab rfl rfl ct ?_ | refine qar rfl rfl ?_ | refine qab rfl rfl c0 ?_ | refine qbJ (a := s) (b := s) rfl rfl rfl ?_ | refine qai (v := .bool _) rfl rfl ?_))
    exact AL.drop (env0 := [(3, ptr h.next), (4, ptr H1.next)]) (EW.cons rfl (EW.cons rfl EW.nil)) (tail G ⟨x1, nk⟩)
   ·
    repeat (first | refine W.w ?_ | refine AWp.c9 rfl ?_ | (refine zz rfl ?_; first | refine qad rfl ?_ | refine qac rfl ?_ | refine qab rfl rfl cn ?_ | refine qak rfl rfl rfl (by omega) ?_))
    exact AL.drop (env0 := [(3, ptr h.next), (4, ptr H1.next)]) (EW.cons rfl (EW.cons rfl EW.nil)) (tail G ⟨x1, nk⟩)
  ·
   repeat (first | refine W.w ?_ | refine AWp.c9 rfl ?_ | (refine zz rfl ?_; first | refine qal rfl ?_ | refine qab rfl rfl cK ?_ | refine qbA rfl ?_ | refine qak rfl rfl rfl (by omega) ?_ | refine qaD rfl ?_))
   exact AL.drop (env0 := [(3, ptr h.next), (4, ptr H1.next)]) (EW.cons rfl (EW.cons rfl EW.nil)) (tail H ⟨Ext.refl H, n8⟩)
 rintro G ⟨xG, n8G⟩
 have f1 := xG.c _ _ hg1
 have f2 := xG.c _ _ hg2
 have xx := xh.trans xG
 have tG := t.ext xx
 have raG := ra.ext xx
 have rbG := rb.ext xx
 have saG := sa.ext xx
 have sbG := sb.ext xx
 repeat (first | refine zz rfl (qaf (sz := 6) rfl rfl f1 (Nat.le_refl _) ?_))
 refine zz rfl (qao (evs := [.agg (scrC va ua a.setup).toArray, .int .i64 9000]) rfl rfl ((muchS_c a va ua 9000 G raG saG).mono ?_))
 rintro _ K1 ⟨⟨b1, rfl⟩, hK1⟩
 cases hK1.symm
 cases b1 with
 | true =>
  repeat (first | refine W.w ?_ | refine AL.skip rfl rfl ?_ | refine AWp.c8 rfl ?_ | (refine zz rfl ?_; first | refine qag rfl ?_ | refine qaa rfl ?_ | refine qai (v := .bool _) rfl rfl ?_))
  exact ⟨_, ResV.tmp rfl, rfl, xx, rfl, rfl⟩
 | false =>
  repeat (first | refine zz rfl (qag rfl ?_) | refine zz rfl (qaf (sz := 6) rfl rfl f2 (Nat.le_refl _) ?_))
  refine zz rfl (qao (evs := [.agg (scrC vb ub b.setup).toArray, .int .i64 9000]) rfl rfl ((muchS_c b vb ub 9000 G rbG sbG).mono ?_))
  rintro _ K2 ⟨⟨b2, rfl⟩, hK2⟩
  cases hK2.symm
  cases b2 with
  | true =>
   repeat (first | refine W.w ?_ | refine AWp.c8 rfl ?_ | refine zz rfl (qaa rfl ?_) | refine zz rfl (qai (v := .bool _) rfl rfl ?_))
   exact ⟨_, ResV.tmp rfl, rfl, xx, rfl, rfl⟩
  | false =>
   have cA := qdZ a va ua G tG raG saG
   have cB := qdZ b vb ub G tG rbG sbG
   have c0 := qbV 0 G
   rcases qfr a with ⟨ea, ka, la⟩ | ⟨ca, ca0, ca3, ea⟩
   ·
    rcases qfr b with ⟨eb, kb, lb⟩ | ⟨cb, cb0, cb3, eb⟩
    ·
     rw [ea] at cA
     rw [eb] at cB
     have hp := parse_text ka la
     have ja := (setJ_of ((qc3 a).1 ka).1).1
     have hinj : textM a = textM b ↔ a = b := ⟨fun e => text_inj ka kb la e, fun e => by rw [e]⟩
     repeat (first | refine W.w ?_ | refine AWp.c9 rfl ?_ | (refine zz rfl ?_; first | refine qad rfl ?_ | refine qal rfl ?_ | refine qaz rfl ?_ | refine qac rfl ?_ | refine qah rfl ?_ | refine qaf (sz := 6) rfl rfl f1 (Nat.le_refl _) ?_ | refine qaf (sz := 6) rfl rfl f2 (Nat.le_refl _) ?_ | refine qai (v := .bool _) rfl rfl ?_ | refine qab rfl rfl cA ?_ | refine qab rfl rfl cB ?_ | refine qar rfl rfl ?_ | refine qab rfl rfl c0 ?_ | refine qak rfl rfl rfl (by omega) ?_ | refine qav rfl rfl (by omega) ?_))
     have cP := (qem (textM a) G tG n8G (by omega)).wf_post
     unfold PaOk at cP
     rw [hp] at cP
     generalize textM a = tx at cP hinj
     generalize textM b = ty at hinj
     refine zz rfl (qao (evs := [str tx]) rfl rfl (cP.mono ?_))
     rintro _ K1 ⟨⟨B1, vg1, va1, rfl, o1, a1, y1⟩, v1, m1⟩
     have e1 := qb9 o1.one a1.one a.setup
     repeat (first | (refine zz rfl ?_; first | refine qaz rfl ?_ | refine qar rfl rfl ?_ | refine qat ?_))
     refine AL.eff rfl (qaC (vs := scrC vg1 va1 a.setup) rfl rfl rfl rfl e1 ?_)
     refine AL.heap (h := K1.alloc (scrB vg1 va1 a.setup)) rfl ?_
     obtain ⟨K, hQ, g1, z1, _, _⟩ := aq v1 (scrB vg1 va1 a.setup)
     rw [hQ]
     have x1 := y1.trans z1
     have xK := xx.trans x1
     have f3 := x1.c _ _ f1
     have f4 := x1.c _ _ f2
     have cn := qbV 0 K
     have cs := rsame_c a a vg1 va va1 ua K (t.ext xK) ja ja (o1.rg.ext z1) (ra.ext xK) (a1.ra.ext z1) (sa.ext xK)
     rw [decide_eq_true rfl] at cs
     have cS := same_c a b va vb ua ub K (ra.ext xK) (rb.ext xK) (sa.ext xK) (sb.ext xK)
     by_cases hab : a = b
     ·
      have htt := hinj.2 hab
      rw [decide_eq_true hab] at cS
      repeat (first | refine W.w ?_ | (refine zz rfl ?_; first | refine qad rfl ?_ | refine qag rfl ?_ | refine qal rfl ?_ | refine qac rfl ?_ | refine qaa rfl ?_ | refine qab rfl rfl cn ?_ | refine qaj rfl rfl rfl (by omega) ?_ | refine qaf (sz := 6) rfl rfl g1 (Nat.le_refl _) ?_ | refine qaf (sz := 6) rfl rfl f3 (Nat.le_refl _) ?_ | refine qaf (sz := 6) rfl rfl f4 (Nat.le_refl _) ?_ | refine qab rfl rfl cs ?_ | refine qab rfl rfl cS ?_ | refine qaV (a := tx) (b := ty) rfl rfl htt ?_ | refine qby (a := true) (b := true) rfl rfl rfl ?_ | refine qai (v := .bool _) rfl rfl ?_ | refine qbe rfl rfl rfl ?_))
      exact ⟨_, ResV.tmp rfl, rfl, xK, rfl, rfl⟩
     ·
      have htt : ¬ tx = ty := fun e => hab (hinj.1 e)
      rw [decide_eq_false hab] at cS
      repeat (first | refine W.w ?_ | (refine zz rfl ?_; first | refine qad rfl ?_ | refine qag rfl ?_ | refine qal rfl ?_ | refine qac rfl ?_ | refine qaa rfl ?_ | refine qab rfl rfl cn ?_ | refine qaj rfl rfl rfl (by omega) ?_ | refine qaf (sz := 6) rfl rfl g1 (Nat.le_refl _) ?_ | refine qaf (sz := 6) rfl rfl f3 (Nat.le_refl _) ?_ | refine qaf (sz := 6) rfl rfl f4 (Nat.le_refl _) ?_ | refine qab rfl rfl cs ?_ | refine qab rfl rfl cS ?_ | refine qbX (a := tx) (b := ty) rfl rfl htt ?_ | refine qby (a := false) (b := false) rfl rfl rfl ?_ | refine qai (v := .bool _) rfl rfl ?_ | refine qbe rfl rfl rfl ?_))
      exact ⟨_, ResV.tmp rfl, rfl, xK, rfl, rfl⟩
    ·
     rw [ea] at cA
     rw [eb] at cB
     have c1 := qbV cb G
     repeat (first | refine W.w ?_ | refine AWp.c8 rfl ?_ | refine AWp.c9 rfl ?_ | (refine zz rfl ?_; first | refine qad rfl ?_ | refine qaz rfl ?_ | refine qac rfl ?_ | refine qaa rfl ?_ | refine qah rfl ?_ | refine qaf (sz := 6) rfl rfl f1 (Nat.le_refl _) ?_ | refine qaf (sz := 6) rfl rfl f2 (Nat.le_refl _) ?_ | refine qai (v := .bool _) rfl rfl ?_ | refine qab rfl rfl cA ?_ | refine qab rfl rfl cB ?_ | refine qar rfl rfl ?_ | refine qab rfl rfl c0 ?_ | refine qab rfl rfl c1 ?_ | refine qaj rfl rfl rfl (by omega) ?_ | refine qav rfl rfl (by omega) ?_))
     exact ⟨_, ResV.tmp rfl, rfl, xx, rfl, rfl⟩
   ·
    have c1 := qbV ca G
    rcases qfr b with ⟨eb, kb, lb⟩ | ⟨cb, cb0, cb3, eb⟩
    ·
     rw [ea] at cA
     rw [eb] at cB
     repeat (first | refine W.w ?_ | refine AWp.c8 rfl ?_ | refine AWp.c9 rfl ?_ | (refine zz rfl ?_; first | refine qad rfl ?_ | refine qaz rfl ?_ | refine qac rfl ?_ | refine qaa rfl ?_ | refine qah rfl ?_ | refine qaf (sz := 6) rfl rfl f1 (Nat.le_refl _) ?_ | refine qaf (sz := 6) rfl rfl f2 (Nat.le_refl _) ?_ | refine qai (v := .bool _) rfl rfl ?_ | refine qab rfl rfl cA ?_ | refine qab rfl rfl cB ?_ | refine qar rfl rfl ?_ | refine qab rfl rfl c0 ?_ | refine qab rfl rfl c1 ?_ | refine qaj rfl rfl rfl (by omega) ?_ | refine qav rfl rfl (by omega) ?_))
     exact ⟨_, ResV.tmp rfl, rfl, xx, rfl, rfl⟩
    ·
     rw [ea] at cA
     rw [eb] at cB
     have c2 := qbV cb G
     repeat (first | refine W.w ?_ | refine AWp.c8 rfl ?_ | refine AWp.c9 rfl ?_ | (refine zz rfl ?_; first | refine qad rfl ?_ | refine qaz rfl ?_ | refine qac rfl ?_ | refine qaa rfl ?_ | refine qah rfl ?_ | refine qaf (sz := 6) rfl rfl f1 (Nat.le_refl _) ?_ | refine qaf (sz := 6) rfl rfl f2 (Nat.le_refl _) ?_ | refine qai (v := .bool _) rfl rfl ?_ | refine qab rfl rfl cA ?_ | refine qab rfl rfl cB ?_ | refine qar rfl rfl ?_ | refine qab rfl rfl c1 ?_ | refine qab rfl rfl c2 ?_ | refine qaj rfl rfl rfl (by omega) ?_ | refine qav rfl rfl (by omega) ?_))
     exact ⟨_, ResV.tmp rfl, rfl, xx, rfl, rfl⟩
end Go.Proofs.YtigmojilaadbhaaGreatDoor
