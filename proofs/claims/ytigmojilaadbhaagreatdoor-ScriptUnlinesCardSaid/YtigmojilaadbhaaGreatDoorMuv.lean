/-
  Texts of one claim, merged: 4 parts.
-/
import Derived.Test.YtigmojilaadbhaaGreatDoorMut
import Derived.Test.YtigmojilaadbhaaGreatDoorMur
import Derived.Test.YtigmojilaadbhaaGreatDoorMug
import GoSem.Extern.BytealgCompare
import GoSem.Op.String
import Derived.Test.YtigmojilaadbhaaGreatDoorMuq
set_option maxHeartbeats 16000000
/- . -/
namespace Go.Proofs.YtigmojilaadbhaaGreatDoor
open Go Go.Eng Go.Pln Go.Lib
attribute [local irreducible] AWp AL DAL AOp TAL
instance i_rAsk : FnC Tryz.prog 52 := ⟨Tryz.f52, Tryz.func52, by kernel_rfl, by kernel_rfl⟩
def RBs (h : Heap) : List Value → List Bytes → Prop
 | [], [] => True
 | v :: vs, l :: ll => RB h v l ∧ RBs h vs ll
 | _, _ => False
theorem RBs.at {h : Heap} : ∀ {vs : List Value} {ll : List Bytes}, RBs h vs ll → vs.length = ll.length ∧ ∀ (k : Nat) x l, vs[k]? = some x → ll[k]? = some l → RB h x l
 | [], [], _ => ⟨rfl, fun k x l hx _ => by simp at hx⟩
 | v :: vs, l :: ll, r => by
  obtain ⟨h1, h2⟩ := RBs.at r.2
  refine ⟨by simp [h1], fun k x m hx hm => ?_⟩
  cases k with
  | zero => simp at hx hm; subst hx hm; exact r.1
  | succ k => simp at hx hm; exact h2 k x m hx hm
theorem RBs.rbb {h : Heap} {v : Value} {vs : List Value} {ll : List Bytes} (r : RBs h vs ll) (rs : RS h v vs) : RBB h v ll := ⟨vs, rs, r.at.1, r.at.2⟩
theorem RBs.ext {h h' : Heap} (hx : Ext h h') : ∀ {vs : List Value} {ll : List Bytes}, RBs h vs ll → RBs h' vs ll
 | [], [], _ => trivial
 | _ :: _, _ :: _, r => ⟨r.1.ext hx, RBs.ext hx r.2⟩
theorem RBs.ones {h : Heap} : ∀ {vs : List Value} {ll : List Bytes}, RBs h vs ll → ∀ v ∈ vs, oneB v = true
 | [], [], _, v, hv => by cases hv
 | w :: vs, l :: ll, r, v, hv => by
  rcases List.mem_cons.1 hv with rfl | hv
  ·
   exact r.1.one.1
  ·
   exact RBs.ones r.2 v hv
theorem qbR (l : List Int) : ∀ v ∈ iv64 l, oneB v = true := by
 intro v hv
 obtain ⟨n, _, rfl⟩ := List.mem_map.1 hv
 rfl
theorem rBx_c (s : Bytes) (v : Value) (l : List Bytes) {H : Heap} (r : RBB H v l) (hs : s.length ≤ 100000) (hb : ∀ b ∈ l, b.length ≤ 1000) (hl : l.length ≤ 100) (h : Heap) (hx : Ext H h) : ACalls Tryz.prog 51 [str s, v] h fun u h' => u = str (s ++ tailW (l.map wordM)) ∧ h' = h := rB_c s v l h (r.ext hx) hs hb hl
theorem rNx_c (s : Bytes) (v : Value) (l : List Int) {H : Heap} (r : RS H v (iv64 l)) (hi : ∀ n ∈ l, I64 n) (hl : s.length + 22 * l.length ≤ 140737488351232) (t : Tabs H) (h : Heap) (hx : Ext H h) : ACalls Tryz.prog 50 [str s, v] h fun u h' => u = str (s ++ tailW (l.map itoa)) ∧ h' = h := N_c s v l h (r.ext hx) hi hl (t.ext hx)
theorem rAsk_c (p : AskV) (a : AskM) (h : Heap) (r : AskR h p a) (hm : mayAsk a = true) (t : Tabs h) : ACalls Tryz.prog 52 [.agg (askC p a).toArray] h fun u h' => u = str (joinW (askW a)) ∧ h' = h := by
 obtain ⟨l1, l2, l3, l4, l5, l6, l7, l8⟩ := qda hm
 refine ACalls.wf fun wf => ACalls.reset ?_
 refine ACalls.body Tryz.func52 rfl rfl ?_
 repeat (first | refine W.w ?_ | refine zz rfl (qag rfl ?_) | refine zz rfl (qaV rfl (by intro e; cases e) ?_))
 generalize hH : h.alloc _ = H
 have hg : H.get h.next = some ⟨askC p a, 29, true⟩ := hH ▸ Heap.alloc_new _ _
 have xh : Ext h H := hH ▸ wf.ext _
 have wfH : WF H := hH ▸ wf.alloc _
 clear hH
 obtain ⟨q1, q2, q3, q4⟩ := r.ext xh
 by_cases k1 : a.kind = 1
 ·
  have he : askW a = [wGet, wordM a.key] := by unfold askW; rw [if_pos k1]
  have q : RBs H [p.k] [a.key] := ⟨q1, trivial⟩
  repeat (first | refine W.w ?_ | refine AWp.c8 rfl ?_ | (refine zz rfl ?_; first | refine qaa rfl ?_ | refine qao rfl ?_ | refine qaf rfl rfl hg rfl ?_ | refine qam rfl rfl rfl (by omega) ?_ | refine qaN [p.k] rfl rfl rfl rfl q.ones ?_))
  obtain ⟨H1, hQ, gr, xr, _, _⟩ := aq wfH ⟨[p.k], 27, true⟩
  rw [hQ]
  have rr : RBB H1 (.slice (some ⟨H.next, 0, some 1⟩) 1 1) [a.key] := (q.ext xr).rbb (RS.own gr rfl)
  have cb := rB_c wGet _ [a.key] H1 rr (by decide) (by intro b hb; simp only [List.mem_cons, List.not_mem_nil, or_false] at hb; rcases hb with rfl <;> omega) (by simp)
  repeat (first | refine W.w ?_ | refine zz rfl (qag rfl ?_) | refine zz rfl (qab rfl rfl cb ?_))
  refine ⟨_, ResV.tmp rfl, rfl, xh.trans xr, ?_, rfl⟩
  rw [he, qaP]
  rfl
 by_cases k3 : a.kind = 3
 ·
  have he : askW a = [wDelete, wordM a.key] := by unfold askW; rw [if_neg k1, if_pos k3]
  have q : RBs H [p.k] [a.key] := ⟨q1, trivial⟩
  repeat (first | refine W.w ?_ | refine AWp.c8 rfl ?_ | refine AWp.c9 rfl ?_ | (refine zz rfl ?_; first | refine qaa rfl ?_ | refine qao rfl ?_ | refine qaf rfl rfl hg rfl ?_ | refine qam rfl rfl rfl (by omega) ?_ | refine qak rfl rfl rfl (by omega) ?_ | refine qaN [p.k] rfl rfl rfl rfl q.ones ?_))
  obtain ⟨H1, hQ, gr, xr, _, _⟩ := aq wfH ⟨[p.k], 27, true⟩
  rw [hQ]
  have rr : RBB H1 (.slice (some ⟨H.next, 0, some 1⟩) 1 1) [a.key] := (q.ext xr).rbb (RS.own gr rfl)
  have cb := rB_c wDelete _ [a.key] H1 rr (by decide) (by intro b hb; simp only [List.mem_cons, List.not_mem_nil, or_false] at hb; rcases hb with rfl <;> omega) (by simp)
  repeat (first | refine W.w ?_ | refine zz rfl (qag rfl ?_) | refine zz rfl (qab rfl rfl cb ?_))
  refine ⟨_, ResV.tmp rfl, rfl, xh.trans xr, ?_, rfl⟩
  rw [he, qaP]
  rfl
 by_cases k2 : a.kind = 2
 ·
  have he : askW a = [wPut, wordM a.key, wordM a.value] := by unfold askW; rw [if_neg k1, if_neg k3, if_pos k2]
  have q : RBs H [p.k, p.v] [a.key, a.value] := ⟨q1, q3, trivial⟩
  repeat (first | refine W.w ?_ | refine AWp.c8 rfl ?_ | refine AWp.c9 rfl ?_ | (refine zz rfl ?_; first | refine qaa rfl ?_ | refine qao rfl ?_ | refine qaf rfl rfl hg rfl ?_ | refine qam rfl rfl rfl (by omega) ?_ | refine qak rfl rfl rfl (by omega) ?_ | refine qaN [p.k, p.v] rfl rfl rfl rfl q.ones ?_))
  obtain ⟨H1, hQ, gr, xr, _, _⟩ := aq wfH ⟨[p.k, p.v], 27, true⟩
  rw [hQ]
  have rr : RBB H1 (.slice (some ⟨H.next, 0, some 1⟩) 2 2) [a.key, a.value] := (q.ext xr).rbb (RS.own gr rfl)
  have cb := rB_c wPut _ [a.key, a.value] H1 rr (by decide) (by intro b hb; simp only [List.mem_cons, List.not_mem_nil, or_false] at hb; rcases hb with rfl | rfl <;> omega) (by simp)
  repeat (first | refine W.w ?_ | refine zz rfl (qag rfl ?_) | refine zz rfl (qab rfl rfl cb ?_))
  refine ⟨_, ResV.tmp rfl, rfl, xh.trans xr, ?_, rfl⟩
  rw [he, qaP]
  rfl
 by_cases k5 : a.kind = 5
 ·
  have he : askW a = [wScan, wordM a.key, wordM a.to, itoa a.most] := by unfold askW; rw [if_neg k1, if_neg k3, if_neg k2, if_pos k5]
  have q : RBs H [p.k, p.t] [a.key, a.to] := ⟨q1, q2, trivial⟩
  have hb : ∀ b ∈ [a.key, a.to], b.length ≤ 1000 := by intro b hb; simp only [List.mem_cons, List.not_mem_nil, or_false] at hb; rcases hb with rfl | rfl <;> omega
  have hi : ∀ n ∈ [a.most], I64 n := by intro n hn; rw [List.mem_singleton.1 hn]; exact ⟨by omega, by omega⟩
  have hsl : (wScan ++ tailW ([a.key, a.to].map wordM)).length + 22 * [a.most].length ≤ 140737488351232 := by
   have w1 := qbS a.key
   have w2 := qbS a.to
   simp only [tailW, List.map_cons, List.map_nil, List.flatMap_cons, List.flatMap_nil, List.length_append, List.length_cons, List.length_nil]
   have : wScan.length = 4 := rfl
   omega
  have fin : str (wScan ++ tailW ([a.key, a.to].map wordM) ++ tailW ([a.most].map itoa)) = str (joinW (askW a)) := by
   rw [he, qaP]
   simp [tailW]
  repeat (first | refine W.w ?_ | refine AWp.c8 rfl ?_ | refine AWp.c9 rfl ?_ | (refine zz rfl ?_; first | refine qaa rfl ?_ | refine qao rfl ?_ | refine qaf rfl rfl hg rfl ?_ | refine qam rfl rfl rfl (by omega) ?_ | refine qak rfl rfl rfl (by omega) ?_))
  refine AWp.tree (t := OT.seq [(0, .R), (1, .R), (2, .R), (3, .R), (6, .R), (7, .R)] (.alt (OT.seq [(4, .X), (5, .R), (8, .X), (9, .R), (10, .R)] .nil) (OT.seq [(8, .X), (4, .X), (5, .R), (9, .R), (10, .R)] .nil))) mixed (by kernel_rfl) ?_
  repeat (first | refine TAL.r rfl rfl rfl (fun h' hx hn => qao rfl ⟨rfl, rfl⟩) ?_ | refine TAL.r rfl rfl rfl (fun h' hx hn => qaf rfl rfl (hx.c _ _ hg) rfl ⟨rfl, rfl⟩) ?_)
  refine TAL.two ?_ ?_
  ·
   refine TAL.x rfl rfl rfl (qaN [p.k, p.t] rfl rfl rfl rfl q.ones ⟨wfH.ext _, ?_⟩)
   obtain ⟨H1, hQ, g1, x1, w1, _⟩ := aq wfH ⟨[p.k, p.t], 27, true⟩
   rw [hQ]
   have cB := rBx_c wScan (.slice (some ⟨H.next, 0, some 1⟩) 2 2) [a.key, a.to] ((q.ext x1).rbb (RS.own g1 rfl)) (by decide) hb (by simp)
   repeat (first | refine TAL.r rfl rfl rfl (fun h' hx hn => qab rfl rfl (cB h' hx) ⟨rfl, rfl⟩) ?_)
   refine TAL.x rfl rfl rfl (qaN (iv64 [a.most]) rfl rfl rfl rfl (qbR _) ⟨w1.ext _, ?_⟩)
   obtain ⟨H2, hQ, g2, x2, _, _⟩ := aq w1 ⟨iv64 [a.most], 3, true⟩
   rw [hQ]
   have cN := rNx_c (wScan ++ tailW ([a.key, a.to].map wordM)) (.slice (some ⟨H1.next, 0, some 1⟩) 1 1) [a.most] (H := H2) (RS.own g2 rfl) hi hsl (t.ext (xh.trans (x1.trans x2)))
   repeat (first | refine TAL.r rfl rfl rfl (fun h' hx hn => qag rfl ⟨rfl, rfl⟩) ?_ | refine TAL.r rfl rfl rfl (fun h' hx hn => qab rfl rfl (cN h' hx) ⟨rfl, rfl⟩) ?_)
   refine TAL.nil ?_
   repeat (first | refine AWp.ret ?_)
   exact ⟨_, ResV.tmp rfl, rfl, xh.trans (x1.trans x2), fin, rfl⟩
  ·
   refine TAL.x rfl rfl rfl (qaN (iv64 [a.most]) rfl rfl rfl rfl (qbR _) ⟨wfH.ext _, ?_⟩)
   obtain ⟨H1, hQ, g1, x1, w1, _⟩ := aq wfH ⟨iv64 [a.most], 3, true⟩
   rw [hQ]
   refine TAL.x rfl rfl rfl (qaN [p.k, p.t] rfl rfl rfl rfl q.ones ⟨w1.ext _, ?_⟩)
   obtain ⟨H2, hQ, g2, x2, _, _⟩ := aq w1 ⟨[p.k, p.t], 27, true⟩
   rw [hQ]
   have cB := rBx_c wScan (.slice (some ⟨H1.next, 0, some 1⟩) 2 2) [a.key, a.to] ((q.ext (x1.trans x2)).rbb (RS.own g2 rfl)) (by decide) hb (by simp)
   have cN := rNx_c (wScan ++ tailW ([a.key, a.to].map wordM)) (.slice (some ⟨H.next, 0, some 1⟩) 1 1) [a.most] (H := H2) ((RS.own g1 rfl : RS H1 _ (iv64 [a.most])).ext x2) hi hsl (t.ext (xh.trans (x1.trans x2)))
   repeat (first | refine TAL.r rfl rfl rfl (fun h' hx hn => qag rfl ⟨rfl, rfl⟩) ?_ | refine TAL.r rfl rfl rfl (fun h' hx hn => qab rfl rfl (cB h' hx) ⟨rfl, rfl⟩) ?_ | refine TAL.r rfl rfl rfl (fun h' hx hn => qab rfl rfl (cN h' hx) ⟨rfl, rfl⟩) ?_)
   refine TAL.nil ?_
   repeat (first | refine AWp.ret ?_)
   exact ⟨_, ResV.tmp rfl, rfl, xh.trans (x1.trans x2), fin, rfl⟩
 cases hn : a.none with
 | true =>
  have he : askW a = [wFresh, wordM a.key, wordM a.value] := by unfold askW; rw [if_neg k1, if_neg k3, if_neg k2, if_neg k5, if_pos hn]
  have hnc : .bool a.none = Value.bool true := by rw [hn]
  have q : RBs H [p.k, p.v] [a.key, a.value] := ⟨q1, q3, trivial⟩
  have hg' : H.get h.next = some ⟨[.int .i64 a.kind, p.k, p.t, p.v, p.w, .bool true, .int .i64 a.most], 29, true⟩ := by rw [hg, askC, hn]
  replace hg := hg'
  have q : RBs H [p.k, p.v] [a.key, a.value] := ⟨q1, q3, trivial⟩
  repeat (first | refine W.w ?_ | refine AWp.c8 rfl ?_ | refine AWp.c9 rfl ?_ | (refine zz rfl ?_; first | refine qaa rfl ?_ | refine qao rfl ?_ | refine qaf rfl rfl hg rfl ?_ | refine qak rfl rfl rfl (by omega) ?_ | refine qaN [p.k, p.v] rfl rfl rfl rfl q.ones ?_))
  obtain ⟨H1, hQ, gr, xr, _, _⟩ := aq wfH ⟨[p.k, p.v], 27, true⟩
  rw [hQ]
  have rr : RBB H1 (.slice (some ⟨H.next, 0, some 1⟩) 2 2) [a.key, a.value] := (q.ext xr).rbb (RS.own gr rfl)
  have cb := rB_c wFresh _ [a.key, a.value] H1 rr (by decide) (by intro b hb; simp only [List.mem_cons, List.not_mem_nil, or_false] at hb; rcases hb with rfl | rfl <;> omega) (by simp)
  repeat (first | refine W.w ?_ | refine zz rfl (qag rfl ?_) | refine zz rfl (qab rfl rfl cb ?_))
  refine ⟨_, ResV.tmp rfl, rfl, xh.trans xr, ?_, rfl⟩
  rw [he, qaP]
  rfl
 | false =>
  have he : askW a = [wSwap, wordM a.key, wordM a.value, wordM a.was] := by unfold askW; rw [if_neg k1, if_neg k3, if_neg k2, if_neg k5, if_neg (by rw [hn]; exact Bool.false_ne_true)]
  have hg' : H.get h.next = some ⟨[.int .i64 a.kind, p.k, p.t, p.v, p.w, .bool false, .int .i64 a.most], 29, true⟩ := by rw [hg, askC, hn]
  replace hg := hg'
  have q : RBs H [p.k, p.v, p.w] [a.key, a.value, a.was] := ⟨q1, q3, q4, trivial⟩
  repeat (first | refine W.w ?_ | refine AWp.c9 rfl ?_ | (refine zz rfl ?_; first | refine qaa rfl ?_ | refine qao rfl ?_ | refine qaf rfl rfl hg rfl ?_ | refine qak rfl rfl rfl (by omega) ?_ | refine qaN [p.k, p.v, p.w] rfl rfl rfl rfl q.ones ?_))
  obtain ⟨H1, hQ, gr, xr, _, _⟩ := aq wfH ⟨[p.k, p.v, p.w], 27, true⟩
  rw [hQ]
  have rr : RBB H1 (.slice (some ⟨H.next, 0, some 1⟩) 3 3) [a.key, a.value, a.was] := (q.ext xr).rbb (RS.own gr rfl)
  have cb := rB_c wSwap _ [a.key, a.value, a.was] H1 rr (by decide) (by intro b hb; simp only [List.mem_cons, List.not_mem_nil, or_false] at hb; rcases hb with rfl | rfl | rfl <;> omega) (by simp)
  repeat (first | refine W.w ?_ | refine zz rfl (qag rfl ?_) | refine zz rfl (qab rfl rfl cb ?_))
  refine ⟨_, ResV.tmp rfl, rfl, xh.trans xr, ?_, rfl⟩
  rw [he, qaP]
  rfl
instance i_rLine : FnC Tryz.prog 22 := ⟨Tryz.f22, Tryz.func22, by kernel_rfl, by kernel_rfl⟩
theorem tailW_cons (w : Bytes) (l : List Bytes) : tailW (w :: l) = 32 :: w ++ tailW l := by simp [tailW]
theorem rLine_c (p : ActV) (a : ActM) (h : Heap) (t : Tabs h) (r : ActR h p a) (hm : mayAct 5 5 a = true) : ACalls Tryz.prog 22 [.agg (actC p a).toArray] h fun u h' => u = str (lineM a) ∧ h' = h := by
 obtain ⟨hk, hna, hp9, hp10, hp11, hnode, hgroup, hnn, hkp⟩ := (qfg (by omega) (by omega) a).1 hm
 refine ACalls.wf fun wf => ACalls.reset ?_
 refine ACalls.body Tryz.func22 rfl rfl ?_
 repeat (first | refine W.w ?_ | refine zz rfl (qag rfl ?_) | refine zz rfl (qaV rfl (by intro e; cases e) ?_))
 generalize hH : h.alloc _ = H
 have hg : H.get h.next = some ⟨actC p a, 40, true⟩ := hH ▸ Heap.alloc_new _ _
 have xh : Ext h H := hH ▸ wf.ext _
 have wfH : WF H := hH ▸ wf.alloc _
 clear hH
 have cn := rName_c a.kind hk H
 have hkl : (kword a.kind).length ≤ 10 := by
  have := qf9 ⟨(a.kind - 1).toNat, by omega⟩
  rw [show ((a.kind - 1).toNat : Int) + 1 = a.kind by omega] at this
  exact this
 obtain ⟨ra, rc, rk⟩ := r.ext xh
 by_cases k1 : a.kind = 3 ∨ a.kind = 4 ∨ a.kind = 5
 ·
  have he : restW a = [itoa a.n] := by unfold restW; rw [if_pos k1]
  rcases k1 with k | k | k <;>
  ·
   repeat (first | refine W.w ?_ | refine AWp.c8 rfl ?_ | refine AWp.c9 rfl ?_ | (refine zz rfl ?_; first | refine qai rfl ?_ | refine qaa rfl ?_ | refine qag rfl ?_ | refine qao rfl ?_ | refine qaf rfl rfl hg rfl ?_ | refine qab rfl rfl cn ?_ | refine qam rfl rfl rfl (by omega) ?_ | refine qak rfl rfl rfl (by omega) ?_ | refine qaN (iv64 [a.n]) rfl rfl rfl rfl (qbR _) ?_))
   have gr := Heap.alloc_new H ⟨iv64 [a.n], 3, true⟩
   have xr := wfH.ext ⟨iv64 [a.n], 3, true⟩
   have wr := wfH.alloc ⟨iv64 [a.n], 3, true⟩
   refine AL.heap (h := H.alloc ⟨iv64 [a.n], 3, true⟩) rfl ?_
   generalize H.alloc ⟨iv64 [a.n], 3, true⟩ = H1 at gr xr wr ⊢
   have cN := N_c (kword a.kind) (.slice (some ⟨H.next, 0, some 1⟩) 1 1) [a.n] H1 (RS.own gr rfl) (by intro n hn; simp only [List.mem_cons, List.not_mem_nil, or_false] at hn; rcases hn with rfl <;> exact ⟨by omega, by omega⟩) (by simp only [List.length_cons, List.length_nil]; omega) (t.ext (xh.trans xr))
   repeat (first | refine W.w ?_ | refine zz rfl (qag rfl ?_) | refine zz rfl (qab rfl rfl cN ?_))
   refine ⟨_, ResV.tmp rfl, rfl, xh.trans xr, ?_, rfl⟩
   unfold lineM
   rw [he, qaP]
   rfl
 by_cases k2 : a.kind = 8 ∨ a.kind = 13
 ·
  have he : restW a = [itoa a.node] := by unfold restW; rw [if_neg k1, if_pos k2]
  rcases k2 with k | k <;>
  ·
   repeat (first | refine W.w ?_ | refine AWp.c8 rfl ?_ | refine AWp.c9 rfl ?_ | (refine zz rfl ?_; first | refine qai rfl ?_ | refine qaa rfl ?_ | refine qag rfl ?_ | refine qao rfl ?_ | refine qaf rfl rfl hg rfl ?_ | refine qab rfl rfl cn ?_ | refine qam rfl rfl rfl (by omega) ?_ | refine qak rfl rfl rfl (by omega) ?_ | refine qaN (iv64 [a.node]) rfl rfl rfl rfl (qbR _) ?_))
   have gr := Heap.alloc_new H ⟨iv64 [a.node], 3, true⟩
   have xr := wfH.ext ⟨iv64 [a.node], 3, true⟩
   have wr := wfH.alloc ⟨iv64 [a.node], 3, true⟩
   refine AL.heap (h := H.alloc ⟨iv64 [a.node], 3, true⟩) rfl ?_
   generalize H.alloc ⟨iv64 [a.node], 3, true⟩ = H1 at gr xr wr ⊢
   have cN := N_c (kword a.kind) (.slice (some ⟨H.next, 0, some 1⟩) 1 1) [a.node] H1 (RS.own gr rfl) (by intro n hn; simp only [List.mem_cons, List.not_mem_nil, or_false] at hn; rcases hn with rfl <;> exact ⟨by omega, by omega⟩) (by simp only [List.length_cons, List.length_nil]; omega) (t.ext (xh.trans xr))
   repeat (first | refine W.w ?_ | refine zz rfl (qag rfl ?_) | refine zz rfl (qab rfl rfl cN ?_))
   refine ⟨_, ResV.tmp rfl, rfl, xh.trans xr, ?_, rfl⟩
   unfold lineM
   rw [he, qaP]
   rfl
 by_cases k3 : a.kind = 9
 ·
  have he : restW a = itoa a.node :: planW a.cmd := by unfold restW; rw [if_neg k1, if_neg k2, if_pos k3]
  have hmp : mayPlan a.cmd = true := by rw [qeg]; exact hp9 k3
  obtain ⟨l1, l2, l3, l4, l5⟩ := qcH hmp
  repeat (first | refine W.w ?_ | refine AWp.c8 rfl ?_ | refine AWp.c9 rfl ?_ | (refine zz rfl ?_; first | refine qai rfl ?_ | refine qaa rfl ?_ | refine qag rfl ?_ | refine qao rfl ?_ | refine qaf rfl rfl hg rfl ?_ | refine qab rfl rfl cn ?_ | refine qam rfl rfl rfl (by omega) ?_ | refine qak rfl rfl rfl (by omega) ?_ | refine qaN (iv64 [a.node]) rfl rfl rfl rfl (qbR _) ?_))
  have gr := Heap.alloc_new H ⟨iv64 [a.node], 3, true⟩
  have xr := wfH.ext ⟨iv64 [a.node], 3, true⟩
  have wr := wfH.alloc ⟨iv64 [a.node], 3, true⟩
  refine AL.heap (h := H.alloc ⟨iv64 [a.node], 3, true⟩) rfl ?_
  generalize H.alloc ⟨iv64 [a.node], 3, true⟩ = H1 at gr xr wr ⊢
  have cN := N_c (kword a.kind) (.slice (some ⟨H.next, 0, some 1⟩) 1 1) [a.node] H1 (RS.own gr rfl) (by intro n hn; simp only [List.mem_cons, List.not_mem_nil, or_false] at hn; rcases hn with rfl <;> exact ⟨by omega, by omega⟩) (by simp only [List.length_cons, List.length_nil]; omega) (t.ext (xh.trans xr))
  repeat (first | refine W.w ?_ | refine zz rfl (qag rfl ?_) | refine zz rfl (qab rfl rfl cN ?_))
  have hg1 := xr.c _ _ hg
  have q : RBs H1 [p.c.k] [a.cmd.key] := ⟨rc.k.ext xr, trivial⟩
  have hb : ∀ b ∈ [a.cmd.key], b.length ≤ 1000 := by intro b hb; rw [List.mem_singleton.1 hb]; omega
  have hnl := qbs (n := a.node) (by omega) (by omega)
  have htl : (tailW ([a.node].map itoa)).length ≤ 22 := by
   simp only [tailW, List.map_cons, List.map_nil, List.flatMap_cons, List.flatMap_nil, List.length_append, List.length_cons, List.length_nil]
   omega
  have hml : lineM a = kword a.kind ++ tailW ([a.node].map itoa) ++ tailW (planW a.cmd) := by
   unfold lineM
   rw [he, qaP, tailW_cons]
   simp [tailW]
  have hwk := qbS a.cmd.key
  rw [hml]
  generalize tailW ([a.node].map itoa) = T1 at htl ⊢
  by_cases k6 : a.cmd.kind = 6
  ·
   have hpw : planW a.cmd = [wSplit, wordM a.cmd.key] := by unfold planW; rw [if_pos k6]
   repeat (first | refine W.w ?_ | refine AWp.c8 rfl ?_ | (refine zz rfl ?_; first | refine qai rfl ?_ | refine qao rfl ?_ | refine qaf rfl rfl hg1 rfl ?_ | refine qam rfl rfl rfl (by omega) ?_ | refine qbZ (b := 32 :: wSplit) rfl rfl (by simp only [maxLen, wSplit, List.length_append, List.length_cons, List.length_nil]; omega) ?_ | refine qaN [p.c.k] rfl rfl rfl rfl q.ones ?_))
   obtain ⟨H2, hQ, g2, x2, _, _⟩ := aq wr ⟨[p.c.k], 27, true⟩
   rw [hQ]
   have cb := rB_c (kword a.kind ++ T1 ++ 32 :: wSplit) (.slice (some ⟨H1.next, 0, some 1⟩) 1 1) [a.cmd.key] H2 ((q.ext x2).rbb (RS.own g2 rfl)) (by simp only [wSplit, List.length_append, List.length_cons, List.length_nil]; omega) hb (by simp)
   repeat (first | refine W.w ?_ | refine zz rfl (qag rfl ?_) | refine zz rfl (qab rfl rfl cb ?_))
   refine ⟨_, ResV.tmp rfl, rfl, xh.trans (xr.trans x2), ?_, rfl⟩
   rw [hpw]
   exact congrArg str (by simp [tailW])
  by_cases k7 : a.cmd.kind = 7
  ·
   have hpw : planW a.cmd = [wUnion, wordM a.cmd.key] := by unfold planW; rw [if_neg k6, if_pos k7]
   repeat (first | refine W.w ?_ | refine AWp.c8 rfl ?_ | refine AWp.c9 rfl ?_ | (refine zz rfl ?_; first | refine qai rfl ?_ | refine qao rfl ?_ | refine qaf rfl rfl hg1 rfl ?_ | refine qam rfl rfl rfl (by omega) ?_ | refine qak rfl rfl rfl (by omega) ?_ | refine qbZ (b := 32 :: wUnion) rfl rfl (by simp only [maxLen, wUnion, List.length_append, List.length_cons, List.length_nil]; omega) ?_ | refine qaN [p.c.k] rfl rfl rfl rfl q.ones ?_))
   obtain ⟨H2, hQ, g2, x2, _, _⟩ := aq wr ⟨[p.c.k], 27, true⟩
   rw [hQ]
   have cb := rB_c (kword a.kind ++ T1 ++ 32 :: wUnion) (.slice (some ⟨H1.next, 0, some 1⟩) 1 1) [a.cmd.key] H2 ((q.ext x2).rbb (RS.own g2 rfl)) (by simp only [wUnion, List.length_append, List.length_cons, List.length_nil]; omega) hb (by simp)
   repeat (first | refine W.w ?_ | refine zz rfl (qag rfl ?_) | refine zz rfl (qab rfl rfl cb ?_))
   refine ⟨_, ResV.tmp rfl, rfl, xh.trans (xr.trans x2), ?_, rfl⟩
   rw [hpw]
   exact congrArg str (by simp [tailW])
  ·
   have hpw : planW a.cmd = [wMove, wordM a.cmd.key, itoa a.cmd.group] := by unfold planW; rw [if_neg k6, if_neg k7]
   have hi : ∀ n ∈ [a.cmd.group], I64 n := by intro n hn; rw [List.mem_singleton.1 hn]; exact ⟨by omega, by omega⟩
   have hs0 : (kword a.kind ++ T1 ++ 32 :: wMove).length ≤ 100000 := by simp only [wMove, List.length_append, List.length_cons, List.length_nil]; omega
   have hsl : (kword a.kind ++ T1 ++ 32 :: wMove ++ tailW ([a.cmd.key].map wordM)).length + 22 * [a.cmd.group].length ≤ 140737488351232 := by
    rw [List.length_append]
    simp only [tailW, List.map_cons, List.map_nil, List.flatMap_cons, List.flatMap_nil, List.length_append, List.length_cons, List.length_nil] at hs0 ⊢
    omega
   have fin : str (kword a.kind ++ T1 ++ 32 :: wMove ++ tailW ([a.cmd.key].map wordM) ++ tailW ([a.cmd.group].map itoa)) = str (kword a.kind ++ T1 ++ tailW (planW a.cmd)) := by
    rw [hpw]
    exact congrArg str (by simp [tailW])
   repeat (first | refine W.w ?_ | refine AWp.c9 rfl ?_ | (refine zz rfl ?_; first | refine qao rfl ?_ | refine qaf rfl rfl hg1 rfl ?_ | refine qak rfl rfl rfl (by omega) ?_))
   refine AWp.tree (t := OT.seq [(0, .R), (1, .R), (2, .R), (3, .R), (4, .R), (7, .R), (8, .R), (9, .R)] (.alt (OT.seq [(5, .X), (6, .R), (10, .X), (11, .R), (12, .R)] .nil) (OT.seq [(10, .X), (5, .X), (6, .R), (11, .R), (12, .R)] .nil))) mixed (by kernel_rfl) ?_
   repeat (first | refine TAL.r rfl rfl rfl (fun h' hx hn => qai rfl ⟨rfl, rfl⟩) ?_ | refine TAL.r rfl rfl rfl (fun h' hx hn => qao rfl ⟨rfl, rfl⟩) ?_ | refine TAL.r rfl rfl rfl (fun h' hx hn => qaf rfl rfl (hx.c _ _ hg1) rfl ⟨rfl, rfl⟩) ?_ | refine TAL.r rfl rfl rfl (fun h' hx hn => qbZ (b := 32 :: wMove) rfl rfl (by simp only [maxLen, wMove, List.length_append, List.length_cons, List.length_nil]; omega) ⟨rfl, rfl⟩) ?_)
   refine TAL.two ?_ ?_
   ·
    refine TAL.x rfl rfl rfl (qaN [p.c.k] rfl rfl rfl rfl q.ones ⟨wr.ext _, ?_⟩)
    obtain ⟨H2, hQ, g2, x2, w2, _⟩ := aq wr ⟨[p.c.k], 27, true⟩
    rw [hQ]
    have cB := rBx_c (kword a.kind ++ T1 ++ 32 :: wMove) (.slice (some ⟨H1.next, 0, some 1⟩) 1 1) [a.cmd.key] ((q.ext x2).rbb (RS.own g2 rfl)) hs0 hb (by simp)
    repeat (first | refine TAL.r rfl rfl rfl (fun h' hx hn => qab rfl rfl (cB h' hx) ⟨rfl, rfl⟩) ?_)
    refine TAL.x rfl rfl rfl (qaN (iv64 [a.cmd.group]) rfl rfl rfl rfl (qbR _) ⟨w2.ext _, ?_⟩)
    obtain ⟨H3, hQ, g3, x3, _, _⟩ := aq w2 ⟨iv64 [a.cmd.group], 3, true⟩
    rw [hQ]
    have cN2 := rNx_c (kword a.kind ++ T1 ++ 32 :: wMove ++ tailW ([a.cmd.key].map wordM)) (.slice (some ⟨H2.next, 0, some 1⟩) 1 1) [a.cmd.group] (H := H3) (RS.own g3 rfl) hi hsl (t.ext (xh.trans (xr.trans (x2.trans x3))))
    repeat (first | refine TAL.r rfl rfl rfl (fun h' hx hn => qag rfl ⟨rfl, rfl⟩) ?_ | refine TAL.r rfl rfl rfl (fun h' hx hn => qab rfl rfl (cN2 h' hx) ⟨rfl, rfl⟩) ?_)
    refine TAL.nil ?_
    repeat (first | refine AWp.ret ?_)
    exact ⟨_, ResV.tmp rfl, rfl, xh.trans (xr.trans (x2.trans x3)), fin, rfl⟩
   ·
    refine TAL.x rfl rfl rfl (qaN (iv64 [a.cmd.group]) rfl rfl rfl rfl (qbR _) ⟨wr.ext _, ?_⟩)
    obtain ⟨H2, hQ, g2, x2, w2, _⟩ := aq wr ⟨iv64 [a.cmd.group], 3, true⟩
    rw [hQ]
    refine TAL.x rfl rfl rfl (qaN [p.c.k] rfl rfl rfl rfl q.ones ⟨w2.ext _, ?_⟩)
    obtain ⟨H3, hQ, g3, x3, _, _⟩ := aq w2 ⟨[p.c.k], 27, true⟩
    rw [hQ]
    have cB := rBx_c (kword a.kind ++ T1 ++ 32 :: wMove) (.slice (some ⟨H2.next, 0, some 1⟩) 1 1) [a.cmd.key] ((q.ext (x2.trans x3)).rbb (RS.own g3 rfl)) hs0 hb (by simp)
    have cN2 := rNx_c (kword a.kind ++ T1 ++ 32 :: wMove ++ tailW ([a.cmd.key].map wordM)) (.slice (some ⟨H1.next, 0, some 1⟩) 1 1) [a.cmd.group] (H := H3) ((RS.own g2 rfl : RS H2 _ (iv64 [a.cmd.group])).ext x3) hi hsl (t.ext (xh.trans (xr.trans (x2.trans x3))))
    repeat (first | refine TAL.r rfl rfl rfl (fun h' hx hn => qag rfl ⟨rfl, rfl⟩) ?_ | refine TAL.r rfl rfl rfl (fun h' hx hn => qab rfl rfl (cB h' hx) ⟨rfl, rfl⟩) ?_ | refine TAL.r rfl rfl rfl (fun h' hx hn => qab rfl rfl (cN2 h' hx) ⟨rfl, rfl⟩) ?_)
    refine TAL.nil ?_
    repeat (first | refine AWp.ret ?_)
    exact ⟨_, ResV.tmp rfl, rfl, xh.trans (xr.trans (x2.trans x3)), fin, rfl⟩
 by_cases k4 : a.kind = 10
 ·
  have he : restW a = itoa a.client :: itoa a.node :: itoa a.group :: askW a.ask := by unfold restW; rw [if_neg k1, if_neg k2, if_neg k3, if_pos k4]
  have hma := hp10 k4
  have hc := hp11 (.inl k4)
  have hal := qh6 hma
  have e1 := qbs (n := a.client) (by omega) (by omega)
  have e2 := qbs (n := a.node) (by omega) (by omega)
  have e3 := qbs (n := a.group) (by omega) (by omega)
  have htl : (tailW ([a.client, a.node, a.group].map itoa)).length ≤ 66 := by
   simp only [tailW, List.map_cons, List.map_nil, List.flatMap_cons, List.flatMap_nil, List.length_append, List.length_cons, List.length_nil]
   omega
  have hml : lineM a = kword a.kind ++ tailW ([a.client, a.node, a.group].map itoa) ++ [32] ++ joinW (askW a.ask) := by
   unfold lineM
   rw [he, qaP]
   cases hq : askW a.ask with
   | nil => exact absurd hq (askW_ne _)
   | cons w l => rw [qaP]; simp [tailW]
  repeat (first | refine W.w ?_ | refine AWp.c8 rfl ?_ | refine AWp.c9 rfl ?_ | (refine zz rfl ?_; first | refine qaa rfl ?_ | refine qag rfl ?_ | refine qao rfl ?_ | refine qaf rfl rfl hg rfl ?_ | refine qab rfl rfl cn ?_ | refine qam rfl rfl rfl (by omega) ?_ | refine qak rfl rfl rfl (by omega) ?_))
  refine AWp.tree (t := OT.seq [(0, .R), (1, .R), (2, .R), (3, .R), (4, .R), (5, .R), (6, .R), (10, .R), (11, .R), (7, .X), (8, .R), (9, .R), (12, .R), (13, .R), (14, .R)] .nil) mixed (by kernel_rfl) ?_
  repeat (first | refine TAL.r rfl rfl rfl (fun h' hx hn => qai rfl ⟨rfl, rfl⟩) ?_ | refine TAL.r rfl rfl rfl (fun h' hx hn => qao rfl ⟨rfl, rfl⟩) ?_ | refine TAL.r rfl rfl rfl (fun h' hx hn => qaf rfl rfl (hx.c _ _ hg) rfl ⟨rfl, rfl⟩) ?_ | refine TAL.r rfl rfl rfl (fun h' hx hn => qaj (sz := 7) rfl rfl (hx.c _ _ hg) (Nat.le_of_ble_eq_true rfl) ⟨rfl, rfl⟩) ?_)
  refine TAL.x rfl rfl rfl (qaN (iv64 [a.client, a.node, a.group]) rfl rfl rfl rfl (qbR _) ⟨wfH.ext _, ?_⟩)
  obtain ⟨H2, hQ, g2, x2, _, _⟩ := aq wfH ⟨iv64 [a.client, a.node, a.group], 3, true⟩
  rw [hQ]
  have t2 := t.ext (xh.trans x2)
  have cN2 := rNx_c (kword a.kind) (.slice (some ⟨H.next, 0, some 1⟩) 3 3) [a.client, a.node, a.group] (H := H2) (RS.own g2 rfl) (by intro n hn; simp only [List.mem_cons, List.not_mem_nil, or_false] at hn; rcases hn with rfl | rfl | rfl <;> exact ⟨by omega, by omega⟩) (by simp only [List.length_cons, List.length_nil]; omega) t2
  have cA := fun (h' : Heap) (hx : Ext H2 h') => rAsk_c p.q a.ask h' (ra.ext (x2.trans hx)) hma (t2.ext hx)
  generalize tailW ([a.client, a.node, a.group].map itoa) = T1 at htl hml cN2 ⊢
  repeat (first | refine TAL.r rfl rfl rfl (fun h' hx hn => qag rfl ⟨rfl, rfl⟩) ?_ | refine TAL.r rfl rfl rfl (fun h' hx hn => qab rfl rfl (cN2 h' hx) ⟨rfl, rfl⟩) ?_ | refine TAL.r rfl rfl rfl (fun h' hx hn => qab rfl rfl (cA h' hx) ⟨rfl, rfl⟩) ?_ | refine TAL.r rfl rfl rfl (fun h' hx hn => qbZ (b := [32]) rfl rfl (by simp only [maxLen, List.length_append, List.length_cons, List.length_nil]; omega) ⟨rfl, rfl⟩) ?_ | refine TAL.r rfl rfl rfl (fun h' hx hn => qbZ rfl rfl (by simp only [maxLen, List.length_append, List.length_cons, List.length_nil]; omega) ⟨rfl, rfl⟩) ?_)
  refine TAL.nil ?_
  repeat (first | refine AWp.ret ?_)
  exact ⟨_, ResV.tmp rfl, rfl, xh.trans x2, congrArg str hml.symm, rfl⟩
 by_cases k5 : a.kind = 11
 ·
  have he : restW a = [itoa a.client, itoa a.node, itoa a.group] := by unfold restW; rw [if_neg k1, if_neg k2, if_neg k3, if_neg k4, if_pos k5]
  have hc := hp11 (.inr k5)
  repeat (first | refine W.w ?_ | refine AWp.c8 rfl ?_ | refine AWp.c9 rfl ?_ | (refine zz rfl ?_; first | refine qai rfl ?_ | refine qaa rfl ?_ | refine qag rfl ?_ | refine qao rfl ?_ | refine qaf rfl rfl hg rfl ?_ | refine qab rfl rfl cn ?_ | refine qam rfl rfl rfl (by omega) ?_ | refine qak rfl rfl rfl (by omega) ?_ | refine qaN (iv64 [a.client, a.node, a.group]) rfl rfl rfl rfl (qbR _) ?_))
  have gr := Heap.alloc_new H ⟨iv64 [a.client, a.node, a.group], 3, true⟩
  have xr := wfH.ext ⟨iv64 [a.client, a.node, a.group], 3, true⟩
  have wr := wfH.alloc ⟨iv64 [a.client, a.node, a.group], 3, true⟩
  refine AL.heap (h := H.alloc ⟨iv64 [a.client, a.node, a.group], 3, true⟩) rfl ?_
  generalize H.alloc ⟨iv64 [a.client, a.node, a.group], 3, true⟩ = H1 at gr xr wr ⊢
  have cN := N_c (kword a.kind) (.slice (some ⟨H.next, 0, some 1⟩) 3 3) [a.client, a.node, a.group] H1 (RS.own gr rfl) (by intro n hn; simp only [List.mem_cons, List.not_mem_nil, or_false] at hn; rcases hn with rfl | rfl | rfl <;> exact ⟨by omega, by omega⟩) (by simp only [List.length_cons, List.length_nil]; omega) (t.ext (xh.trans xr))
  repeat (first | refine W.w ?_ | refine zz rfl (qag rfl ?_) | refine zz rfl (qab rfl rfl cN ?_))
  refine ⟨_, ResV.tmp rfl, rfl, xh.trans xr, ?_, rfl⟩
  unfold lineM
  rw [he, qaP]
  rfl
 by_cases k6 : a.kind = 12
 ·
  have he : restW a = itoa a.node :: keepW a.keep := by unfold restW; rw [if_neg k1, if_neg k2, if_neg k3, if_neg k4, if_neg k5, if_pos k6]
  have hko : keepOk a.keep = true ∧ a.keep.length ≤ 128 := by
   unfold kp at hkp
   simpa [Bool.and_eq_true] using hkp
  have r1 := rk.rn
  have hml : (a.keep.map keptR).length = a.keep.length := List.length_map _
  obtain ⟨va, vc, hvk⟩ := r1.slice
  repeat (first | refine W.w ?_ | refine AWp.c8 rfl ?_ | refine AWp.c9 rfl ?_ | (refine zz rfl ?_; first | refine qai rfl ?_ | refine qaa rfl ?_ | refine qag rfl ?_ | refine qao rfl ?_ | refine qaf rfl rfl hg rfl ?_ | refine qab rfl rfl cn ?_ | refine qam rfl rfl rfl (by omega) ?_ | refine qak rfl rfl rfl (by omega) ?_ | refine qaN (iv64 [a.node]) rfl rfl rfl rfl (qbR _) ?_))
  have gr := Heap.alloc_new H ⟨iv64 [a.node], 3, true⟩
  have xr := wfH.ext ⟨iv64 [a.node], 3, true⟩
  have wr := wfH.alloc ⟨iv64 [a.node], 3, true⟩
  refine AL.heap (h := H.alloc ⟨iv64 [a.node], 3, true⟩) rfl ?_
  generalize H.alloc ⟨iv64 [a.node], 3, true⟩ = H1 at gr xr wr ⊢
  have cN := N_c (kword a.kind) (.slice (some ⟨H.next, 0, some 1⟩) 1 1) [a.node] H1 (RS.own gr rfl) (by intro n hn; simp only [List.mem_cons, List.not_mem_nil, or_false] at hn; rcases hn with rfl <;> exact ⟨by omega, by omega⟩) (by simp only [List.length_cons, List.length_nil]; omega) (t.ext (xh.trans xr))
  repeat (first | refine W.w ?_ | (refine zz rfl ?_; first | refine qad rfl ?_ | refine qag rfl ?_ | refine qab rfl rfl cN ?_))
  have hnl := qbs (n := a.node) (by omega) (by omega)
  refine AWp.loop (α := Nat × Heap) (fun d => [(1, ptr h.next), (3, str (kword a.kind ++ tailW (itoa a.node :: keepW (a.keep.take d.1)))), (4, .int .i64 (d.1 : Nat))]) (fun d => d.2) (fun d => d.1 ≤ a.keep.length ∧ Ext H d.2 ∧ WF d.2) (fun d => a.keep.length - d.1) (0, H1) ⟨Nat.zero_le _, xr, wr⟩
   (Weak.same (EW.cons rfl (EW.cons rfl (EW.cons rfl EW.nil)))) ?_
  rintro ⟨k, H2⟩ ⟨hk2, x2, wf2⟩
  replace hk2 : k ≤ a.keep.length := hk2
  replace x2 : Ext H H2 := x2
  replace wf2 : WF H2 := wf2
  show AWp _ _ _ _ [(1, ptr h.next), (3, str (kword a.kind ++ tailW (itoa a.node :: keepW (a.keep.take k)))), (4, .int .i64 (k : Nat))] H2
  have hg2 := x2.c _ _ hg
  by_cases hlt : k < a.keep.length
  ·
   obtain ⟨x, hxa⟩ : ∃ x, a.keep[k]? = some x := ⟨_, List.getElem?_eq_getElem hlt⟩
   have hx2 : (a.keep.map keptR)[((k : Nat) : Int).toNat]? = some (keptR x) := by simp [hxa]
   have px := (r1.ext x2).elt hx2
   obtain ⟨hn1, hn2, hn3⟩ := qbV hko.1 x (List.mem_of_getElem? hxa)
   have hnl2 := qdJ hn1
   have hkw : keepW (a.keep.take (k + 1)) = keepW (a.keep.take k) ++ [x.1, itoa x.2] := qcU hxa
   have hsl : (kword a.kind ++ tailW (itoa a.node :: keepW (a.keep.take k))).length ≤ 100000 := by
    rw [← qaP]
    have := qbO 100 (kword a.kind :: itoa a.node :: keepW (a.keep.take k)) (by
     intro w hw
     rcases List.mem_cons.1 hw with rfl | hw
     ·
      omega
     rcases List.mem_cons.1 hw with rfl | hw
     ·
      omega
     obtain ⟨y, hy, hw⟩ := List.mem_flatMap.1 hw
     obtain ⟨m1, m2, m3⟩ := qbV hko.1 y (List.mem_of_mem_take hy)
     have := qdJ m1
     have := qbs (n := y.2) (by omega) (by omega)
     simp only [List.mem_cons, List.not_mem_nil, or_false] at hw
     rcases hw with rfl | rfl <;> omega)
    have hl2 : (keepW (a.keep.take k)).length ≤ 2 * 128 := by
     have hh : ∀ l : List (Bytes × Int), (keepW l).length = 2 * l.length := by
      intro l
      induction l with
      | nil => rfl
      | cons y l ih => unfold keepW at ih ⊢; rw [List.flatMap_cons, List.length_append, ih]; simp; omega
     rw [hh, List.length_take]
     omega
    simp only [List.length_cons] at this
    have := Nat.mul_le_mul_right (100 + 1) (show (keepW (a.keep.take k)).length + 1 + 1 ≤ 258 by omega)
    omega
   have hstep : kword a.kind ++ tailW (itoa a.node :: keepW (a.keep.take (k + 1))) = kword a.kind ++ tailW (itoa a.node :: keepW (a.keep.take k)) ++ [32] ++ x.1 ++ tailW ([x.2].map itoa) := by
    rw [hkw]
    simp [tailW]
   generalize kword a.kind ++ tailW (itoa a.node :: keepW (a.keep.take k)) = S0 at hsl hstep ⊢
   repeat (first | refine W.w ?_ | refine AWp.c8 rfl ?_ | (refine zz rfl ?_; first | refine qac rfl ?_ | refine qao rfl ?_ | refine qaf rfl rfl hg2 rfl ?_ | refine qaB (r1.ext x2) rfl ?_ | refine qam rfl rfl rfl (by omega) ?_))
   refine AWp.tree (t := OT.seq [(0, .R), (1, .R), (2, .R), (3, .R), (4, .R), (5, .R), (6, .R), (7, .R), (8, .R), (9, .R), (10, .R), (11, .R), (12, .R), (13, .R), (14, .R), (15, .X), (16, .R), (17, .R)] .nil) mixed (by kernel_rfl) ?_
   repeat (first | refine TAL.r rfl rfl rfl (fun h' hx hn => qac rfl ⟨rfl, rfl⟩) ?_ | refine TAL.r rfl rfl rfl (fun h' hx hn => qai rfl ⟨rfl, rfl⟩) ?_ | refine TAL.r rfl rfl rfl (fun h' hx hn => qao rfl ⟨rfl, rfl⟩) ?_ | refine TAL.r rfl rfl rfl (fun h' hx hn => qaf rfl rfl (hx.c _ _ hg2) rfl ⟨rfl, rfl⟩) ?_ | refine TAL.r rfl rfl rfl (fun h' hx hn => qaG ((r1.ext x2).ext hx) rfl rfl (by omega) hx2 ⟨rfl, rfl⟩) ?_ | refine TAL.r rfl rfl rfl (fun h' hx hn => qdm (px.ext hx) rfl ⟨rfl, rfl⟩) ?_ | refine TAL.r rfl rfl rfl (fun h' hx hn => qbN (px.ext hx) rfl rfl rfl ⟨rfl, rfl⟩) ?_ | refine TAL.r rfl rfl rfl (fun h' hx hn => qbZ (b := [32]) rfl rfl (by simp only [maxLen, List.length_append, List.length_cons, List.length_nil]; omega) ⟨rfl, rfl⟩) ?_ | refine TAL.r rfl rfl rfl (fun h' hx hn => qbZ (b := x.1) rfl rfl (by simp only [maxLen, List.length_append, List.length_cons, List.length_nil]; omega) ⟨rfl, rfl⟩) ?_)
   refine TAL.x rfl rfl rfl (qaN (iv64 [x.2]) rfl rfl rfl rfl (qbR _) ⟨wf2.ext _, ?_⟩)
   obtain ⟨H3, hQ, g3, x3, w3, _⟩ := aq wf2 ⟨iv64 [x.2], 3, true⟩
   rw [hQ]
   have cN2 := rNx_c (S0 ++ [32] ++ x.1) (.slice (some ⟨H2.next, 0, some 1⟩) 1 1) [x.2] (H := H3) (RS.own g3 rfl) (by intro n hn; rw [List.mem_singleton.1 hn]; exact ⟨by omega, by omega⟩) (by simp only [List.length_append, List.length_cons, List.length_nil]; omega) (t.ext (xh.trans (x2.trans x3)))
   repeat (first | refine TAL.r rfl rfl rfl (fun h' hx hn => qag rfl ⟨rfl, rfl⟩) ?_ | refine TAL.r rfl rfl rfl (fun h' hx hn => qab rfl rfl (cN2 h' hx) ⟨rfl, rfl⟩) ?_)
   refine TAL.nil ?_
   repeat (first | refine W.w ?_ | (refine zz rfl ?_; first | refine qac rfl ?_ | refine qad rfl ?_ | refine qas rfl rfl (by omega) ?_))
   exact ⟨(k + 1, H3), ⟨hlt, x2.trans x3, w3⟩, by show a.keep.length - (k + 1) < a.keep.length - k; omega, Weak.same (EW.cons rfl (EW.cons (congrArg str hstep.symm) (EW.cons rfl EW.nil)))⟩
  ·
   obtain rfl : k = a.keep.length := by omega
   rw [List.take_length]
   repeat (first | refine AL.nil ?_ | refine AWp.seq ?_ | refine AWp.r9 ?_ | refine AWp.c9 rfl ?_ | refine AWp.ret ?_ | refine AWp.exit ?_ | (refine zz rfl ?_; first | refine qac rfl ?_ | refine qai rfl ?_ | refine qag rfl ?_ | refine qao rfl ?_ | refine qaf rfl rfl hg2 rfl ?_ | refine qaB (r1.ext x2) rfl ?_ | refine qak rfl rfl rfl (by omega) ?_))
   refine ⟨_, ResV.tmp rfl, rfl, xh.trans x2, ?_, rfl⟩
   unfold lineM
   rw [he, qaP]
   rfl
 ·
  have he : restW a = [itoa a.node, itoa a.group] := by unfold restW; rw [if_neg k1, if_neg k2, if_neg k3, if_neg k4, if_neg k5, if_neg k6]
  repeat (first | refine W.w ?_ | refine AWp.c9 rfl ?_ | (refine zz rfl ?_; first | refine qai rfl ?_ | refine qaa rfl ?_ | refine qag rfl ?_ | refine qao rfl ?_ | refine qaf rfl rfl hg rfl ?_ | refine qab rfl rfl cn ?_ | refine qak rfl rfl rfl (by omega) ?_ | refine qaN (iv64 [a.node, a.group]) rfl rfl rfl rfl (qbR _) ?_))
  have gr := Heap.alloc_new H ⟨iv64 [a.node, a.group], 3, true⟩
  have xr := wfH.ext ⟨iv64 [a.node, a.group], 3, true⟩
  have wr := wfH.alloc ⟨iv64 [a.node, a.group], 3, true⟩
  refine AL.heap (h := H.alloc ⟨iv64 [a.node, a.group], 3, true⟩) rfl ?_
  generalize H.alloc ⟨iv64 [a.node, a.group], 3, true⟩ = H1 at gr xr wr ⊢
  have cN := N_c (kword a.kind) (.slice (some ⟨H.next, 0, some 1⟩) 2 2) [a.node, a.group] H1 (RS.own gr rfl) (by intro n hn; simp only [List.mem_cons, List.not_mem_nil, or_false] at hn; rcases hn with rfl | rfl <;> exact ⟨by omega, by omega⟩) (by simp only [List.length_cons, List.length_nil]; omega) (t.ext (xh.trans xr))
  repeat (first | refine W.w ?_ | refine zz rfl (qag rfl ?_) | refine zz rfl (qab rfl rfl cN ?_))
  refine ⟨_, ResV.tmp rfl, rfl, xh.trans xr, ?_, rfl⟩
  unfold lineM
  rw [he, qaP]
  rfl
end Go.Proofs.YtigmojilaadbhaaGreatDoor
/- . -/
namespace Go.Pln
open Go Go.Lib
def ordB : Bytes → Bytes → Int
 | [], [] => 0
 | [], _ :: _ => -1
 | _ :: _, [] => 1
 | a :: x, b :: y => if a < b then -1 else if b < a then 1 else ordB x y
theorem qfb : ∀ a b : Bytes, Op.bytesLess a b = decide (ordB a b < 0)
 | [], [] => rfl
 | [], _ :: _ => rfl
 | _ :: _, [] => rfl
 | a :: x, b :: y => by
  rw [Op.bytesLess, ordB]
  by_cases h1 : a < b
  ·
   rw [if_pos h1, decide_eq_true h1]; rfl
  ·
   rw [if_neg h1, decide_eq_false h1]
   by_cases h2 : b < a
   ·
    rw [if_pos h2]
    have : (a == b) = false := beq_eq_false_iff_ne.2 fun e => by subst e; exact h1 h2
    rw [this]; rfl
   ·
    rw [if_neg h2]
    have : a = b := UInt8.toNat_inj.1 (by have e1 : ¬ a.toNat < b.toNat := h1; have e2 : ¬ b.toNat < a.toNat := h2; omega)
    rw [beq_iff_eq.2 this, Bool.false_or, Bool.true_and]
    exact qfb x y
def cmpF (a b : Bytes) : Int := match (List.range (min a.length b.length)).find? fun i => a[i]! != b[i]! with
 | some i => if a[i]! < b[i]! then -1 else 1
 | none => if a.length < b.length then -1 else if a.length > b.length then 1 else 0
theorem cmpF_cons (a b : UInt8) (x y : Bytes) : cmpF (a :: x) (b :: y) = if a < b then -1 else if b < a then 1 else cmpF x y := by
 unfold cmpF
 have e : min (a :: x).length (b :: y).length = min x.length y.length + 1 := by simp only [List.length_cons]; omega
 rw [e, List.range_succ_eq_map, List.find?_cons]
 by_cases hab : a = b
 ·
  subst hab
  have h0 : ((a :: x)[0]! != (a :: y)[0]!) = false := by simp
  rw [h0]
  simp only
  rw [List.find?_map, if_neg (UInt8.lt_irrefl a), if_neg (UInt8.lt_irrefl a)]
  have hp : ((fun i => (a :: x)[i]! != (a :: y)[i]!) ∘ Nat.succ) = fun i => x[i]! != y[i]! := by
   funext i
   simp
  rw [hp]
  cases (List.range (min x.length y.length)).find? (fun i => x[i]! != y[i]!) with
  | none => simp
  | some i => simp
 ·
  have h0 : ((a :: x)[0]! != (b :: y)[0]!) = true := by simpa using hab
  rw [h0]
  simp only [List.getElem!_cons_zero]
  by_cases h1 : a < b
  ·
   rw [if_pos h1, if_pos h1]
  ·
   rw [if_neg h1, if_neg h1]
   have h2 : b < a := by
    have e1 : ¬ a.toNat < b.toNat := h1
    have e2 : a.toNat ≠ b.toNat := fun e => hab (UInt8.toNat_inj.1 e)
    show b.toNat < a.toNat
    omega
   rw [if_pos h2]
theorem cmpF_eq : ∀ a b : Bytes, cmpF a b = ordB a b
 | [], [] => rfl
 | [], b :: y => by simp [cmpF, ordB]
 | a :: x, [] => by simp [cmpF, ordB]
 | a :: x, b :: y => by rw [cmpF_cons, ordB, cmpF_eq x y]
theorem bget (a : Bytes) (i : Nat) : (ByteArray.mk a.toArray)[i]! = a[i]! := by
 rw [getElem!_def, getElem!_def]
 have : (ByteArray.mk a.toArray)[i]? = a[i]? := by
  by_cases h : i < a.length
  ·
   rw [List.getElem?_eq_getElem h, getElem?_pos (ByteArray.mk a.toArray) i h]
   rfl
  ·
   rw [List.getElem?_eq_none (by omega), getElem?_neg (ByteArray.mk a.toArray) i h]
 rw [this]
theorem cmp_eq (a b : Bytes) : Extern.BytealgCompare.cmp ⟨a.toArray⟩ ⟨b.toArray⟩ = ordB a b := by
 rw [← cmpF_eq]
 unfold Extern.BytealgCompare.cmp cmpF
 simp only [bget]
 rfl
theorem ordB_nil (a b : Bytes) (k : Nat) (h : a.take k = b.take k) (ha : a.length ≤ k ∨ b.length ≤ k) : ordB a b = if a.length < b.length then -1 else if b.length < a.length then 1 else 0 := by
 induction k generalizing a b with
 | zero =>
  cases a with
  | nil => cases b <;> simp [ordB]
  | cons x a =>
   cases b with
   | nil => simp [ordB]
   | cons y b => simp at ha
 | succ k ih =>
  cases a with
  | nil => cases b <;> simp [ordB]
  | cons x a =>
   cases b with
   | nil => simp [ordB]
   | cons y b =>
    simp only [List.take_succ_cons, List.cons.injEq] at h
    obtain ⟨rfl, h⟩ := h
    rw [ordB, if_neg (UInt8.lt_irrefl x), if_neg (UInt8.lt_irrefl x), ih a b h (by simp only [List.length_cons] at ha; omega)]
    simp
theorem ordB_at {a b : Bytes} {k : Nat} {x y : UInt8} (h : a.take k = b.take k) (hx : a[k]? = some x) (hy : b[k]? = some y) (hn : x ≠ y) : ordB a b = if x < y then -1 else 1 := by
 induction k generalizing a b with
 | zero =>
  cases a with
  | nil => simp at hx
  | cons u a =>
   cases b with
   | nil => simp at hy
   | cons v b =>
    simp only [List.getElem?_cons_zero, Option.some.injEq] at hx hy
    subst hx hy
    rw [ordB]
    by_cases h1 : u < v
    ·
     rw [if_pos h1, if_pos h1]
    ·
     rw [if_neg h1, if_neg h1]
     have h2 : v < u := by
      have e1 : ¬ u.toNat < v.toNat := h1
      have e2 : u.toNat ≠ v.toNat := fun e => hn (UInt8.toNat_inj.1 e)
      show v.toNat < u.toNat
      omega
     rw [if_pos h2]
 | succ k ih =>
  cases a with
  | nil => simp at hx
  | cons u a =>
   cases b with
   | nil => simp at hy
   | cons v b =>
    simp only [List.take_succ_cons, List.cons.injEq] at h
    obtain ⟨rfl, h⟩ := h
    simp only [List.getElem?_cons_succ] at hx hy
    rw [ordB, if_neg (UInt8.lt_irrefl u), if_neg (UInt8.lt_irrefl u), ih h hx hy]
end Go.Pln
/- . -/
namespace Go.Proofs.YtigmojilaadbhaaGreatDoor
open Go Go.Eng Go.Pln Go.Lib
attribute [local irreducible] AWp AL DAL AOp TAL
instance i_rmayName : FnC Tryz.prog 157 := ⟨Tryz.f157, Tryz.func157, by kernel_rfl, by kernel_rfl⟩
instance i_rkey : FnC Tryz.prog 156 := ⟨Tryz.f156, Tryz.func156, by kernel_rfl, by kernel_rfl⟩
instance i_rgroupN : FnC Tryz.prog 176 := ⟨Tryz.f176, Tryz.func176, by kernel_rfl, by kernel_rfl⟩
instance i_rckeys : FnC Tryz.prog 207 := ⟨Tryz.f207, Tryz.func207, by kernel_rfl, by kernel_rfl⟩
instance i_rcmp : FnC Tryz.prog 196 := ⟨Tryz.f196, Tryz.func196, by kernel_rfl, by kernel_rfl⟩
instance i_rimay : FnC Tryz.prog 195 := ⟨Tryz.f195, Tryz.func195, by kernel_rfl, by kernel_rfl⟩
theorem rmayName_c (s : Bytes) (h : Heap) : ACalls Tryz.prog 157 [str s] h fun u h' => u = .bool (nameOk s) ∧ h' = h := by
 refine ACalls.body Tryz.func157 rfl rfl ?_
 by_cases hs : 1 ≤ s.length ∧ s.length ≤ 32
 ·
  repeat (first | refine W.w ?_ | (refine zz rfl ?_; first | refine qae rfl ?_ | refine qai rfl ?_ | refine qad rfl ?_ | refine qaa rfl ?_ | refine qaI rfl ?_ | refine qam rfl rfl rfl (by omega) ?_ | refine qah (v := .bool _) rfl rfl ?_))
  refine AWp.loop (α := Nat) (fun k => [(0, str s), (3, .bool ((s.take k).all nameC)), (4, .int .i64 (k : Nat))]) (fun _ => h) (fun k => k ≤ s.length) (fun k => s.length - k) 0 (Nat.zero_le _) (Weak.same (EW.cons rfl (EW.cons rfl (EW.cons rfl EW.nil)))) ?_
  intro k hk
  replace hk : k ≤ s.length := hk
  by_cases hlt : k < s.length
  ·
   obtain ⟨b, hb⟩ : ∃ b, s[k]? = some b := ⟨_, List.getElem?_eq_getElem hlt⟩
   have hbb : (bstr s)[((k : Nat) : Int).toNat]? = some b := (qcG s k).trans hb
   have hst := qec (p := nameC) hb
   have hn : nameC b = decide (33 ≤ b.toNat ∧ b.toNat ≤ 126) := rfl
   generalize hga : (s.take k).all nameC = ga at hst ⊢
   cases ga with
   | false =>
    rw [Bool.false_and] at hst
    repeat (first | refine W.w ?_ | refine AL.skip rfl rfl ?_ | refine AWp.c8 rfl ?_ | (refine zz rfl ?_; first | refine qac rfl ?_ | refine qae rfl ?_ | refine qai rfl ?_ | refine qad rfl ?_ | refine qaa rfl ?_ | refine qaI rfl ?_ | refine qam rfl rfl rfl (by omega) ?_ | refine qah (v := .bool _) rfl rfl ?_ | refine qas rfl rfl (by omega) ?_))
    exact ⟨k + 1, hlt, by omega, Weak.same (EW.cons rfl (EW.cons (congrArg Value.bool hst.symm) (EW.cons rfl EW.nil)))⟩
   | true =>
    rw [Bool.true_and] at hst
    by_cases q1 : 33 ≤ b.toNat
    ·
     by_cases q2 : b.toNat ≤ 126
     ·
      rw [hn, decide_eq_true ⟨q1, q2⟩] at hst
      repeat (first | refine W.w ?_ | refine AWp.c8 rfl ?_ | (refine zz rfl ?_; first | refine qac rfl ?_ | refine qae rfl ?_ | refine qai rfl ?_ | refine qad rfl ?_ | refine qaa rfl ?_ | refine qaI rfl ?_ | refine qam rfl rfl rfl (by omega) ?_ | refine qah (v := .bool _) rfl rfl ?_ | refine qaM rfl rfl (by omega) hbb ?_ | refine qas rfl rfl (by omega) ?_))
      exact ⟨k + 1, hlt, by omega, Weak.same (EW.cons rfl (EW.cons (congrArg Value.bool hst.symm) (EW.cons rfl EW.nil)))⟩
     ·
      rw [hn, decide_eq_false (by omega)] at hst
      repeat (first | refine W.w ?_ | refine AWp.c8 rfl ?_ | (refine zz rfl ?_; first | refine qac rfl ?_ | refine qae rfl ?_ | refine qai rfl ?_ | refine qad rfl ?_ | refine qaa rfl ?_ | refine qaI rfl ?_ | refine qam rfl rfl rfl (by omega) ?_ | refine qak rfl rfl rfl (by omega) ?_ | refine qah (v := .bool _) rfl rfl ?_ | refine qaM rfl rfl (by omega) hbb ?_ | refine qas rfl rfl (by omega) ?_))
      exact ⟨k + 1, hlt, by omega, Weak.same (EW.cons rfl (EW.cons (congrArg Value.bool hst.symm) (EW.cons rfl EW.nil)))⟩
    ·
     rw [hn, decide_eq_false (by omega)] at hst
     repeat (first | refine W.w ?_ | refine AL.skip rfl rfl ?_ | refine AWp.c8 rfl ?_ | (refine zz rfl ?_; first | refine qac rfl ?_ | refine qae rfl ?_ | refine qai rfl ?_ | refine qad rfl ?_ | refine qaa rfl ?_ | refine qaI rfl ?_ | refine qam rfl rfl rfl (by omega) ?_ | refine qak rfl rfl rfl (by omega) ?_ | refine qah (v := .bool _) rfl rfl ?_ | refine qaM rfl rfl (by omega) hbb ?_ | refine qas rfl rfl (by omega) ?_))
     exact ⟨k + 1, hlt, by omega, Weak.same (EW.cons rfl (EW.cons (congrArg Value.bool hst.symm) (EW.cons rfl EW.nil)))⟩
  ·
   obtain rfl : k = s.length := by omega
   rw [List.take_length]
   repeat (first | refine AL.nil ?_ | refine AL.skip rfl rfl ?_ | refine AWp.seq ?_ | refine AWp.r9 ?_ | refine AWp.c9 rfl ?_ | refine AWp.ret ?_ | refine AWp.exit ?_ | (refine zz rfl ?_; first | refine qac rfl ?_ | refine qae rfl ?_ | refine qai rfl ?_ | refine qaa rfl ?_ | refine qaI rfl ?_ | refine qak rfl rfl rfl (by omega) ?_ | refine qah (v := .bool _) rfl rfl ?_))
   refine ⟨_, ResV.tmp rfl, ?_, rfl⟩
   unfold nameOk
   rw [decide_eq_true hs]
   rfl
 ·
  have hn : nameOk s = false := by unfold nameOk; rw [decide_eq_false hs]; rfl
  rw [hn]
  repeat' (first | refine W.w ?_ | refine AL.skip rfl rfl ?_ | (refine zz rfl ?_; first | refine qae rfl ?_ | refine qai rfl ?_ | refine qad rfl ?_ | refine qaa rfl ?_ | refine qaI rfl ?_ | refine qah (v := .bool _) rfl rfl ?_ | refine qak rfl rfl rfl (by omega) ?_ | refine qaQ rfl rfl rfl (fun c => ?_) (fun c => ?_)))
  all_goals (
   refine AWp.loop (α := Nat) (fun k => [(0, str s), (3, .bool false), (4, .int .i64 (k : Nat))]) (fun _ => h) (fun k => k ≤ s.length ∧ k ≤ 33) (fun k => s.length - k) 0 ⟨Nat.zero_le _, Nat.zero_le _⟩ (Weak.same (EW.cons (by first | rfl | (exfalso; omega)) (EW.cons (by first | rfl | (exfalso; omega)) (EW.cons rfl EW.nil)))) ?_
   rintro k ⟨hk, hk2⟩
   by_cases hlt : k < s.length ∧ k ≤ 32
   ·
    repeat (first | refine W.w ?_ | refine AL.skip rfl rfl ?_ | refine AWp.c8 rfl ?_ | (refine zz rfl ?_; first | refine qac rfl ?_ | refine qae rfl ?_ | refine qai rfl ?_ | refine qad rfl ?_ | refine qaa rfl ?_ | refine qaI rfl ?_ | refine qam rfl rfl rfl (by omega) ?_ | refine qah (v := .bool _) rfl rfl ?_ | refine qas rfl rfl (by omega) ?_))
    first | (exfalso; omega) | exact ⟨k + 1, ⟨by omega, by omega⟩, by omega, Weak.same (EW.cons rfl (EW.cons rfl (EW.cons rfl EW.nil)))⟩
   ·
    by_cases hl : k < s.length
    ·
     repeat (first | refine AL.nil ?_ | refine AL.skip rfl rfl ?_ | refine AWp.seq ?_ | refine AWp.r9 ?_ | refine AWp.c8 rfl ?_ | refine AWp.c9 rfl ?_ | refine AWp.ret ?_ | refine AWp.exit ?_ | refine AWp.b9 ?_ | refine AWp.k9 ?_ | (refine zz rfl ?_; first | refine qac rfl ?_ | refine qae rfl ?_ | refine qai rfl ?_ | refine qad rfl ?_ | refine qaa rfl ?_ | refine qaI rfl ?_ | refine qam rfl rfl rfl (by omega) ?_ | refine qak rfl rfl rfl (by omega) ?_ | refine qah (v := .bool _) rfl rfl ?_ | refine qas rfl rfl (by omega) ?_))
     first | (exfalso; omega) | exact ⟨_, ResV.tmp rfl, rfl, rfl⟩
    ·
     repeat (first | refine AL.nil ?_ | refine AL.skip rfl rfl ?_ | refine AWp.seq ?_ | refine AWp.r9 ?_ | refine AWp.c9 rfl ?_ | refine AWp.ret ?_ | refine AWp.exit ?_ | (refine zz rfl ?_; first | refine qac rfl ?_ | refine qae rfl ?_ | refine qai rfl ?_ | refine qaa rfl ?_ | refine qaI rfl ?_ | refine qak rfl rfl rfl (by omega) ?_ | refine qah (v := .bool _) rfl rfl ?_))
     first | (exfalso; omega) | exact ⟨_, ResV.tmp rfl, rfl, rfl⟩)
theorem rkey_c (v : Value) (b : Bytes) (h : Heap) (r : RB h v b) : ACalls Tryz.prog 156 [v] h fun u h' => u = .bool (keyOk b) ∧ h' = h := by
 refine ACalls.body Tryz.func156 rfl rfl ?_
 obtain ⟨va, vc, hv⟩ := RS.slice r
 repeat' (first | refine W.w ?_ | refine AL.skip rfl rfl ?_ | (refine zz rfl ?_; first | refine qae rfl ?_ | refine qaa rfl ?_ | refine qal (v := v) rfl ?_ | refine qaJ r rfl ?_ | refine qah (v := .bool _) rfl rfl ?_ | refine qaQ rfl rfl rfl (fun c => ?_) (fun c => ?_)))
 all_goals refine ⟨_, ResV.tmp rfl, congrArg Value.bool ?_, rfl⟩
 all_goals grind [keyOk]
theorem qf8 (n : Int) (h : Heap) : ACalls Tryz.prog 176 [.int .i64 n] h fun u h' => u = .bool (decide (1 ≤ n ∧ n < 5)) ∧ h' = h := by
 refine ACalls.body Tryz.func176 rfl rfl ?_
 repeat' (first | refine W.w ?_ | refine AL.skip rfl rfl ?_ | (refine zz rfl ?_; first | refine qac rfl ?_ | refine qae rfl ?_ | refine qaa rfl ?_ | refine qah (v := .bool _) rfl rfl ?_ | refine qaQ rfl rfl rfl (fun c => ?_) (fun c => ?_)))
 all_goals refine ⟨_, ResV.tmp rfl, congrArg Value.bool ?_, rfl⟩
 all_goals grind
theorem cmpI_L (a b : Bytes) : cmpI a b = ordB a b := Pln.cmp_eq a b
theorem rckeys_c (u v : Value) (a b : Bytes) (h : Heap) (ra : RB h u a) (rb : RB h v b) (hla : a.length ≤ 140737488351232) (_hlb : b.length ≤ 140737488351232) : ACalls Tryz.prog 207 [u, v] h fun x h' => x = .int .i64 (cmpI a b) ∧ h' = h := by
 refine ACalls.body Tryz.func207 rfl rfl ?_
 rw [cmpI_L]
 obtain ⟨ua, uc, hu⟩ := RS.slice ra
 obtain ⟨va, vc, hv⟩ := RS.slice rb
 repeat (first | refine W.w ?_ | refine zz rfl (qad rfl ?_))
 refine AWp.loop (α := Nat) (fun k => [(0, u), (1, v), (5, .int .i64 (k : Nat))]) (fun _ => h) (fun k => k ≤ a.length ∧ a.take k = b.take k) (fun k => a.length - k) 0 ⟨Nat.zero_le _, rfl⟩ (Weak.same (EW.cons rfl (EW.cons rfl (EW.cons rfl EW.nil)))) ?_
 rintro k ⟨hk, hp⟩
 have hp1 := congrArg List.length hp
 rw [List.length_take, List.length_take] at hp1
 by_cases hlt : k < a.length ∧ k < b.length
 ·
  obtain ⟨x, hxa⟩ : ∃ x, a[k]? = some x := ⟨_, List.getElem?_eq_getElem hlt.1⟩
  obtain ⟨y, hyb⟩ : ∃ y, b[k]? = some y := ⟨_, List.getElem?_eq_getElem hlt.2⟩
  have hte := qeo hp hxa hyb
  have hat := fun hne => ordB_at hp hxa hyb hne
  repeat (first | refine W.w ?_ | refine AWp.c8 rfl ?_ | (refine zz rfl ?_; first | refine qac rfl ?_ | refine qae rfl ?_ | refine qal (v := u) rfl ?_ | refine qal (v := v) rfl ?_ | refine qaJ ra rfl ?_ | refine qaJ rb rfl ?_ | refine qam rfl rfl rfl (by omega) ?_ | refine qah (v := .bool _) rfl rfl ?_))
  by_cases q1 : x.toNat < y.toNat
  ·
   refine AWp.draw (σ := [(0, .R), (1, .R), (2, .R), (3, .R), (4, .R), (5, .R), (6, .R), (7, .R), (8, .R)]) mixed (by kernel_rfl) ?_
   repeat (first | refine DAL.r rfl rfl rfl (fun h' hx hn => qac rfl ⟨rfl, rfl⟩) ?_ | refine DAL.r rfl rfl rfl (fun h' hx hn => qal (v := u) rfl ⟨rfl, rfl⟩) ?_ | refine DAL.r rfl rfl rfl (fun h' hx hn => qal (v := v) rfl ⟨rfl, rfl⟩) ?_ | refine DAL.r rfl rfl rfl (fun h' hx hn => qat (PT.of (ra.ext hx) (qb4 hxa rfl)) rfl rfl ⟨rfl, rfl⟩) ?_ | refine DAL.r rfl rfl rfl (fun h' hx hn => qat (PT.of (rb.ext hx) (qb4 hyb rfl)) rfl rfl ⟨rfl, rfl⟩) ?_ | refine DAL.r rfl rfl rfl (fun h' hx hn => qaA (ra.ext hx) rfl rfl (by omega) (qb4 hxa rfl) fun _ => ⟨rfl, rfl⟩) ?_ | refine DAL.r rfl rfl rfl (fun h' hx hn => qaA (rb.ext hx) rfl rfl (by omega) (qb4 hyb rfl) fun _ => ⟨rfl, rfl⟩) ?_ | refine DAL.r rfl rfl rfl (fun h' hx hn => qam rfl rfl rfl (by omega) ⟨rfl, rfl⟩) ?_)
   refine DAL.nil ?_
   repeat (first | refine W.w ?_ | refine AWp.c8 rfl ?_ | refine zz rfl (qad rfl ?_))
   refine ⟨_, ResV.tmp rfl, congrArg (Value.int .i64) ?_, rfl⟩
   rw [hat (fun e => by rw [e] at q1; omega), if_pos (show x < y from q1)]
  ·
   by_cases q2 : y.toNat < x.toNat
   ·
    refine AWp.draw (σ := [(0, .R), (1, .R), (2, .R), (3, .R), (4, .R), (5, .R), (6, .R), (7, .R), (8, .R)]) mixed (by kernel_rfl) ?_
    repeat (first | refine DAL.r rfl rfl rfl (fun h' hx hn => qac rfl ⟨rfl, rfl⟩) ?_ | refine DAL.r rfl rfl rfl (fun h' hx hn => qal (v := u) rfl ⟨rfl, rfl⟩) ?_ | refine DAL.r rfl rfl rfl (fun h' hx hn => qal (v := v) rfl ⟨rfl, rfl⟩) ?_ | refine DAL.r rfl rfl rfl (fun h' hx hn => qat (PT.of (ra.ext hx) (qb4 hxa rfl)) rfl rfl ⟨rfl, rfl⟩) ?_ | refine DAL.r rfl rfl rfl (fun h' hx hn => qat (PT.of (rb.ext hx) (qb4 hyb rfl)) rfl rfl ⟨rfl, rfl⟩) ?_ | refine DAL.r rfl rfl rfl (fun h' hx hn => qaA (ra.ext hx) rfl rfl (by omega) (qb4 hxa rfl) fun _ => ⟨rfl, rfl⟩) ?_ | refine DAL.r rfl rfl rfl (fun h' hx hn => qaA (rb.ext hx) rfl rfl (by omega) (qb4 hyb rfl) fun _ => ⟨rfl, rfl⟩) ?_ | refine DAL.r rfl rfl rfl (fun h' hx hn => qak rfl rfl rfl (by omega) ⟨rfl, rfl⟩) ?_)
    refine DAL.nil ?_
    repeat (first | refine W.w ?_ | refine AWp.c9 rfl ?_)
    refine AWp.draw (σ := [(0, .R), (1, .R), (2, .R), (3, .R), (4, .R), (5, .R), (6, .R), (7, .R), (8, .R)]) mixed (by kernel_rfl) ?_
    repeat (first | refine DAL.r rfl rfl rfl (fun h' hx hn => qac rfl ⟨rfl, rfl⟩) ?_ | refine DAL.r rfl rfl rfl (fun h' hx hn => qal (v := u) rfl ⟨rfl, rfl⟩) ?_ | refine DAL.r rfl rfl rfl (fun h' hx hn => qal (v := v) rfl ⟨rfl, rfl⟩) ?_ | refine DAL.r rfl rfl rfl (fun h' hx hn => qat (PT.of (ra.ext hx) (qb4 hxa rfl)) rfl rfl ⟨rfl, rfl⟩) ?_ | refine DAL.r rfl rfl rfl (fun h' hx hn => qat (PT.of (rb.ext hx) (qb4 hyb rfl)) rfl rfl ⟨rfl, rfl⟩) ?_ | refine DAL.r rfl rfl rfl (fun h' hx hn => qaA (ra.ext hx) rfl rfl (by omega) (qb4 hxa rfl) fun _ => ⟨rfl, rfl⟩) ?_ | refine DAL.r rfl rfl rfl (fun h' hx hn => qaA (rb.ext hx) rfl rfl (by omega) (qb4 hyb rfl) fun _ => ⟨rfl, rfl⟩) ?_ | refine DAL.r rfl rfl rfl (fun h' hx hn => qam rfl rfl rfl (by omega) ⟨rfl, rfl⟩) ?_)
    refine DAL.nil ?_
    repeat (first | refine W.w ?_ | refine AWp.c8 rfl ?_ | refine zz rfl (qad rfl ?_))
    refine ⟨_, ResV.tmp rfl, congrArg (Value.int .i64) ?_, rfl⟩
    rw [hat (fun e => by rw [e] at q2; omega), if_neg (show ¬ x < y from q1)]
   ·
    refine AWp.draw (σ := [(0, .R), (1, .R), (2, .R), (3, .R), (4, .R), (5, .R), (6, .R), (7, .R), (8, .R)]) mixed (by kernel_rfl) ?_
    repeat (first | refine DAL.r rfl rfl rfl (fun h' hx hn => qac rfl ⟨rfl, rfl⟩) ?_ | refine DAL.r rfl rfl rfl (fun h' hx hn => qal (v := u) rfl ⟨rfl, rfl⟩) ?_ | refine DAL.r rfl rfl rfl (fun h' hx hn => qal (v := v) rfl ⟨rfl, rfl⟩) ?_ | refine DAL.r rfl rfl rfl (fun h' hx hn => qat (PT.of (ra.ext hx) (qb4 hxa rfl)) rfl rfl ⟨rfl, rfl⟩) ?_ | refine DAL.r rfl rfl rfl (fun h' hx hn => qat (PT.of (rb.ext hx) (qb4 hyb rfl)) rfl rfl ⟨rfl, rfl⟩) ?_ | refine DAL.r rfl rfl rfl (fun h' hx hn => qaA (ra.ext hx) rfl rfl (by omega) (qb4 hxa rfl) fun _ => ⟨rfl, rfl⟩) ?_ | refine DAL.r rfl rfl rfl (fun h' hx hn => qaA (rb.ext hx) rfl rfl (by omega) (qb4 hyb rfl) fun _ => ⟨rfl, rfl⟩) ?_ | refine DAL.r rfl rfl rfl (fun h' hx hn => qak rfl rfl rfl (by omega) ⟨rfl, rfl⟩) ?_)
    refine DAL.nil ?_
    repeat (first | refine W.w ?_ | refine AWp.c9 rfl ?_)
    refine AWp.draw (σ := [(0, .R), (1, .R), (2, .R), (3, .R), (4, .R), (5, .R), (6, .R), (7, .R), (8, .R)]) mixed (by kernel_rfl) ?_
    repeat (first | refine DAL.r rfl rfl rfl (fun h' hx hn => qac rfl ⟨rfl, rfl⟩) ?_ | refine DAL.r rfl rfl rfl (fun h' hx hn => qal (v := u) rfl ⟨rfl, rfl⟩) ?_ | refine DAL.r rfl rfl rfl (fun h' hx hn => qal (v := v) rfl ⟨rfl, rfl⟩) ?_ | refine DAL.r rfl rfl rfl (fun h' hx hn => qat (PT.of (ra.ext hx) (qb4 hxa rfl)) rfl rfl ⟨rfl, rfl⟩) ?_ | refine DAL.r rfl rfl rfl (fun h' hx hn => qat (PT.of (rb.ext hx) (qb4 hyb rfl)) rfl rfl ⟨rfl, rfl⟩) ?_ | refine DAL.r rfl rfl rfl (fun h' hx hn => qaA (ra.ext hx) rfl rfl (by omega) (qb4 hxa rfl) fun _ => ⟨rfl, rfl⟩) ?_ | refine DAL.r rfl rfl rfl (fun h' hx hn => qaA (rb.ext hx) rfl rfl (by omega) (qb4 hyb rfl) fun _ => ⟨rfl, rfl⟩) ?_ | refine DAL.r rfl rfl rfl (fun h' hx hn => qak rfl rfl rfl (by omega) ⟨rfl, rfl⟩) ?_)
    refine DAL.nil ?_
    repeat (first | refine W.w ?_ | refine AWp.c9 rfl ?_ | (refine zz rfl ?_; first | refine qac rfl ?_ | refine qad rfl ?_ | refine qas rfl rfl (by omega) ?_))
    exact ⟨k + 1, ⟨hlt.1, hte.2 (UInt8.toNat_inj.1 (by omega))⟩, by omega, Weak.same (EW.cons rfl (EW.cons rfl (EW.cons rfl EW.nil)))⟩
 ·
  have hc := ordB_nil a b k hp (by omega)
  rw [hc]
  repeat' (first | refine AL.nil ?_ | refine AL.skip rfl rfl ?_ | refine AWp.seq ?_ | refine AWp.r9 ?_ | refine AWp.c8 rfl ?_ | refine AWp.c9 rfl ?_ | refine AWp.ret ?_ | refine AWp.exit ?_ | refine AWp.k9 ?_ | (refine zz rfl ?_; first | refine qac rfl ?_ | refine qae rfl ?_ | refine qad rfl ?_ | refine qal (v := u) rfl ?_ | refine qal (v := v) rfl ?_ | refine qaJ ra rfl ?_ | refine qaJ rb rfl ?_ | refine qam rfl rfl rfl (by omega) ?_ | refine qak rfl rfl rfl (by omega) ?_ | refine qah (v := .bool _) rfl rfl ?_ | refine qaQ rfl rfl rfl (fun c => ?_) (fun c => ?_)))
  all_goals first | (exfalso; omega) | skip
  all_goals refine ⟨_, ResV.tmp rfl, congrArg (Value.int .i64) ?_, rfl⟩
  all_goals grind
theorem ricmp_c (k1 v1 k2 v2 : Value) (a b : EntM) (h : Heap) (ra : RB h k1 a.key) (rb : RB h k2 b.key) (hla : a.key.length ≤ 140737488351232) (hlb : b.key.length ≤ 140737488351232) : ACalls Tryz.prog 196 [.agg (entC k1 v1 a).toArray, .agg (entC k2 v2 b).toArray] h fun u h' => u = .int .i64 (icmpM a b) ∧ h' = h := by
 refine ACalls.wf fun wf => ACalls.reset ?_
 refine ACalls.body Tryz.func196 rfl rfl ?_
 repeat (first | refine W.w ?_ | refine zz rfl (qad rfl ?_) | refine zz rfl (qaV rfl (by intro e; cases e) ?_))
 generalize hH : h.alloc _ = H1
 have hg0 : H1.get h.next = some ⟨entC k1 v1 a, 171, true⟩ := hH ▸ Heap.alloc_new _ _
 have hx1 : Ext h H1 := hH ▸ wf.ext _
 have wf1 : WF H1 := hH ▸ wf.alloc _
 skip
 generalize hH2 : H1.alloc _ = H
 have hg2 : H.get H1.next = some ⟨entC k2 v2 b, 171, true⟩ := hH2 ▸ Heap.alloc_new _ _
 have hx2 : Ext H1 H := hH2 ▸ wf1.ext _
 have hg1 : H.get h.next = some ⟨entC k1 v1 a, 171, true⟩ := hx2.c _ _ hg0
 have hx : Ext h H := hx1.trans hx2
 clear hH hH2
 have cc := rckeys_c k1 k2 a.key b.key H (ra.ext hx) (rb.ext hx) hla hlb
 repeat' (first | refine W.w ?_ | refine AWp.c8 rfl ?_ | refine AWp.c9 rfl ?_ | (refine zz rfl ?_; first | refine qac rfl ?_ | refine qad rfl ?_ | refine qao rfl ?_ | refine qaf rfl rfl hg1 rfl ?_ | refine qaf rfl rfl hg2 rfl ?_ | refine qab rfl rfl cc ?_ | refine qaQ rfl rfl rfl (fun c => ?_) (fun c => ?_)))
 all_goals refine ⟨_, ResV.tmp rfl, rfl, hx, congrArg (Value.int .i64) ?_, rfl⟩
 all_goals clear cc hg0 hg1 hg2 hx1 hx2 hx wf wf1 ra rb
 all_goals grind [icmpM, cmp3]
theorem rimay_c (kv vv : Value) (e : EntM) (h : Heap) (r1 : RB h kv e.key) (r2 : RB h vv e.value) : ACalls Tryz.prog 195 [.agg (entC kv vv e).toArray] h fun u h' => u = .bool (entOk e) ∧ h' = h := by
 refine ACalls.wf fun wf => ACalls.reset ?_
 refine ACalls.body Tryz.func195 rfl rfl ?_
 repeat (first | refine W.w ?_ | refine zz rfl (qaa rfl ?_) | refine zz rfl (qaV rfl (by intro e; cases e) ?_))
 generalize hH : h.alloc _ = H
 have hg : H.get h.next = some ⟨entC kv vv e, 171, true⟩ := hH ▸ Heap.alloc_new _ _
 have hx : Ext h H := hH ▸ wf.ext _
 have wfH : WF H := hH ▸ wf.alloc _
 clear hH
 have q1 := r1.ext hx
 have q2 := r2.ext hx
 repeat' (first | refine W.w ?_ | refine AL.skip rfl rfl ?_ | refine AWp.c8 rfl ?_ | refine AWp.c9 rfl ?_ | (refine zz rfl ?_; first | refine qae rfl ?_ | refine qaa rfl ?_ | refine qao rfl ?_ | refine qaf rfl rfl hg rfl ?_ | refine qaJ q1 rfl ?_ | refine qaJ q2 rfl ?_ | refine qah (v := .bool _) rfl rfl ?_ | refine qak rfl rfl rfl (by omega) ?_ | refine qaQ rfl rfl rfl (fun c => ?_) (fun c => ?_)))
 all_goals refine ⟨_, ResV.tmp rfl, rfl, hx, congrArg Value.bool ?_, rfl⟩
 all_goals clear q1 q2 r1 r2 hg hx wf wfH
 all_goals grind [entOk]
end Go.Proofs.YtigmojilaadbhaaGreatDoor
