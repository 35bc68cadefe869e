/-
  Texts of one claim, merged: 2 parts.
-/
import Derived.Test.YtigmojilaadbhaaGreatDoorMuw
import Derived.Test.YtigmojilaadbhaaGreatDoorMus
set_option maxHeartbeats 16000000
/- . -/
namespace Go.Proofs.YtigmojilaadbhaaGreatDoor
open Go Go.Eng Go.Pln Go.Lib
attribute [local irreducible] AWp AL DAL AOp TAL
theorem rabare_c (p : ActV) (a : ActM) (nodes groups : Int) (h : Heap) (r : ActR h p a) : ACalls Tryz.prog 91 [.agg (actC p a).toArray, .int .i64 nodes, .int .i64 groups] h fun u h' => ∃ q, u = .tuple #[.agg (actC q (namedA a)).toArray, .bool (rokA nodes groups a)] ∧ ActR h' q (namedA a) ∧ Ext h h' := by
 refine ACalls.wf fun wf => ?_
 refine ACalls.body Tryz.func91 rfl rfl ?_
 repeat (first | refine W.w ?_ | refine zz rfl (qaV rfl (by intro e; cases e) ?_))
 generalize hH : h.alloc _ = H1
 have hg1 : H1.get h.next = some ⟨actC p a, 40, true⟩ := hH ▸ Heap.alloc_new _ _
 have hx1 : Ext h H1 := hH ▸ wf.ext _
 have wf1 : WF H1 := hH ▸ wf.alloc _
 have n1 : h.next < H1.next := wf1.lt hg1
 clear hH
 repeat (first | refine W.w ?_ | refine zz rfl (qaa rfl ?_) | refine zz rfl (qaw ?_))
 generalize hH : H1.alloc _ = H2
 have g2 : H2.get H1.next = some ⟨actC actV0 act0, 40, true⟩ := hH ▸ Heap.alloc_new _ _
 have hx2 : Ext H1 H2 := hH ▸ wf1.ext _
 have wf2 : WF H2 := hH ▸ wf1.alloc _
 have n2 : H1.next < H2.next := wf2.lt g2
 have hg2 := hx2.c _ _ hg1
 clear hH
 repeat (first | refine W.w ?_ | refine AL.eff rfl (qaE (vs := actC actV0 { act0 with kind := a.kind }) rfl rfl rfl rfl rfl ?_) | (refine zz rfl ?_; first | refine qao rfl ?_ | refine qaf rfl rfl hg2 rfl ?_ | refine qax (out := actC actV0 { act0 with kind := a.kind }) rfl rfl ?_ | refine qaw ?_))
 have gl := Heap.alloc_new H2
 have hgx : ∀ b, (H2.alloc b).get h.next = some ⟨actC p a, 40, true⟩ := fun b => (wf2.ext b).c _ _ hg2
 have gj : ∀ b, (H2.alloc b).get H1.next = some ⟨actC actV0 act0, 40, true⟩ := fun b => (wf2.ext b).c _ _ g2
 have xl : ∀ b, Ext h (H2.alloc b) := fun b => hx1.trans (hx2.trans (wf2.ext b))
 have xf : ∀ b b', Ext h ((H2.alloc b).set H1.next b') := fun b b' => wf.ext_set (xl b) (Nat.le_of_lt n1) _
 have hz : ∀ h', ActR h' actV0 act0 := fun h' => ActR.nil h'
 clear hg1 hg2 g2 hx1 hx2 wf1
 refine AWp.cutI (α := Unit) (fun _ => [(3, ptr h.next), (6, ptr H1.next), (8, ptr H2.next), (9, .bool (nodeB nodes a)), (10, .bool (groupB groups a))]) (fun _ => H2.alloc ⟨actC actV0 { act0 with kind := a.kind }, 40, true⟩) (fun _ => True) ?_ fun _ _ => ?_
 ·
  refine AWp.drawR mixed (by kernel_rfl) ?_
  repeat' (first | refine DAL.skip rfl rfl rfl ?_ | refine DAL.nil ?_ | refine DAL.r rfl rfl rfl (fun h' hx hn => qac rfl ⟨rfl, rfl⟩) ?_ | refine DAL.r rfl rfl rfl (fun h' hx hn => qae rfl ⟨rfl, rfl⟩) ?_ | refine DAL.r rfl rfl rfl (fun h' hx hn => qaa rfl ⟨rfl, rfl⟩) ?_ | refine DAL.r rfl rfl rfl (fun h' hx hn => qao rfl ⟨rfl, rfl⟩) ?_ | refine DAL.r rfl rfl rfl (fun h' hx hn => qaf rfl rfl (hx.c _ _ (hgx _)) rfl ⟨rfl, rfl⟩) ?_ | refine DAL.r rfl rfl rfl (fun h' hx hn => qah (v := .bool _) rfl rfl ⟨rfl, rfl⟩) ?_ | refine DAL.rP rfl rfl rfl (fun h' hx hn => qaX rfl rfl rfl ⟨rfl, rfl⟩) (fun c => ?_) (fun c => ?_))
  all_goals refine ⟨(), trivial, Weak.same (EW.cons rfl (EW.cons rfl (EW.cons rfl (EW.cons (congrArg Value.bool ?_) (EW.cons (congrArg Value.bool ?_) EW.nil)))))⟩
  all_goals clear hz xf xl gj hgx gl n2 wf2 n1 wf r
  all_goals grind [nodeB, groupB]
 refine AWp.seqI (α := Unit) (fun _ => [(3, ptr h.next), (6, ptr H1.next), (8, ptr H2.next), (9, .bool (nodeB nodes a)), (10, .bool (groupB groups a)), (11, .bool (clientB a))]) (fun _ => H2.alloc ⟨actC actV0 { act0 with kind := a.kind }, 40, true⟩) (fun _ => True) ?_ fun _ _ => ?_
 ·
  repeat' (first | refine W.w ?_ | refine AL.skip rfl rfl ?_ | (refine zz rfl ?_; first | refine qae rfl ?_ | refine qaa rfl ?_ | refine qao rfl ?_ | refine qaf rfl rfl (hgx _) rfl ?_ | refine qah (v := .bool _) rfl rfl ?_ | refine qaQ rfl rfl rfl (fun c => ?_) (fun c => ?_)))
  all_goals refine ⟨(), trivial, Weak.same (EW.cons rfl (EW.cons rfl (EW.cons rfl (EW.cons rfl (EW.cons rfl (EW.cons (congrArg Value.bool ?_) EW.nil))))))⟩
  all_goals clear hz xf xl gj hgx gl n2 wf2 n1 wf r
  all_goals grind [clientB]
 by_cases k1 : a.kind = 1 ∨ a.kind = 2 ∨ a.kind = 6 ∨ a.kind = 7
 ·
  have hn : namedA a = { act0 with kind := a.kind, node := a.node, group := a.group } := by unfold namedA; grind
  have ho : rokA nodes groups a = (nodeB nodes a && groupB groups a) := by unfold rokA; rw [if_pos k1]
  have hq : ∀ h', Ext h h' → ActR h' actV0 { act0 with kind := a.kind, node := a.node, group := a.group } := fun h' x => ⟨(hz h').ra, (hz h').rc, (hz h').rk⟩
  rw [ho]
  rcases k1 with k | k | k | k <;>
  ·
   repeat (first | refine W.w ?_ | refine AWp.c8 rfl ?_ | refine AWp.c9 rfl ?_ | (refine zz rfl ?_; first | refine qaa rfl ?_ | refine qao rfl ?_ | refine qaf rfl rfl (hgx _) rfl ?_ | refine qam rfl rfl rfl (by omega) ?_ | refine qak rfl rfl rfl (by omega) ?_))
   refine AWp.treeJ (fun H => H.get h.next = some ⟨actC p a, 40, true⟩) (fun _ _ a b => b.c _ _ a) (t := OT.seq [(0, .P), (1, .S), (2, .P), (3, .S), (4, .P), (5, .W), (6, .P), (7, .W)] .nil) mixed (by kernel_rfl) (hgx _) ?_
   repeat (first | refine TAL.p rfl rfl rfl (fun h' hn => qao rfl ⟨rfl, rfl⟩) ?_ | refine TAL.s rfl rfl rfl (fun h' hn hx => qaf rfl rfl hx rfl ⟨rfl, rfl⟩) ?_)
   refine TAL.wj0 rfl rfl (qaD (v := .int .i64 a.node) rfl rfl rfl rfl ⟨hgx _, ?_⟩)
   repeat (first | refine TAL.p rfl rfl rfl (fun h' hn => qao rfl ⟨rfl, rfl⟩) ?_)
   refine TAL.wj0 rfl rfl (qaD (v := .int .i64 a.group) rfl rfl rfl rfl ⟨hgx _, ?_⟩)
   refine TAL.nil ?_
   cases nodeB nodes a <;> cases groupB groups a <;>
   ·
    repeat (first | refine W.w ?_ | refine AL.skip rfl rfl ?_ | refine AL.eff rfl (qan (vs := actC actV0 (namedA a)) rfl (by rw [hn]; rfl) rfl (by rw [hn]; exact qaF (hq h (Ext.refl h))) (gj _) rfl ?_) | (refine zz rfl ?_; first | refine qae rfl ?_ | refine qaa rfl ?_ | refine qaj (sz := 33) rfl rfl (gl _) (Nat.le_refl _) ?_ | refine qah (v := .bool _) rfl rfl ?_))
    exact ⟨_, ResV.cell2 rfl rfl rfl (Heap.set_at _ _ _) (Nat.le_refl _), actV0, rfl, by rw [hn]; exact hq _ (xf _ _), xf _ _⟩
 by_cases k2 : a.kind = 3 ∨ a.kind = 4 ∨ a.kind = 5
 ·
  have hn : namedA a = { act0 with kind := a.kind, n := a.n } := by unfold namedA; grind
  have ho : rokA nodes groups a = decide (0 ≤ a.n ∧ a.n ≤ 2147483647) := by unfold rokA; rw [if_neg k1, if_pos k2]
  have hq : ∀ h', Ext h h' → ActR h' actV0 { act0 with kind := a.kind, n := a.n } := fun h' x => ⟨(hz h').ra, (hz h').rc, (hz h').rk⟩
  rw [ho]
  rcases k2 with k | k | k <;>
  ·
   repeat (first | refine W.w ?_ | refine AWp.c8 rfl ?_ | refine AWp.c9 rfl ?_ | refine AL.eff rfl (qaD (v := .int .i64 a.n) rfl rfl rfl rfl ?_) | (refine zz rfl ?_; first | refine qaa rfl ?_ | refine qao rfl ?_ | refine qaf rfl rfl (hgx _) rfl ?_ | refine qam rfl rfl rfl (by omega) ?_ | refine qak rfl rfl rfl (by omega) ?_))
   refine AWp.treeJ (fun H => H.get h.next = some ⟨actC p a, 40, true⟩) (fun _ _ a b => b.c _ _ a) (t := OT.seq [(0, .R), (1, .R), (2, .R), (3, .R), (4, .R), (5, .P), (6, .S), (7, .P), (8, .P), (9, .W), (10, .R)] .nil) mixed (by kernel_rfl) (hgx _) ?_
   repeat' (first | refine TAL.skip rfl rfl rfl ?_ | refine TAL.r rfl rfl rfl (fun h' hx hn => qae rfl ⟨rfl, rfl⟩) ?_ | refine TAL.r rfl rfl rfl (fun h' hx hn => qao rfl ⟨rfl, rfl⟩) ?_ | refine TAL.r rfl rfl rfl (fun h' hx hn => qaf rfl rfl (hx.c _ _ (hgx _)) rfl ⟨rfl, rfl⟩) ?_ | refine TAL.r rfl rfl rfl (fun h' hx hn => qaj (sz := 33) rfl rfl (hx.c _ _ (gl _)) (Nat.le_refl _) ⟨rfl, rfl⟩) ?_ | refine TAL.p rfl rfl rfl (fun h' hn => qao rfl ⟨rfl, rfl⟩) ?_ | refine TAL.p rfl rfl rfl (fun h' hn => qah (v := .bool _) rfl rfl ⟨rfl, rfl⟩) ?_ | refine TAL.s rfl rfl rfl (fun h' hn hx => qaf rfl rfl hx rfl ⟨rfl, rfl⟩) ?_ | refine TAL.rP rfl rfl rfl (fun h' hx hn => qaX rfl rfl rfl ⟨rfl, rfl⟩) (fun c => ?_) (fun c => ?_) | refine TAL.pP rfl rfl rfl (fun h' hn => qaX rfl rfl rfl ⟨rfl, rfl⟩) (fun c => ?_) (fun c => ?_))
   all_goals refine TAL.wj0 rfl rfl (qan (vs := actC actV0 (namedA a)) rfl (by rw [hn]; rfl) rfl (by rw [hn]; exact qaF (hq h (Ext.refl h))) (gj _) rfl ⟨(Heap.set_other (Nat.ne_of_lt n1)).trans (hgx _), ?_⟩)
   repeat' (first | refine TAL.nil ?_ | refine TAL.r rfl rfl rfl (fun h' hx hn => qaa rfl ⟨rfl, rfl⟩) ?_)
   repeat' (first | refine AWp.ret ?_)
   all_goals refine ⟨_, ResV.cell2 rfl rfl rfl (Heap.set_at _ _ _) (Nat.le_refl _), actV0, congrArg (fun b => Value.tuple #[.agg (actC actV0 (namedA a)).toArray, .bool b]) ?_, by rw [hn]; exact hq _ (xf _ _), xf _ _⟩
   all_goals clear hz xf xl gj hgx gl n2 wf2 n1 wf r hq hn ho
   all_goals grind
 by_cases k3 : a.kind = 8 ∨ a.kind = 13
 ·
  have hn : namedA a = { act0 with kind := a.kind, node := a.node } := by unfold namedA; grind
  have ho : rokA nodes groups a = nodeB nodes a := by unfold rokA; rw [if_neg k1, if_neg k2, if_pos k3]
  have hq : ∀ h', Ext h h' → ActR h' actV0 { act0 with kind := a.kind, node := a.node } := fun h' x => ⟨(hz h').ra, (hz h').rc, (hz h').rk⟩
  rw [ho]
  rcases k3 with k | k <;>
  ·
   repeat (first | refine W.w ?_ | refine AWp.c8 rfl ?_ | refine AWp.c9 rfl ?_ | refine AL.eff rfl (qaD (v := .int .i64 a.node) rfl rfl rfl rfl ?_) | refine AL.eff rfl (qan (vs := actC actV0 (namedA a)) rfl (by rw [hn]; rfl) rfl (by rw [hn]; exact qaF (hq h (Ext.refl h))) (gj _) rfl ?_) | (refine zz rfl ?_; first | refine qae rfl ?_ | refine qaa rfl ?_ | refine qao rfl ?_ | refine qaf rfl rfl (hgx _) rfl ?_ | refine qaj (sz := 33) rfl rfl (gl _) (Nat.le_refl _) ?_ | refine qam rfl rfl rfl (by omega) ?_ | refine qak rfl rfl rfl (by omega) ?_))
   exact ⟨_, ResV.cell2 rfl rfl rfl (Heap.set_at _ _ _) (Nat.le_refl _), actV0, rfl, by rw [hn]; exact hq _ (xf _ _), xf _ _⟩
 by_cases k4 : a.kind = 9
 ·
  have hn : namedA a = { act0 with kind := a.kind, node := a.node, cmd := a.cmd } := by unfold namedA; grind
  have ho : rokA nodes groups a = (nodeB nodes a && mayC a.cmd && decide (a.cmd.kind = 6 ∨ a.cmd.kind = 7 ∨ a.cmd.kind = 8)) := by unfold rokA; rw [if_neg k1, if_neg k2, if_neg k3, if_pos k4]
  have hq : ∀ h', Ext h h' → ActR h' { actV0 with c := p.c } { act0 with kind := a.kind, node := a.node, cmd := a.cmd } := fun h' x => ⟨(hz h').ra, (r.ext x).rc, (hz h').rk⟩
  rw [ho]
  repeat (first | refine W.w ?_ | refine AWp.c8 rfl ?_ | refine AWp.c9 rfl ?_ | (refine zz rfl ?_; first | refine qaa rfl ?_ | refine qao rfl ?_ | refine qaf rfl rfl (hgx _) rfl ?_ | refine qam rfl rfl rfl (by omega) ?_ | refine qak rfl rfl rfl (by omega) ?_))
  refine AWp.treeJ (fun H => H.get h.next = some ⟨actC p a, 40, true⟩) (fun _ _ a b => b.c _ _ a) (t := OT.seq [(0, .P), (1, .S), (2, .P), (3, .S), (4, .P), (5, .W), (6, .P), (7, .W)] .nil) mixed (by kernel_rfl) (hgx _) ?_
  repeat (first | refine TAL.p rfl rfl rfl (fun h' hn => qao rfl ⟨rfl, rfl⟩) ?_ | refine TAL.s rfl rfl rfl (fun h' hn hx => qaf rfl rfl hx rfl ⟨rfl, rfl⟩) ?_ | refine TAL.s rfl rfl rfl (fun h' hn hx => qaj (sz := 20) rfl rfl hx (Nat.le_of_ble_eq_true rfl) ⟨rfl, rfl⟩) ?_)
  refine TAL.wj0 rfl rfl (qaD (v := .int .i64 a.node) rfl rfl rfl rfl ⟨hgx _, ?_⟩)
  repeat (first | refine TAL.p rfl rfl rfl (fun h' hn => qao rfl ⟨rfl, rfl⟩) ?_)
  refine TAL.wj0 rfl rfl (qbp (vs := cmdC p.c a.cmd) rfl rfl rfl (qa5 r.rc) rfl ⟨hgx _, ?_⟩)
  refine TAL.nil ?_
  repeat (first | refine W.w ?_ | (refine zz rfl ?_; first | refine qad rfl ?_ | refine qao rfl ?_ | refine qaf rfl rfl (hgx _) rfl ?_))
  cases nodeB nodes a <;>
  ·
   refine AWp.treeJ (fun H => H.get h.next = some ⟨actC p a, 40, true⟩) (fun _ _ a b => b.c _ _ a) (t := OT.seq [(0, .R), (1, .R), (2, .R), (3, .R), (4, .R), (5, .R), (6, .R), (7, .R), (8, .R), (9, .R), (10, .R), (11, .R), (12, .R), (13, .R), (14, .R), (15, .P), (16, .P), (17, .P), (18, .P), (19, .W), (20, .R)] .nil) mixed (by kernel_rfl) (hgx _) ?_
   repeat' (first | refine TAL.skip rfl rfl rfl ?_ | refine TAL.r rfl rfl rfl (fun h' hx hn => qac rfl ⟨rfl, rfl⟩) ?_ | refine TAL.r rfl rfl rfl (fun h' hx hn => qae rfl ⟨rfl, rfl⟩) ?_ | refine TAL.p rfl rfl rfl (fun h' hn => qac rfl ⟨rfl, rfl⟩) ?_ | refine TAL.rB rfl rfl rfl (fun h' hx hn => qab rfl rfl (rcmay_c p.c a.cmd h' (r.rc.ext ((xl _).trans hx))) ⟨rfl, rfl⟩) (fun c => ?_) (fun c => ?_) | refine TAL.r rfl rfl rfl (fun h' hx hn => qao rfl ⟨rfl, rfl⟩) ?_ | refine TAL.r rfl rfl rfl (fun h' hx hn => qaj (sz := 33) rfl rfl (hx.c _ _ (gl _)) (Nat.le_refl _) ⟨rfl, rfl⟩) ?_ | refine TAL.r rfl rfl rfl (fun h' hx hn => qaj (sz := 20) rfl rfl (hx.c _ _ (hgx _)) (Nat.le_of_ble_eq_true rfl) ⟨rfl, rfl⟩) ?_ | refine TAL.r rfl rfl rfl (fun h' hx hn => qah (v := .bool _) rfl rfl ⟨rfl, rfl⟩) ?_ | refine TAL.p rfl rfl rfl (fun h' hn => qah (v := .bool _) rfl rfl ⟨rfl, rfl⟩) ?_ | refine TAL.rP rfl rfl rfl (fun h' hx hn => qaX rfl rfl rfl ⟨rfl, rfl⟩) (fun c => ?_) (fun c => ?_) | refine TAL.pP rfl rfl rfl (fun h' hn => qaX rfl rfl rfl ⟨rfl, rfl⟩) (fun c => ?_) (fun c => ?_))
   all_goals refine TAL.wj0 rfl rfl (qan (vs := actC { actV0 with c := p.c } (namedA a)) rfl (by rw [hn]; rfl) rfl (by rw [hn]; exact qaF (hq h (Ext.refl h))) (gj _) rfl ⟨(Heap.set_other (Nat.ne_of_lt n1)).trans (hgx _), ?_⟩)
   repeat' (first | refine TAL.nil ?_ | refine TAL.r rfl rfl rfl (fun h' hx hn => qaa rfl ⟨rfl, rfl⟩) ?_)
   repeat' (first | refine AWp.ret ?_)
   all_goals refine ⟨_, ResV.cell2 rfl rfl rfl (Heap.set_at _ _ _) (Nat.le_refl _), { actV0 with c := p.c }, congrArg (fun b => Value.tuple #[.agg (actC { actV0 with c := p.c } (namedA a)).toArray, .bool b]) ?_, by rw [hn]; exact hq _ (xf _ _), xf _ _⟩
   all_goals clear hz xf xl gj hgx gl n2 wf2 n1 wf r hq hn ho
   all_goals grind
 by_cases k5 : a.kind = 10
 ·
  have hn : namedA a = { act0 with kind := a.kind, node := a.node, group := a.group, client := a.client, ask := a.ask } := by unfold namedA; grind
  have ho : rokA nodes groups a = (clientB a && nodeB nodes a && groupB groups a && mayAsk a.ask) := by unfold rokA; rw [if_neg k1, if_neg k2, if_neg k3, if_neg k4, if_pos k5]
  have hq : ∀ h', Ext h h' → ActR h' { actV0 with q := p.q } { act0 with kind := a.kind, node := a.node, group := a.group, client := a.client, ask := a.ask } := fun h' x => ⟨(r.ext x).ra, (hz h').rc, (hz h').rk⟩
  rw [ho]
  repeat (first | refine W.w ?_ | refine AWp.c8 rfl ?_ | refine AWp.c9 rfl ?_ | (refine zz rfl ?_; first | refine qaa rfl ?_ | refine qao rfl ?_ | refine qaf rfl rfl (hgx _) rfl ?_ | refine qam rfl rfl rfl (by omega) ?_ | refine qak rfl rfl rfl (by omega) ?_))
  refine AWp.treeJ (fun H => H.get h.next = some ⟨actC p a, 40, true⟩) (fun _ _ a b => b.c _ _ a) (t := OT.seq [(0, .P), (1, .S), (2, .P), (3, .S), (4, .P), (5, .S), (6, .P), (7, .S), (8, .P), (9, .W), (10, .P), (11, .W), (12, .P), (13, .W), (14, .P), (15, .W)] .nil) mixed (by kernel_rfl) (hgx _) ?_
  repeat (first | refine TAL.p rfl rfl rfl (fun h' hn => qao rfl ⟨rfl, rfl⟩) ?_ | refine TAL.s rfl rfl rfl (fun h' hn hx => qaf rfl rfl hx rfl ⟨rfl, rfl⟩) ?_ | refine TAL.s rfl rfl rfl (fun h' hn hx => qaj (sz := 7) rfl rfl hx (Nat.le_of_ble_eq_true rfl) ⟨rfl, rfl⟩) ?_)
  refine TAL.wj0 rfl rfl (qaD (v := .int .i64 a.client) rfl rfl rfl rfl ⟨hgx _, ?_⟩)
  repeat (first | refine TAL.p rfl rfl rfl (fun h' hn => qao rfl ⟨rfl, rfl⟩) ?_)
  refine TAL.wj0 rfl rfl (qaD (v := .int .i64 a.node) rfl rfl rfl rfl ⟨hgx _, ?_⟩)
  repeat (first | refine TAL.p rfl rfl rfl (fun h' hn => qao rfl ⟨rfl, rfl⟩) ?_)
  refine TAL.wj0 rfl rfl (qaD (v := .int .i64 a.group) rfl rfl rfl rfl ⟨hgx _, ?_⟩)
  repeat (first | refine TAL.p rfl rfl rfl (fun h' hn => qao rfl ⟨rfl, rfl⟩) ?_)
  refine TAL.wj0 rfl rfl (qbp (vs := askC p.q a.ask) rfl rfl rfl (qaU r.ra) rfl ⟨hgx _, ?_⟩)
  refine TAL.nil ?_
  cases clientB a <;> cases nodeB nodes a <;> cases groupB groups a <;>
  ·
   repeat (first | refine AWp.seq ?_)
   refine AWp.treeJ (fun H => H.get h.next = some ⟨actC p a, 40, true⟩) (fun _ _ a b => b.c _ _ a) (t := OT.seq [(0, .R), (1, .R), (2, .R), (3, .R), (4, .R), (5, .R), (6, .R), (7, .R), (8, .R), (9, .R), (10, .R), (11, .R), (12, .P), (13, .W), (14, .R)] .nil) mixed (by kernel_rfl) (hgx _) ?_
   repeat' (first | refine TAL.skip rfl rfl rfl ?_ | refine TAL.r rfl rfl rfl (fun h' hx hn => qae rfl ⟨rfl, rfl⟩) ?_ | refine TAL.rB rfl rfl rfl (fun h' hx hn => qab rfl rfl (qgd p.q a.ask h' (r.ra.ext ((xl _).trans hx))) ⟨rfl, rfl⟩) (fun c => ?_) (fun c => ?_) | refine TAL.r rfl rfl rfl (fun h' hx hn => qao rfl ⟨rfl, rfl⟩) ?_ | refine TAL.r rfl rfl rfl (fun h' hx hn => qaj (sz := 33) rfl rfl (hx.c _ _ (gl _)) (Nat.le_refl _) ⟨rfl, rfl⟩) ?_ | refine TAL.r rfl rfl rfl (fun h' hx hn => qaj (sz := 7) rfl rfl (hx.c _ _ (hgx _)) (Nat.le_of_ble_eq_true rfl) ⟨rfl, rfl⟩) ?_ | refine TAL.r rfl rfl rfl (fun h' hx hn => qah (v := .bool _) rfl rfl ⟨rfl, rfl⟩) ?_ | refine TAL.p rfl rfl rfl (fun h' hn => qah (v := .bool _) rfl rfl ⟨rfl, rfl⟩) ?_)
   all_goals refine TAL.wj0 rfl rfl (qan (vs := actC { actV0 with q := p.q } (namedA a)) rfl (by rw [hn]; rfl) rfl (by rw [hn]; exact qaF (hq h (Ext.refl h))) (gj _) rfl ⟨(Heap.set_other (Nat.ne_of_lt n1)).trans (hgx _), ?_⟩)
   repeat' (first | refine TAL.nil ?_ | refine TAL.r rfl rfl rfl (fun h' hx hn => qaa rfl ⟨rfl, rfl⟩) ?_)
   repeat' (first | refine AWp.ret ?_)
   all_goals refine ⟨_, ResV.cell2 rfl rfl rfl (Heap.set_at _ _ _) (Nat.le_refl _), { actV0 with q := p.q }, congrArg (fun b => Value.tuple #[.agg (actC { actV0 with q := p.q } (namedA a)).toArray, .bool b]) ?_, by rw [hn]; exact hq _ (xf _ _), xf _ _⟩
   all_goals clear hz xf xl gj hgx gl n2 wf2 n1 wf r hq hn ho
   all_goals grind
 by_cases k6 : a.kind = 11
 ·
  have hn : namedA a = { act0 with kind := a.kind, node := a.node, group := a.group, client := a.client } := by unfold namedA; grind
  have ho : rokA nodes groups a = (clientB a && nodeB nodes a && groupB groups a) := by unfold rokA; rw [if_neg k1, if_neg k2, if_neg k3, if_neg k4, if_neg k5, if_pos k6]
  have hq : ∀ h', Ext h h' → ActR h' actV0 { act0 with kind := a.kind, node := a.node, group := a.group, client := a.client } := fun h' x => ⟨(hz h').ra, (hz h').rc, (hz h').rk⟩
  rw [ho]
  repeat (first | refine W.w ?_ | refine AWp.c8 rfl ?_ | refine AWp.c9 rfl ?_ | (refine zz rfl ?_; first | refine qaa rfl ?_ | refine qao rfl ?_ | refine qaf rfl rfl (hgx _) rfl ?_ | refine qam rfl rfl rfl (by omega) ?_ | refine qak rfl rfl rfl (by omega) ?_))
  refine AWp.treeJ (fun H => H.get h.next = some ⟨actC p a, 40, true⟩) (fun _ _ a b => b.c _ _ a) (t := OT.seq [(0, .P), (1, .S), (2, .P), (3, .S), (4, .P), (5, .S), (6, .P), (7, .W), (8, .P), (9, .W), (10, .P), (11, .W)] .nil) mixed (by kernel_rfl) (hgx _) ?_
  repeat (first | refine TAL.p rfl rfl rfl (fun h' hn => qao rfl ⟨rfl, rfl⟩) ?_ | refine TAL.s rfl rfl rfl (fun h' hn hx => qaf rfl rfl hx rfl ⟨rfl, rfl⟩) ?_)
  refine TAL.wj0 rfl rfl (qaD (v := .int .i64 a.client) rfl rfl rfl rfl ⟨hgx _, ?_⟩)
  repeat (first | refine TAL.p rfl rfl rfl (fun h' hn => qao rfl ⟨rfl, rfl⟩) ?_)
  refine TAL.wj0 rfl rfl (qaD (v := .int .i64 a.node) rfl rfl rfl rfl ⟨hgx _, ?_⟩)
  repeat (first | refine TAL.p rfl rfl rfl (fun h' hn => qao rfl ⟨rfl, rfl⟩) ?_)
  refine TAL.wj0 rfl rfl (qaD (v := .int .i64 a.group) rfl rfl rfl rfl ⟨hgx _, ?_⟩)
  refine TAL.nil ?_
  cases clientB a <;> cases nodeB nodes a <;> cases groupB groups a <;>
  ·
   repeat (first | refine W.w ?_ | refine AL.skip rfl rfl ?_ | refine AL.eff rfl (qan (vs := actC actV0 (namedA a)) rfl (by rw [hn]; rfl) rfl (by rw [hn]; exact qaF (hq h (Ext.refl h))) (gj _) rfl ?_) | (refine zz rfl ?_; first | refine qae rfl ?_ | refine qaa rfl ?_ | refine qaj (sz := 33) rfl rfl (gl _) (Nat.le_refl _) ?_ | refine qah (v := .bool _) rfl rfl ?_))
   exact ⟨_, ResV.cell2 rfl rfl rfl (Heap.set_at _ _ _) (Nat.le_refl _), actV0, rfl, by rw [hn]; exact hq _ (xf _ _), xf _ _⟩
 by_cases k7 : a.kind = 12
 ·
  have hn : namedA a = { act0 with kind := a.kind, node := a.node, keep := a.keep } := by unfold namedA; grind
  have ho : rokA nodes groups a = (nodeB nodes a && kp a.keep) := by unfold rokA; rw [if_neg k1, if_neg k2, if_neg k3, if_neg k4, if_neg k5, if_neg k6, if_pos k7]
  have hq : ∀ h', Ext h h' → ActR h' { actV0 with k := p.k } { act0 with kind := a.kind, node := a.node, keep := a.keep } := fun h' x => ⟨(hz h').ra, (hz h').rc, (r.ext x).rk⟩
  rw [ho]
  repeat (first | refine W.w ?_ | refine AWp.c8 rfl ?_ | refine AWp.c9 rfl ?_ | (refine zz rfl ?_; first | refine qaa rfl ?_ | refine qao rfl ?_ | refine qaf rfl rfl (hgx _) rfl ?_ | refine qam rfl rfl rfl (by omega) ?_ | refine qak rfl rfl rfl (by omega) ?_))
  refine AWp.treeJ (fun H => H.get h.next = some ⟨actC p a, 40, true⟩) (fun _ _ a b => b.c _ _ a) (t := OT.seq [(0, .P), (1, .S), (2, .P), (3, .S), (4, .P), (5, .W), (6, .P), (7, .W)] .nil) mixed (by kernel_rfl) (hgx _) ?_
  repeat (first | refine TAL.p rfl rfl rfl (fun h' hn => qao rfl ⟨rfl, rfl⟩) ?_ | refine TAL.s rfl rfl rfl (fun h' hn hx => qaf rfl rfl hx rfl ⟨rfl, rfl⟩) ?_)
  refine TAL.wj0 rfl rfl (qaD (v := .int .i64 a.node) rfl rfl rfl rfl ⟨hgx _, ?_⟩)
  repeat (first | refine TAL.p rfl rfl rfl (fun h' hn => qao rfl ⟨rfl, rfl⟩) ?_)
  refine TAL.wj0 rfl rfl (qaD (v := p.k) rfl rfl r.rk.one rfl ⟨hgx _, ?_⟩)
  refine TAL.nil ?_
  cases nodeB nodes a <;>
  ·
   repeat (first | refine AWp.seq ?_)
   refine AWp.treeJ (fun H => H.get h.next = some ⟨actC p a, 40, true⟩) (fun _ _ a b => b.c _ _ a) (t := OT.seq [(0, .R), (1, .R), (2, .R), (3, .R), (4, .R), (5, .R), (6, .P), (7, .W), (8, .R)] .nil) mixed (by kernel_rfl) (hgx _) ?_
   repeat' (first | refine TAL.skip rfl rfl rfl ?_ | refine TAL.r rfl rfl rfl (fun h' hx hn => qae rfl ⟨rfl, rfl⟩) ?_ | refine TAL.rB rfl rfl rfl (fun h' hx hn => qab rfl rfl (rkeep_c p.k a.keep h' (r.rk.ext ((xl _).trans hx))) ⟨rfl, rfl⟩) (fun c => ?_) (fun c => ?_) | refine TAL.r rfl rfl rfl (fun h' hx hn => qao rfl ⟨rfl, rfl⟩) ?_ | refine TAL.r rfl rfl rfl (fun h' hx hn => qaf rfl rfl (hx.c _ _ (hgx _)) rfl ⟨rfl, rfl⟩) ?_ | refine TAL.r rfl rfl rfl (fun h' hx hn => qaj (sz := 33) rfl rfl (hx.c _ _ (gl _)) (Nat.le_refl _) ⟨rfl, rfl⟩) ?_ | refine TAL.p rfl rfl rfl (fun h' hn => qah (v := .bool _) rfl rfl ⟨rfl, rfl⟩) ?_)
   all_goals refine TAL.wj0 rfl rfl (qan (vs := actC { actV0 with k := p.k } (namedA a)) rfl (by rw [hn]; rfl) rfl (by rw [hn]; exact qaF (hq h (Ext.refl h))) (gj _) rfl ⟨(Heap.set_other (Nat.ne_of_lt n1)).trans (hgx _), ?_⟩)
   repeat' (first | refine TAL.nil ?_ | refine TAL.r rfl rfl rfl (fun h' hx hn => qaa rfl ⟨rfl, rfl⟩) ?_)
   repeat' (first | refine AWp.ret ?_)
   all_goals refine ⟨_, ResV.cell2 rfl rfl rfl (Heap.set_at _ _ _) (Nat.le_refl _), { actV0 with k := p.k }, congrArg (fun b => Value.tuple #[.agg (actC { actV0 with k := p.k } (namedA a)).toArray, .bool b]) ?_, by rw [hn]; exact hq _ (xf _ _), xf _ _⟩
   all_goals clear hz xf xl gj hgx gl n2 wf2 n1 wf r hq hn ho
   all_goals grind
 ·
  have hn : namedA a = { act0 with kind := a.kind } := by unfold namedA; grind
  have ho : rokA nodes groups a = false := by unfold rokA; rw [if_neg k1, if_neg k2, if_neg k3, if_neg k4, if_neg k5, if_neg k6, if_neg k7]
  have hq : ∀ h', Ext h h' → ActR h' actV0 { act0 with kind := a.kind } := fun h' x => ⟨(hz h').ra, (hz h').rc, (hz h').rk⟩
  rw [ho]
  repeat (first | refine W.w ?_ | refine AWp.c9 rfl ?_ | refine AL.eff rfl (qan (vs := actC actV0 (namedA a)) rfl (by rw [hn]; rfl) rfl (by rw [hn]; exact qaF (hq h (Ext.refl h))) (gj _) rfl ?_) | (refine zz rfl ?_; first | refine qaa rfl ?_ | refine qao rfl ?_ | refine qaf rfl rfl (hgx _) rfl ?_ | refine qaj (sz := 33) rfl rfl (gl _) (Nat.le_refl _) ?_ | refine qak rfl rfl rfl (by omega) ?_))
  exact ⟨_, ResV.cell2 rfl rfl rfl (Heap.set_at _ _ _) (Nat.le_refl _), actV0, rfl, by rw [hn]; exact hq _ (xf _ _), xf _ _⟩
theorem rmay_c (p : ActV) (a : ActM) (nodes groups : Int) (h : Heap) (r : ActR h p a) : ACalls Tryz.prog 41 [.agg (actC p a).toArray, .int .i64 nodes, .int .i64 groups] h fun u h' => u = .bool (mayAct nodes groups a) ∧ h' = h := by
 refine ACalls.wf fun wf => ACalls.reset ?_
 refine ACalls.body Tryz.func41 rfl rfl ?_
 repeat (first | refine W.w ?_ | refine zz rfl (qaa rfl ?_) | refine zz rfl (qaV rfl (by intro e; cases e) ?_))
 generalize hH : h.alloc _ = H
 have hg : H.get h.next = some ⟨actC p a, 40, true⟩ := hH ▸ Heap.alloc_new _ _
 have hx : Ext h H := hH ▸ wf.ext _
 have wfH : WF H := hH ▸ wf.alloc _
 clear hH
 rw [may_d]
 have rH := r.ext hx
 repeat (first | refine zz rfl (qac rfl ?_) | refine zz rfl (qaj (sz := 33) rfl rfl hg (Nat.le_refl _) ?_))
 refine zz rfl (qar (evs := [.agg (actC p a).toArray, .int .i64 nodes, .int .i64 groups]) rfl rfl ((rabare_c p a nodes groups H rH).wf_post.mono ?_))
 rintro _ H1 ⟨⟨q, rfl, rq, x1⟩, wf1, _⟩
 repeat (first | refine W.w ?_ | refine AL.eff rfl (qaE (vs := actC q (namedA a)) rfl rfl rfl rfl (qaF rq) ?_) | (refine zz rfl ?_; first | refine qae rfl ?_ | refine qaH rfl ?_ | refine qaa rfl ?_ | refine qav rfl rfl ?_ | refine qaw ?_))
 obtain ⟨H2, hQ, g2, x2, _, _⟩ := aq wf1 ⟨actC q (namedA a), 40, true⟩
 rw [hQ]
 have hxx := hx.trans (x1.trans x2)
 have cs := qdg q p (namedA a) a H2 (rq.ext x2) (r.ext hxx)
 have hg2 := x2.c _ _ (x1.c _ _ hg)
 cases ho : rokA nodes groups a with
 | false =>
  repeat' (first | refine W.w ?_ | refine AL.skip rfl rfl ?_ | refine zz rfl (qaa rfl ?_) | refine zz rfl (qah (v := .bool _) rfl rfl ?_))
  exact ⟨_, ResV.tmp rfl, rfl, hxx, rfl, rfl⟩
 | true =>
  repeat (first | refine W.w ?_ | (refine zz rfl ?_; first | refine qaa rfl ?_ | refine qaj (sz := 33) rfl rfl g2 (Nat.le_refl _) ?_ | refine qaj (sz := 33) rfl rfl hg2 (Nat.le_refl _) ?_ | refine qab rfl rfl cs ?_ | refine qah (v := .bool _) rfl rfl ?_))
  exact ⟨_, ResV.tmp rfl, rfl, hxx, rfl, rfl⟩
theorem rmayLine_c (p : ActV) (a : ActM) (h : Heap) (r : ActR h p a) : ACalls Tryz.prog 19 [.agg (actC p a).toArray] h fun u h' => u = .bool (mayAct 5 5 a) ∧ h' = h := by
 refine ACalls.wf fun wf => ACalls.reset ?_
 refine ACalls.body Tryz.func19 rfl rfl ?_
 repeat (first | refine W.w ?_ | refine zz rfl (qaa rfl ?_) | refine zz rfl (qaV rfl (by intro e; cases e) ?_))
 generalize hH : h.alloc _ = H
 have hg : H.get h.next = some ⟨actC p a, 40, true⟩ := hH ▸ Heap.alloc_new _ _
 have hx : Ext h H := hH ▸ wf.ext _
 have wfH : WF H := hH ▸ wf.alloc _
 clear hH
 repeat (first | refine W.w ?_ | (refine zz rfl ?_; first | refine qaa rfl ?_ | refine qaj (sz := 33) rfl rfl hg (Nat.le_refl _) ?_ | refine qab rfl rfl (rmay_c p a 5 5 H (r.ext hx)) ?_))
 exact ⟨_, ResV.tmp rfl, rfl, hx, rfl, rfl⟩
end Go.Proofs.YtigmojilaadbhaaGreatDoor
