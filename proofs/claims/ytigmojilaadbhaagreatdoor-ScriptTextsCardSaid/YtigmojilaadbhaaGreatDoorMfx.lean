/-
  Texts of one claim, merged: 15 parts.
-/
import Derived.Test.YtigmojilaadbhaaGreatDoorMfw
import Derived.Test.YtigmojilaadbhaaGreatDoorMft
import Derived.Test.YtigmojilaadbhaaGreatDoorMfu
import Derived.Test.YtigmojilaadbhaaGreatDoorMfv
import Derived.Test.YtigmojilaadbhaaGreatDoorMfs
import Derived.Test.YtigmojilaadbhaaGreatDoorMfh
set_option maxHeartbeats 16000000
/- . -/
namespace Go.Proofs.YtigmojilaadbhaaGreatDoor
open Go Go.Eng Go.Pln Go.Lib
attribute [local irreducible] AWp AL DAL AOp TAL
theorem rabare_c (p : ActV) (a : ActM) (nodes groups : Int) (h : Heap) (r : ActR h p a) : ACalls Tryz.prog 91 [.agg (actC p a).toArray, .int .i64 nodes, .int .i64 groups] h fun u h' => ∃ q, u = .tuple #[.agg (actC q (namedA a)).toArray, .bool (rokA nodes groups a)] ∧ ActR h' q (namedA a) ∧ Ext h h' := by
 refine ACalls.wf fun wf => ?_
 refine ACalls.body Tryz.func91 rfl rfl ?_
 repeat (first | refine W.w ?_ | refine zz rfl (qaK rfl (by intro e; cases e) ?_))
 generalize hH : h.alloc _ = H1
 have hg1 : H1.get h.next = some ⟨actC p a, 40, true⟩ := hH ▸ Heap.alloc_new _ _
 have hx1 : Ext h H1 := hH ▸ wf.ext _
 have wf1 : WF H1 := hH ▸ wf.alloc _
 have n1 : h.next < H1.next := wf1.lt hg1
 clear hH
 repeat (first | refine W.w ?_ | refine zz rfl (qaa rfl ?_) | refine zz rfl (qat ?_))
 generalize hH : H1.alloc _ = H2
 have g2 : H2.get H1.next = some ⟨actC actV0 act0, 40, true⟩ := hH ▸ Heap.alloc_new _ _
 have hx2 : Ext H1 H2 := hH ▸ wf1.ext _
 have wf2 : WF H2 := hH ▸ wf1.alloc _
 have n2 : H1.next < H2.next := wf2.lt g2
 have hg2 := hx2.c _ _ hg1
 clear hH
 repeat (first | refine W.w ?_ | refine AL.eff rfl (qaI (vs := actC actV0 { act0 with kind := a.kind }) rfl rfl rfl rfl rfl ?_) | (refine zz rfl ?_; first | refine qan rfl ?_ | refine qae rfl rfl hg2 rfl ?_ | refine qay (out := actC actV0 { act0 with kind := a.kind }) rfl rfl ?_ | refine qat ?_))
 have gl := Heap.alloc_new H2
 have hgx : ∀ b, (H2.alloc b).get h.next = some ⟨actC p a, 40, true⟩ := fun b => (wf2.ext b).c _ _ hg2
 have gj : ∀ b, (H2.alloc b).get H1.next = some ⟨actC actV0 act0, 40, true⟩ := fun b => (wf2.ext b).c _ _ g2
 have xl : ∀ b, Ext h (H2.alloc b) := fun b => hx1.trans (hx2.trans (wf2.ext b))
 have xf : ∀ b b', Ext h ((H2.alloc b).set H1.next b') := fun b b' => wf.ext_set (xl b) (Nat.le_of_lt n1) _
 have hz : ∀ h', ActR h' actV0 act0 := fun h' => ActR.nil h'
 clear hg1 hg2 g2 hx1 hx2 wf1
 refine AWp.cutI (α := Unit) (fun _ => [(3, ptr h.next), (6, ptr H1.next), (8, ptr H2.next), (9, .bool (nodeB nodes a)), (10, .bool (groupB groups a))]) (fun _ => H2.alloc ⟨actC actV0 { act0 with kind := a.kind }, 40, true⟩) (fun _ => True) ?_ fun _ _ => ?_
 ·
  refine AWp.drawR mixed (by kernel_rfl) ?_
  repeat' (first | refine DAL.skip rfl rfl rfl ?_ | refine DAL.nil ?_ | refine DAL.r rfl rfl rfl (fun h' hx hn => qac rfl ⟨rfl, rfl⟩) ?_ | refine DAL.r rfl rfl rfl (fun h' hx hn => qag rfl ⟨rfl, rfl⟩) ?_ | refine DAL.r rfl rfl rfl (fun h' hx hn => qaa rfl ⟨rfl, rfl⟩) ?_ | refine DAL.r rfl rfl rfl (fun h' hx hn => qan rfl ⟨rfl, rfl⟩) ?_ | refine DAL.r rfl rfl rfl (fun h' hx hn => qae rfl rfl (hx.c _ _ (hgx _)) rfl ⟨rfl, rfl⟩) ?_ | refine DAL.r rfl rfl rfl (fun h' hx hn => qai (v := .bool _) rfl rfl ⟨rfl, rfl⟩) ?_ | refine DAL.rP rfl rfl rfl (fun h' hx hn => qa9 rfl rfl rfl ⟨rfl, rfl⟩) (fun c => ?_) (fun c => ?_))
  all_goals refine ⟨(), trivial, Weak.same (EW.cons rfl (EW.cons rfl (EW.cons rfl (EW.cons (congrArg Value.bool ?_) (EW.cons (congrArg Value.bool ?_) EW.nil)))))⟩
  all_goals clear hz xf xl gj hgx gl n2 wf2 n1 wf r
  all_goals grind [nodeB, groupB]
 refine AWp.seqI (α := Unit) (fun _ => [(3, ptr h.next), (6, ptr H1.next), (8, ptr H2.next), (9, .bool (nodeB nodes a)), (10, .bool (groupB groups a)), (11, .bool (clientB a))]) (fun _ => H2.alloc ⟨actC actV0 { act0 with kind := a.kind }, 40, true⟩) (fun _ => True) ?_ fun _ _ => ?_
 ·
  repeat' (first | refine W.w ?_ | refine AL.skip rfl rfl ?_ | (refine zz rfl ?_; first | refine qag rfl ?_ | refine qaa rfl ?_ | refine qan rfl ?_ | refine qae rfl rfl (hgx _) rfl ?_ | refine qai (v := .bool _) rfl rfl ?_ | refine qaO rfl rfl rfl (fun c => ?_) (fun c => ?_)))
  all_goals refine ⟨(), trivial, Weak.same (EW.cons rfl (EW.cons rfl (EW.cons rfl (EW.cons rfl (EW.cons rfl (EW.cons (congrArg Value.bool ?_) EW.nil))))))⟩
  all_goals clear hz xf xl gj hgx gl n2 wf2 n1 wf r
  all_goals grind [clientB]
 by_cases k1 : a.kind = 1 ∨ a.kind = 2 ∨ a.kind = 6 ∨ a.kind = 7
 ·
  have hn : namedA a = { act0 with kind := a.kind, node := a.node, group := a.group } := by unfold namedA; grind
  have ho : rokA nodes groups a = (nodeB nodes a && groupB groups a) := by unfold rokA; rw [if_pos k1]
  have hq : ∀ h', Ext h h' → ActR h' actV0 { act0 with kind := a.kind, node := a.node, group := a.group } := fun h' x => ⟨(hz h').ra, (hz h').rc, (hz h').rk⟩
  rw [ho]
  rcases k1 with k | k | k | k <;>
  ·
   repeat (first | refine W.w ?_ | refine AWp.c8 rfl ?_ | refine AWp.c9 rfl ?_ | (refine zz rfl ?_; first | refine qaa rfl ?_ | refine qan rfl ?_ | refine qae rfl rfl (hgx _) rfl ?_ | refine qaj rfl rfl rfl (by omega) ?_ | refine qak rfl rfl rfl (by omega) ?_))
   refine AWp.treeJ (fun H => H.get h.next = some ⟨actC p a, 40, true⟩) (fun _ _ a b => b.c _ _ a) (t := OT.seq [(0, .P), (1, .S), (2, .P), (3, .S), (4, .P), (5, .W), (6, .P), (7, .W)] .nil) mixed (by kernel_rfl) (hgx _) ?_
   repeat (first | refine TAL.p rfl rfl rfl (fun h' hn => qan rfl ⟨rfl, rfl⟩) ?_ | refine TAL.s rfl rfl rfl (fun h' hn hx => qae rfl rfl hx rfl ⟨rfl, rfl⟩) ?_)
   refine TAL.wj0 rfl rfl (qaD (v := .int .i64 a.node) rfl rfl rfl rfl ⟨hgx _, ?_⟩)
   repeat (first | refine TAL.p rfl rfl rfl (fun h' hn => qan rfl ⟨rfl, rfl⟩) ?_)
   refine TAL.wj0 rfl rfl (qaD (v := .int .i64 a.group) rfl rfl rfl rfl ⟨hgx _, ?_⟩)
   refine TAL.nil ?_
   cases nodeB nodes a <;> cases groupB groups a <;>
   ·
    repeat (first | refine W.w ?_ | refine AL.skip rfl rfl ?_ | refine AL.eff rfl (qap (vs := actC actV0 (namedA a)) rfl (by rw [hn]; rfl) rfl (by rw [hn]; exact qaF (hq h (Ext.refl h))) (gj _) rfl ?_) | (refine zz rfl ?_; first | refine qag rfl ?_ | refine qaa rfl ?_ | refine qah (sz := 33) rfl rfl (gl _) (Nat.le_refl _) ?_ | refine qai (v := .bool _) rfl rfl ?_))
    exact ⟨_, ResV.cell2 rfl rfl rfl (Heap.set_at _ _ _) (Nat.le_refl _), actV0, rfl, by rw [hn]; exact hq _ (xf _ _), xf _ _⟩
 by_cases k2 : a.kind = 3 ∨ a.kind = 4 ∨ a.kind = 5
 ·
  have hn : namedA a = { act0 with kind := a.kind, n := a.n } := by unfold namedA; grind
  have ho : rokA nodes groups a = decide (0 ≤ a.n ∧ a.n ≤ 2147483647) := by unfold rokA; rw [if_neg k1, if_pos k2]
  have hq : ∀ h', Ext h h' → ActR h' actV0 { act0 with kind := a.kind, n := a.n } := fun h' x => ⟨(hz h').ra, (hz h').rc, (hz h').rk⟩
  rw [ho]
  rcases k2 with k | k | k <;>
  ·
   repeat (first | refine W.w ?_ | refine AWp.c8 rfl ?_ | refine AWp.c9 rfl ?_ | refine AL.eff rfl (qaD (v := .int .i64 a.n) rfl rfl rfl rfl ?_) | (refine zz rfl ?_; first | refine qaa rfl ?_ | refine qan rfl ?_ | refine qae rfl rfl (hgx _) rfl ?_ | refine qaj rfl rfl rfl (by omega) ?_ | refine qak rfl rfl rfl (by omega) ?_))
   refine AWp.treeJ (fun H => H.get h.next = some ⟨actC p a, 40, true⟩) (fun _ _ a b => b.c _ _ a) (t := OT.seq [(0, .R), (1, .R), (2, .R), (3, .R), (4, .R), (5, .P), (6, .S), (7, .P), (8, .P), (9, .W), (10, .R)] .nil) mixed (by kernel_rfl) (hgx _) ?_
   repeat' (first | refine TAL.skip rfl rfl rfl ?_ | refine TAL.r rfl rfl rfl (fun h' hx hn => qag rfl ⟨rfl, rfl⟩) ?_ | refine TAL.r rfl rfl rfl (fun h' hx hn => qan rfl ⟨rfl, rfl⟩) ?_ | refine TAL.r rfl rfl rfl (fun h' hx hn => qae rfl rfl (hx.c _ _ (hgx _)) rfl ⟨rfl, rfl⟩) ?_ | refine TAL.r rfl rfl rfl (fun h' hx hn => qah (sz := 33) rfl rfl (hx.c _ _ (gl _)) (Nat.le_refl _) ⟨rfl, rfl⟩) ?_ | refine TAL.p rfl rfl rfl (fun h' hn => qan rfl ⟨rfl, rfl⟩) ?_ | refine TAL.p rfl rfl rfl (fun h' hn => qai (v := .bool _) rfl rfl ⟨rfl, rfl⟩) ?_ | refine TAL.s rfl rfl rfl (fun h' hn hx => qae rfl rfl hx rfl ⟨rfl, rfl⟩) ?_ | refine TAL.rP rfl rfl rfl (fun h' hx hn => qa9 rfl rfl rfl ⟨rfl, rfl⟩) (fun c => ?_) (fun c => ?_) | refine TAL.pP rfl rfl rfl (fun h' hn => qa9 rfl rfl rfl ⟨rfl, rfl⟩) (fun c => ?_) (fun c => ?_))
   all_goals refine TAL.wj0 rfl rfl (qap (vs := actC actV0 (namedA a)) rfl (by rw [hn]; rfl) rfl (by rw [hn]; exact qaF (hq h (Ext.refl h))) (gj _) rfl ⟨(Heap.set_other (Nat.ne_of_lt n1)).trans (hgx _), ?_⟩)
   repeat' (first | refine TAL.nil ?_ | refine TAL.r rfl rfl rfl (fun h' hx hn => qaa rfl ⟨rfl, rfl⟩) ?_)
   repeat' (first | refine AWp.ret ?_)
   all_goals refine ⟨_, ResV.cell2 rfl rfl rfl (Heap.set_at _ _ _) (Nat.le_refl _), actV0, congrArg (fun b => Value.tuple #[.agg (actC actV0 (namedA a)).toArray, .bool b]) ?_, by rw [hn]; exact hq _ (xf _ _), xf _ _⟩
   all_goals clear hz xf xl gj hgx gl n2 wf2 n1 wf r hq hn ho
   all_goals grind
 by_cases k3 : a.kind = 8 ∨ a.kind = 13
 ·
  have hn : namedA a = { act0 with kind := a.kind, node := a.node } := by unfold namedA; grind
  have ho : rokA nodes groups a = nodeB nodes a := by unfold rokA; rw [if_neg k1, if_neg k2, if_pos k3]
  have hq : ∀ h', Ext h h' → ActR h' actV0 { act0 with kind := a.kind, node := a.node } := fun h' x => ⟨(hz h').ra, (hz h').rc, (hz h').rk⟩
  rw [ho]
  rcases k3 with k | k <;>
  ·
   repeat (first | refine W.w ?_ | refine AWp.c8 rfl ?_ | refine AWp.c9 rfl ?_ | refine AL.eff rfl (qaD (v := .int .i64 a.node) rfl rfl rfl rfl ?_) | refine AL.eff rfl (qap (vs := actC actV0 (namedA a)) rfl (by rw [hn]; rfl) rfl (by rw [hn]; exact qaF (hq h (Ext.refl h))) (gj _) rfl ?_) | (refine zz rfl ?_; first | refine qag rfl ?_ | refine qaa rfl ?_ | refine qan rfl ?_ | refine qae rfl rfl (hgx _) rfl ?_ | refine qah (sz := 33) rfl rfl (gl _) (Nat.le_refl _) ?_ | refine qaj rfl rfl rfl (by omega) ?_ | refine qak rfl rfl rfl (by omega) ?_))
   exact ⟨_, ResV.cell2 rfl rfl rfl (Heap.set_at _ _ _) (Nat.le_refl _), actV0, rfl, by rw [hn]; exact hq _ (xf _ _), xf _ _⟩
 by_cases k4 : a.kind = 9
 ·
  have hn : namedA a = { act0 with kind := a.kind, node := a.node, cmd := a.cmd } := by unfold namedA; grind
  have ho : rokA nodes groups a = (nodeB nodes a && mayC a.cmd && decide (a.cmd.kind = 6 ∨ a.cmd.kind = 7 ∨ a.cmd.kind = 8)) := by unfold rokA; rw [if_neg k1, if_neg k2, if_neg k3, if_pos k4]
  have hq : ∀ h', Ext h h' → ActR h' { actV0 with c := p.c } { act0 with kind := a.kind, node := a.node, cmd := a.cmd } := fun h' x => ⟨(hz h').ra, (r.ext x).rc, (hz h').rk⟩
  rw [ho]
  repeat (first | refine W.w ?_ | refine AWp.c8 rfl ?_ | refine AWp.c9 rfl ?_ | (refine zz rfl ?_; first | refine qaa rfl ?_ | refine qan rfl ?_ | refine qae rfl rfl (hgx _) rfl ?_ | refine qaj rfl rfl rfl (by omega) ?_ | refine qak rfl rfl rfl (by omega) ?_))
  refine AWp.treeJ (fun H => H.get h.next = some ⟨actC p a, 40, true⟩) (fun _ _ a b => b.c _ _ a) (t := OT.seq [(0, .P), (1, .S), (2, .P), (3, .S), (4, .P), (5, .W), (6, .P), (7, .W)] .nil) mixed (by kernel_rfl) (hgx _) ?_
  repeat (first | refine TAL.p rfl rfl rfl (fun h' hn => qan rfl ⟨rfl, rfl⟩) ?_ | refine TAL.s rfl rfl rfl (fun h' hn hx => qae rfl rfl hx rfl ⟨rfl, rfl⟩) ?_ | refine TAL.s rfl rfl rfl (fun h' hn hx => qah (sz := 20) rfl rfl hx (Nat.le_of_ble_eq_true rfl) ⟨rfl, rfl⟩) ?_)
  refine TAL.wj0 rfl rfl (qaD (v := .int .i64 a.node) rfl rfl rfl rfl ⟨hgx _, ?_⟩)
  repeat (first | refine TAL.p rfl rfl rfl (fun h' hn => qan rfl ⟨rfl, rfl⟩) ?_)
  refine TAL.wj0 rfl rfl (qbn (vs := cmdC p.c a.cmd) rfl rfl rfl (qbg r.rc) rfl ⟨hgx _, ?_⟩)
  refine TAL.nil ?_
  repeat (first | refine W.w ?_ | (refine zz rfl ?_; first | refine qad rfl ?_ | refine qan rfl ?_ | refine qae rfl rfl (hgx _) rfl ?_))
  cases nodeB nodes a <;>
  ·
   refine AWp.treeJ (fun H => H.get h.next = some ⟨actC p a, 40, true⟩) (fun _ _ a b => b.c _ _ a) (t := OT.seq [(0, .R), (1, .R), (2, .R), (3, .R), (4, .R), (5, .R), (6, .R), (7, .R), (8, .R), (9, .R), (10, .R), (11, .R), (12, .R), (13, .R), (14, .R), (15, .P), (16, .P), (17, .P), (18, .P), (19, .W), (20, .R)] .nil) mixed (by kernel_rfl) (hgx _) ?_
   repeat' (first | refine TAL.skip rfl rfl rfl ?_ | refine TAL.r rfl rfl rfl (fun h' hx hn => qac rfl ⟨rfl, rfl⟩) ?_ | refine TAL.r rfl rfl rfl (fun h' hx hn => qag rfl ⟨rfl, rfl⟩) ?_ | refine TAL.p rfl rfl rfl (fun h' hn => qac rfl ⟨rfl, rfl⟩) ?_ | refine TAL.rB rfl rfl rfl (fun h' hx hn => qab rfl rfl (rcmay_c p.c a.cmd h' (r.rc.ext ((xl _).trans hx))) ⟨rfl, rfl⟩) (fun c => ?_) (fun c => ?_) | refine TAL.r rfl rfl rfl (fun h' hx hn => qan rfl ⟨rfl, rfl⟩) ?_ | refine TAL.r rfl rfl rfl (fun h' hx hn => qah (sz := 33) rfl rfl (hx.c _ _ (gl _)) (Nat.le_refl _) ⟨rfl, rfl⟩) ?_ | refine TAL.r rfl rfl rfl (fun h' hx hn => qah (sz := 20) rfl rfl (hx.c _ _ (hgx _)) (Nat.le_of_ble_eq_true rfl) ⟨rfl, rfl⟩) ?_ | refine TAL.r rfl rfl rfl (fun h' hx hn => qai (v := .bool _) rfl rfl ⟨rfl, rfl⟩) ?_ | refine TAL.p rfl rfl rfl (fun h' hn => qai (v := .bool _) rfl rfl ⟨rfl, rfl⟩) ?_ | refine TAL.rP rfl rfl rfl (fun h' hx hn => qa9 rfl rfl rfl ⟨rfl, rfl⟩) (fun c => ?_) (fun c => ?_) | refine TAL.pP rfl rfl rfl (fun h' hn => qa9 rfl rfl rfl ⟨rfl, rfl⟩) (fun c => ?_) (fun c => ?_))
   all_goals refine TAL.wj0 rfl rfl (qap (vs := actC { actV0 with c := p.c } (namedA a)) rfl (by rw [hn]; rfl) rfl (by rw [hn]; exact qaF (hq h (Ext.refl h))) (gj _) rfl ⟨(Heap.set_other (Nat.ne_of_lt n1)).trans (hgx _), ?_⟩)
   repeat' (first | refine TAL.nil ?_ | refine TAL.r rfl rfl rfl (fun h' hx hn => qaa rfl ⟨rfl, rfl⟩) ?_)
   repeat' (first | refine AWp.ret ?_)
   all_goals refine ⟨_, ResV.cell2 rfl rfl rfl (Heap.set_at _ _ _) (Nat.le_refl _), { actV0 with c := p.c }, congrArg (fun b => Value.tuple #[.agg (actC { actV0 with c := p.c } (namedA a)).toArray, .bool b]) ?_, by rw [hn]; exact hq _ (xf _ _), xf _ _⟩
   all_goals clear hz xf xl gj hgx gl n2 wf2 n1 wf r hq hn ho
   all_goals grind
 by_cases k5 : a.kind = 10
 ·
  have hn : namedA a = { act0 with kind := a.kind, node := a.node, group := a.group, client := a.client, ask := a.ask } := by unfold namedA; grind
  have ho : rokA nodes groups a = (clientB a && nodeB nodes a && groupB groups a && mayAsk a.ask) := by unfold rokA; rw [if_neg k1, if_neg k2, if_neg k3, if_neg k4, if_pos k5]
  have hq : ∀ h', Ext h h' → ActR h' { actV0 with q := p.q } { act0 with kind := a.kind, node := a.node, group := a.group, client := a.client, ask := a.ask } := fun h' x => ⟨(r.ext x).ra, (hz h').rc, (hz h').rk⟩
  rw [ho]
  repeat (first | refine W.w ?_ | refine AWp.c8 rfl ?_ | refine AWp.c9 rfl ?_ | (refine zz rfl ?_; first | refine qaa rfl ?_ | refine qan rfl ?_ | refine qae rfl rfl (hgx _) rfl ?_ | refine qaj rfl rfl rfl (by omega) ?_ | refine qak rfl rfl rfl (by omega) ?_))
  refine AWp.treeJ (fun H => H.get h.next = some ⟨actC p a, 40, true⟩) (fun _ _ a b => b.c _ _ a) (t := OT.seq [(0, .P), (1, .S), (2, .P), (3, .S), (4, .P), (5, .S), (6, .P), (7, .S), (8, .P), (9, .W), (10, .P), (11, .W), (12, .P), (13, .W), (14, .P), (15, .W)] .nil) mixed (by kernel_rfl) (hgx _) ?_
  repeat (first | refine TAL.p rfl rfl rfl (fun h' hn => qan rfl ⟨rfl, rfl⟩) ?_ | refine TAL.s rfl rfl rfl (fun h' hn hx => qae rfl rfl hx rfl ⟨rfl, rfl⟩) ?_ | refine TAL.s rfl rfl rfl (fun h' hn hx => qah (sz := 7) rfl rfl hx (Nat.le_of_ble_eq_true rfl) ⟨rfl, rfl⟩) ?_)
  refine TAL.wj0 rfl rfl (qaD (v := .int .i64 a.client) rfl rfl rfl rfl ⟨hgx _, ?_⟩)
  repeat (first | refine TAL.p rfl rfl rfl (fun h' hn => qan rfl ⟨rfl, rfl⟩) ?_)
  refine TAL.wj0 rfl rfl (qaD (v := .int .i64 a.node) rfl rfl rfl rfl ⟨hgx _, ?_⟩)
  repeat (first | refine TAL.p rfl rfl rfl (fun h' hn => qan rfl ⟨rfl, rfl⟩) ?_)
  refine TAL.wj0 rfl rfl (qaD (v := .int .i64 a.group) rfl rfl rfl rfl ⟨hgx _, ?_⟩)
  repeat (first | refine TAL.p rfl rfl rfl (fun h' hn => qan rfl ⟨rfl, rfl⟩) ?_)
  refine TAL.wj0 rfl rfl (qbn (vs := askC p.q a.ask) rfl rfl rfl (qbO r.ra) rfl ⟨hgx _, ?_⟩)
  refine TAL.nil ?_
  cases clientB a <;> cases nodeB nodes a <;> cases groupB groups a <;>
  ·
   repeat (first | refine AWp.seq ?_)
   refine AWp.treeJ (fun H => H.get h.next = some ⟨actC p a, 40, true⟩) (fun _ _ a b => b.c _ _ a) (t := OT.seq [(0, .R), (1, .R), (2, .R), (3, .R), (4, .R), (5, .R), (6, .R), (7, .R), (8, .R), (9, .R), (10, .R), (11, .R), (12, .P), (13, .W), (14, .R)] .nil) mixed (by kernel_rfl) (hgx _) ?_
   repeat' (first | refine TAL.skip rfl rfl rfl ?_ | refine TAL.r rfl rfl rfl (fun h' hx hn => qag rfl ⟨rfl, rfl⟩) ?_ | refine TAL.rB rfl rfl rfl (fun h' hx hn => qab rfl rfl (qfU p.q a.ask h' (r.ra.ext ((xl _).trans hx))) ⟨rfl, rfl⟩) (fun c => ?_) (fun c => ?_) | refine TAL.r rfl rfl rfl (fun h' hx hn => qan rfl ⟨rfl, rfl⟩) ?_ | refine TAL.r rfl rfl rfl (fun h' hx hn => qah (sz := 33) rfl rfl (hx.c _ _ (gl _)) (Nat.le_refl _) ⟨rfl, rfl⟩) ?_ | refine TAL.r rfl rfl rfl (fun h' hx hn => qah (sz := 7) rfl rfl (hx.c _ _ (hgx _)) (Nat.le_of_ble_eq_true rfl) ⟨rfl, rfl⟩) ?_ | refine TAL.r rfl rfl rfl (fun h' hx hn => qai (v := .bool _) rfl rfl ⟨rfl, rfl⟩) ?_ | refine TAL.p rfl rfl rfl (fun h' hn => qai (v := .bool _) rfl rfl ⟨rfl, rfl⟩) ?_)
   all_goals refine TAL.wj0 rfl rfl (qap (vs := actC { actV0 with q := p.q } (namedA a)) rfl (by rw [hn]; rfl) rfl (by rw [hn]; exact qaF (hq h (Ext.refl h))) (gj _) rfl ⟨(Heap.set_other (Nat.ne_of_lt n1)).trans (hgx _), ?_⟩)
   repeat' (first | refine TAL.nil ?_ | refine TAL.r rfl rfl rfl (fun h' hx hn => qaa rfl ⟨rfl, rfl⟩) ?_)
   repeat' (first | refine AWp.ret ?_)
   all_goals refine ⟨_, ResV.cell2 rfl rfl rfl (Heap.set_at _ _ _) (Nat.le_refl _), { actV0 with q := p.q }, congrArg (fun b => Value.tuple #[.agg (actC { actV0 with q := p.q } (namedA a)).toArray, .bool b]) ?_, by rw [hn]; exact hq _ (xf _ _), xf _ _⟩
   all_goals clear hz xf xl gj hgx gl n2 wf2 n1 wf r hq hn ho
   all_goals grind
 by_cases k6 : a.kind = 11
 ·
  have hn : namedA a = { act0 with kind := a.kind, node := a.node, group := a.group, client := a.client } := by unfold namedA; grind
  have ho : rokA nodes groups a = (clientB a && nodeB nodes a && groupB groups a) := by unfold rokA; rw [if_neg k1, if_neg k2, if_neg k3, if_neg k4, if_neg k5, if_pos k6]
  have hq : ∀ h', Ext h h' → ActR h' actV0 { act0 with kind := a.kind, node := a.node, group := a.group, client := a.client } := fun h' x => ⟨(hz h').ra, (hz h').rc, (hz h').rk⟩
  rw [ho]
  repeat (first | refine W.w ?_ | refine AWp.c8 rfl ?_ | refine AWp.c9 rfl ?_ | (refine zz rfl ?_; first | refine qaa rfl ?_ | refine qan rfl ?_ | refine qae rfl rfl (hgx _) rfl ?_ | refine qaj rfl rfl rfl (by omega) ?_ | refine qak rfl rfl rfl (by omega) ?_))
  refine AWp.treeJ (fun H => H.get h.next = some ⟨actC p a, 40, true⟩) (fun _ _ a b => b.c _ _ a) (t := OT.seq [(0, .P), (1, .S), (2, .P), (3, .S), (4, .P), (5, .S), (6, .P), (7, .W), (8, .P), (9, .W), (10, .P), (11, .W)] .nil) mixed (by kernel_rfl) (hgx _) ?_
  repeat (first | refine TAL.p rfl rfl rfl (fun h' hn => qan rfl ⟨rfl, rfl⟩) ?_ | refine TAL.s rfl rfl rfl (fun h' hn hx => qae rfl rfl hx rfl ⟨rfl, rfl⟩) ?_)
  refine TAL.wj0 rfl rfl (qaD (v := .int .i64 a.client) rfl rfl rfl rfl ⟨hgx _, ?_⟩)
  repeat (first | refine TAL.p rfl rfl rfl (fun h' hn => qan rfl ⟨rfl, rfl⟩) ?_)
  refine TAL.wj0 rfl rfl (qaD (v := .int .i64 a.node) rfl rfl rfl rfl ⟨hgx _, ?_⟩)
  repeat (first | refine TAL.p rfl rfl rfl (fun h' hn => qan rfl ⟨rfl, rfl⟩) ?_)
  refine TAL.wj0 rfl rfl (qaD (v := .int .i64 a.group) rfl rfl rfl rfl ⟨hgx _, ?_⟩)
  refine TAL.nil ?_
  cases clientB a <;> cases nodeB nodes a <;> cases groupB groups a <;>
  ·
   repeat (first | refine W.w ?_ | refine AL.skip rfl rfl ?_ | refine AL.eff rfl (qap (vs := actC actV0 (namedA a)) rfl (by rw [hn]; rfl) rfl (by rw [hn]; exact qaF (hq h (Ext.refl h))) (gj _) rfl ?_) | (refine zz rfl ?_; first | refine qag rfl ?_ | refine qaa rfl ?_ | refine qah (sz := 33) rfl rfl (gl _) (Nat.le_refl _) ?_ | refine qai (v := .bool _) rfl rfl ?_))
   exact ⟨_, ResV.cell2 rfl rfl rfl (Heap.set_at _ _ _) (Nat.le_refl _), actV0, rfl, by rw [hn]; exact hq _ (xf _ _), xf _ _⟩
 by_cases k7 : a.kind = 12
 ·
  have hn : namedA a = { act0 with kind := a.kind, node := a.node, keep := a.keep } := by unfold namedA; grind
  have ho : rokA nodes groups a = (nodeB nodes a && kp a.keep) := by unfold rokA; rw [if_neg k1, if_neg k2, if_neg k3, if_neg k4, if_neg k5, if_neg k6, if_pos k7]
  have hq : ∀ h', Ext h h' → ActR h' { actV0 with k := p.k } { act0 with kind := a.kind, node := a.node, keep := a.keep } := fun h' x => ⟨(hz h').ra, (hz h').rc, (r.ext x).rk⟩
  rw [ho]
  repeat (first | refine W.w ?_ | refine AWp.c8 rfl ?_ | refine AWp.c9 rfl ?_ | (refine zz rfl ?_; first | refine qaa rfl ?_ | refine qan rfl ?_ | refine qae rfl rfl (hgx _) rfl ?_ | refine qaj rfl rfl rfl (by omega) ?_ | refine qak rfl rfl rfl (by omega) ?_))
  refine AWp.treeJ (fun H => H.get h.next = some ⟨actC p a, 40, true⟩) (fun _ _ a b => b.c _ _ a) (t := OT.seq [(0, .P), (1, .S), (2, .P), (3, .S), (4, .P), (5, .W), (6, .P), (7, .W)] .nil) mixed (by kernel_rfl) (hgx _) ?_
  repeat (first | refine TAL.p rfl rfl rfl (fun h' hn => qan rfl ⟨rfl, rfl⟩) ?_ | refine TAL.s rfl rfl rfl (fun h' hn hx => qae rfl rfl hx rfl ⟨rfl, rfl⟩) ?_)
  refine TAL.wj0 rfl rfl (qaD (v := .int .i64 a.node) rfl rfl rfl rfl ⟨hgx _, ?_⟩)
  repeat (first | refine TAL.p rfl rfl rfl (fun h' hn => qan rfl ⟨rfl, rfl⟩) ?_)
  refine TAL.wj0 rfl rfl (qaD (v := p.k) rfl rfl r.rk.one rfl ⟨hgx _, ?_⟩)
  refine TAL.nil ?_
  cases nodeB nodes a <;>
  ·
   repeat (first | refine AWp.seq ?_)
   refine AWp.treeJ (fun H => H.get h.next = some ⟨actC p a, 40, true⟩) (fun _ _ a b => b.c _ _ a) (t := OT.seq [(0, .R), (1, .R), (2, .R), (3, .R), (4, .R), (5, .R), (6, .P), (7, .W), (8, .R)] .nil) mixed (by kernel_rfl) (hgx _) ?_
   repeat' (first | refine TAL.skip rfl rfl rfl ?_ | refine TAL.r rfl rfl rfl (fun h' hx hn => qag rfl ⟨rfl, rfl⟩) ?_ | refine TAL.rB rfl rfl rfl (fun h' hx hn => qab rfl rfl (rkeep_c p.k a.keep h' (r.rk.ext ((xl _).trans hx))) ⟨rfl, rfl⟩) (fun c => ?_) (fun c => ?_) | refine TAL.r rfl rfl rfl (fun h' hx hn => qan rfl ⟨rfl, rfl⟩) ?_ | refine TAL.r rfl rfl rfl (fun h' hx hn => qae rfl rfl (hx.c _ _ (hgx _)) rfl ⟨rfl, rfl⟩) ?_ | refine TAL.r rfl rfl rfl (fun h' hx hn => qah (sz := 33) rfl rfl (hx.c _ _ (gl _)) (Nat.le_refl _) ⟨rfl, rfl⟩) ?_ | refine TAL.p rfl rfl rfl (fun h' hn => qai (v := .bool _) rfl rfl ⟨rfl, rfl⟩) ?_)
   all_goals refine TAL.wj0 rfl rfl (qap (vs := actC { actV0 with k := p.k } (namedA a)) rfl (by rw [hn]; rfl) rfl (by rw [hn]; exact qaF (hq h (Ext.refl h))) (gj _) rfl ⟨(Heap.set_other (Nat.ne_of_lt n1)).trans (hgx _), ?_⟩)
   repeat' (first | refine TAL.nil ?_ | refine TAL.r rfl rfl rfl (fun h' hx hn => qaa rfl ⟨rfl, rfl⟩) ?_)
   repeat' (first | refine AWp.ret ?_)
   all_goals refine ⟨_, ResV.cell2 rfl rfl rfl (Heap.set_at _ _ _) (Nat.le_refl _), { actV0 with k := p.k }, congrArg (fun b => Value.tuple #[.agg (actC { actV0 with k := p.k } (namedA a)).toArray, .bool b]) ?_, by rw [hn]; exact hq _ (xf _ _), xf _ _⟩
   all_goals clear hz xf xl gj hgx gl n2 wf2 n1 wf r hq hn ho
   all_goals grind
 ·
  have hn : namedA a = { act0 with kind := a.kind } := by unfold namedA; grind
  have ho : rokA nodes groups a = false := by unfold rokA; rw [if_neg k1, if_neg k2, if_neg k3, if_neg k4, if_neg k5, if_neg k6, if_neg k7]
  have hq : ∀ h', Ext h h' → ActR h' actV0 { act0 with kind := a.kind } := fun h' x => ⟨(hz h').ra, (hz h').rc, (hz h').rk⟩
  rw [ho]
  repeat (first | refine W.w ?_ | refine AWp.c9 rfl ?_ | refine AL.eff rfl (qap (vs := actC actV0 (namedA a)) rfl (by rw [hn]; rfl) rfl (by rw [hn]; exact qaF (hq h (Ext.refl h))) (gj _) rfl ?_) | (refine zz rfl ?_; first | refine qaa rfl ?_ | refine qan rfl ?_ | refine qae rfl rfl (hgx _) rfl ?_ | refine qah (sz := 33) rfl rfl (gl _) (Nat.le_refl _) ?_ | refine qak rfl rfl rfl (by omega) ?_))
  exact ⟨_, ResV.cell2 rfl rfl rfl (Heap.set_at _ _ _) (Nat.le_refl _), actV0, rfl, by rw [hn]; exact hq _ (xf _ _), xf _ _⟩
instance i_rcheck : FnC Tryz.prog 36 := ⟨Tryz.f36, Tryz.func36, by kernel_rfl, by kernel_rfl⟩
instance i_rmaySet : FnC Tryz.prog 32 := ⟨Tryz.f32, Tryz.func32, by kernel_rfl, by kernel_rfl⟩
theorem rmay_c (p : ActV) (a : ActM) (nodes groups : Int) (h : Heap) (r : ActR h p a) : ACalls Tryz.prog 41 [.agg (actC p a).toArray, .int .i64 nodes, .int .i64 groups] h fun u h' => u = .bool (mayAct nodes groups a) ∧ h' = h := by
 refine ACalls.wf fun wf => ACalls.reset ?_
 refine ACalls.body Tryz.func41 rfl rfl ?_
 repeat (first | refine W.w ?_ | refine zz rfl (qaa rfl ?_) | refine zz rfl (qaK rfl (by intro e; cases e) ?_))
 generalize hH : h.alloc _ = H
 have hg : H.get h.next = some ⟨actC p a, 40, true⟩ := hH ▸ Heap.alloc_new _ _
 have hx : Ext h H := hH ▸ wf.ext _
 have wfH : WF H := hH ▸ wf.alloc _
 clear hH
 rw [may_d]
 have rH := r.ext hx
 repeat (first | refine zz rfl (qac rfl ?_) | refine zz rfl (qah (sz := 33) rfl rfl hg (Nat.le_refl _) ?_))
 refine zz rfl (qar (evs := [.agg (actC p a).toArray, .int .i64 nodes, .int .i64 groups]) rfl rfl ((rabare_c p a nodes groups H rH).wf_post.mono ?_))
 rintro _ H1 ⟨⟨q, rfl, rq, x1⟩, wf1, _⟩
 repeat (first | refine W.w ?_ | refine AL.eff rfl (qaI (vs := actC q (namedA a)) rfl rfl rfl rfl (qaF rq) ?_) | (refine zz rfl ?_; first | refine qag rfl ?_ | refine qaH rfl ?_ | refine qaa rfl ?_ | refine qau rfl rfl ?_ | refine qat ?_))
 obtain ⟨H2, hQ, g2, x2, _, _⟩ := aq wf1 ⟨actC q (namedA a), 40, true⟩
 rw [hQ]
 have hxx := hx.trans (x1.trans x2)
 have cs := qfa q p (namedA a) a H2 (rq.ext x2) (r.ext hxx)
 have hg2 := x2.c _ _ (x1.c _ _ hg)
 cases ho : rokA nodes groups a with
 | false =>
  repeat' (first | refine W.w ?_ | refine AL.skip rfl rfl ?_ | refine zz rfl (qaa rfl ?_) | refine zz rfl (qai (v := .bool _) rfl rfl ?_))
  exact ⟨_, ResV.tmp rfl, rfl, hxx, rfl, rfl⟩
 | true =>
  repeat (first | refine W.w ?_ | (refine zz rfl ?_; first | refine qaa rfl ?_ | refine qah (sz := 33) rfl rfl g2 (Nat.le_refl _) ?_ | refine qah (sz := 33) rfl rfl hg2 (Nat.le_refl _) ?_ | refine qab rfl rfl cs ?_ | refine qai (v := .bool _) rfl rfl ?_))
  exact ⟨_, ResV.tmp rfl, rfl, hxx, rfl, rfl⟩
theorem rmayIn_c (x : SetM) (vg : Value) (p : ActV) (a : ActM) (h : Heap) (rg : RG h vg x.groups) (r : ActR h p a) : ACalls Tryz.prog 17 [.agg (setC vg x).toArray, .agg (actC p a).toArray] h fun u h' => u = .bool (mayIn x a) ∧ h' = h := by
 refine ACalls.wf fun wf => ACalls.reset ?_
 refine ACalls.body Tryz.func17 rfl rfl ?_
 repeat (first | refine W.w ?_ | refine zz rfl (qaa rfl ?_) | refine zz rfl (qaK rfl (by intro e; cases e) ?_))
 generalize hH : h.alloc _ = H1
 have hg0 : H1.get h.next = some ⟨setC vg x, 24, true⟩ := hH ▸ Heap.alloc_new _ _
 have hx1 : Ext h H1 := hH ▸ wf.ext _
 have wf1 : WF H1 := hH ▸ wf.alloc _
 skip
 generalize hH2 : H1.alloc _ = H
 have hg2 : H.get H1.next = some ⟨actC p a, 40, true⟩ := hH2 ▸ Heap.alloc_new _ _
 have hx2 : Ext H1 H := hH2 ▸ wf1.ext _
 have hg1 : H.get h.next = some ⟨setC vg x, 24, true⟩ := hx2.c _ _ hg0
 have hx : Ext h H := hx1.trans hx2
 clear hH hH2
 have cs := qc0 x vg H (rg.ext hx)
 have cm := rmay_c p a x.nodes x.groups.length H (r.ext hx)
 obtain ⟨vs, gg1, gg2, _⟩ := rg.ext hx
 rw [← gg2] at cm
 unfold mayIn
 cases hs : maySet x with
 | false =>
  rw [hs] at cs
  repeat (first | refine W.w ?_ | refine AL.skip rfl rfl ?_ | (refine zz rfl ?_; first | refine qag rfl ?_ | refine qaa rfl ?_ | refine qah (sz := 5) rfl rfl hg1 (Nat.le_refl _) ?_ | refine qab rfl rfl cs ?_ | refine qai (v := .bool _) rfl rfl ?_))
  exact ⟨_, ResV.tmp rfl, rfl, hx, rfl, rfl⟩
 | true =>
  rw [hs] at cs
  repeat (first | refine W.w ?_ | (refine zz rfl ?_; first | refine qag rfl ?_ | refine qaa rfl ?_ | refine qah (sz := 5) rfl rfl hg1 (Nat.le_refl _) ?_ | refine qab rfl rfl cs ?_ | refine qah (sz := 33) rfl rfl hg2 (Nat.le_refl _) ?_ | refine qan rfl ?_ | refine qae rfl rfl hg1 rfl ?_ | refine qaJ gg1 rfl ?_ | refine qab rfl rfl cm ?_ | refine qai (v := .bool _) rfl rfl ?_))
  exact ⟨_, ResV.tmp rfl, rfl, hx, by rw [gg2]; rfl, rfl⟩
theorem rcheck_c (s : ScrM) (vg va : Value) (h : Heap) (rg : RG h vg s.setup.groups) (r : RA h va s.acts) : ACalls Tryz.prog 36 [.agg (scrC vg va s.setup).toArray] h fun u h' => u = .tuple #[.int .i64 (checkM s).1, .int .i64 (checkM s).2] ∧ h' = h := by
 refine ACalls.wf fun wf => ACalls.resetB ?_
 have hB : ∀ a b : Int, Bdd h.next (.tuple #[.int .i64 a, .int .i64 b]) := fun a b => Bdd.plain (by simp [plainV, scalar])
 refine ACalls.body Tryz.func36 rfl rfl ?_
 repeat (first | refine W.w ?_ | refine zz rfl (qad rfl ?_) | refine zz rfl (qaK rfl (by intro e; cases e) ?_))
 generalize hH : h.alloc _ = H
 have hg : H.get h.next = some (scrB vg va s.setup) := hH ▸ Heap.alloc_new _ _
 have hx0 : Ext h H := hH ▸ wf.ext _
 clear hH
 have cs := qc0 s.setup vg H (rg.ext hx0)
 cases hs : maySet s.setup with
 | false =>
  rw [hs] at cs
  repeat (first | refine W.w ?_ | refine AWp.c8 rfl ?_ | (refine zz rfl ?_; first | refine qad rfl ?_ | refine qan rfl ?_ | refine qah (sz := 5) rfl rfl hg (Nat.le_of_ble_eq_true rfl) ?_ | refine qab rfl rfl cs ?_ | refine qaE rfl ?_))
  exact ⟨_, ResV.tmp2 rfl, hB _ _, hx0, by unfold checkM; rw [hs]; rfl, rfl⟩
 | true =>
  rw [hs] at cs
  have rH := r.ext hx0
  obtain ⟨rows, r1, r2, r3⟩ := rH.ex
  have hlen := r.len
  repeat (first | refine W.w ?_ | refine AWp.c9 rfl ?_ | (refine zz rfl ?_; first | refine qad rfl ?_ | refine qan rfl ?_ | refine qah (sz := 5) rfl rfl hg (Nat.le_of_ble_eq_true rfl) ?_ | refine qab rfl rfl cs ?_ | refine qaE rfl ?_))
  refine AWp.loop (α := Nat) (fun k => [(1, ptr h.next), (4, .int .i64 (k : Nat))]) (fun _ => H) (fun k => k ≤ s.acts.length ∧ (s.acts.take k).all (fun a => !!mayIn s.setup a) = true) (fun k => s.acts.length - k) 0 ⟨Nat.zero_le _, rfl⟩ (Weak.same (EW.cons rfl (EW.cons rfl EW.nil))) ?_
  rintro k ⟨hk, ha⟩
  by_cases hlt : k < s.acts.length
  ·
   obtain ⟨a, hla⟩ : ∃ a, s.acts[k]? = some a := ⟨_, List.getElem?_eq_getElem hlt⟩
   obtain ⟨row, hrow⟩ : ∃ row, rows[k]? = some row := ⟨_, List.getElem?_eq_getElem (by omega)⟩
   obtain ⟨q, rfl, hq⟩ := r3 k row a hrow hla
   have hrw : rows[((k : Nat) : Int).toNat]? = some (actC q a) := hrow
   have pe := r1.elt hrw
   have hst := qb7 (p := fun a => !!mayIn s.setup a) hla
   rw [ha, Bool.true_and] at hst
   have cm := fun (h' : Heap) (hx : Ext H h') => rmayIn_c s.setup vg q a h' (rg.ext (hx0.trans hx)) (hq.ext hx)
   cases hm : mayIn s.setup a with
   | true =>
    rw [hm] at cm hst
    repeat (first | refine W.w ?_ | refine AWp.c8 rfl ?_ | (refine zz rfl ?_; first | refine qac rfl ?_ | refine qan rfl ?_ | refine qae rfl rfl hg rfl ?_ | refine qav r1 rfl ?_ | refine qaj rfl rfl rfl (by omega) ?_))
    refine AWp.draw (σ := [(0, .R), (1, .R), (2, .R), (3, .R), (4, .R), (5, .R), (6, .R), (7, .R), (8, .R)]) mixed (by kernel_rfl) ?_
    repeat (first | refine DAL.r rfl rfl rfl (fun h' hx hn => qac rfl ⟨rfl, rfl⟩) ?_ | refine DAL.r rfl rfl rfl (fun h' hx hn => qan rfl ⟨rfl, rfl⟩) ?_ | refine DAL.r rfl rfl rfl (fun h' hx hn => qah (sz := 5) rfl rfl (hx.c _ _ hg) (Nat.le_of_ble_eq_true rfl) ⟨rfl, rfl⟩) ?_ | refine DAL.r rfl rfl rfl (fun h' hx hn => qae rfl rfl (hx.c _ _ hg) rfl ⟨rfl, rfl⟩) ?_ | refine DAL.r rfl rfl rfl (fun h' hx hn => qaz (r1.ext hx) rfl rfl (by omega) hrw ⟨rfl, rfl⟩) ?_ | refine DAL.r rfl rfl rfl (fun h' hx hn => qaP (pe.ext hx) rfl rfl rfl ⟨rfl, rfl⟩) ?_ | refine DAL.r rfl rfl rfl (fun h' hx hn => qab rfl rfl (cm h' hx) ⟨rfl, rfl⟩) ?_ | refine DAL.r rfl rfl rfl (fun h' hx hn => qaE rfl ⟨rfl, rfl⟩) ?_)
    refine DAL.nil ?_
    repeat (first | refine W.w ?_ | refine AWp.c9 rfl ?_ | (refine zz rfl ?_; first | refine qac rfl ?_ | refine qad rfl ?_ | refine qas rfl rfl (by omega) ?_))
    exact ⟨k + 1, ⟨hlt, hst⟩, by omega, Weak.same (EW.cons rfl (EW.cons rfl EW.nil))⟩
   | false =>
    rw [hm] at cm
    repeat (first | refine W.w ?_ | refine AWp.c8 rfl ?_ | (refine zz rfl ?_; first | refine qac rfl ?_ | refine qan rfl ?_ | refine qae rfl rfl hg rfl ?_ | refine qav r1 rfl ?_ | refine qaj rfl rfl rfl (by omega) ?_))
    refine AWp.draw (σ := [(0, .R), (1, .R), (2, .R), (3, .R), (4, .R), (5, .R), (6, .R), (7, .R), (8, .R)]) mixed (by kernel_rfl) ?_
    repeat (first | refine DAL.r rfl rfl rfl (fun h' hx hn => qac rfl ⟨rfl, rfl⟩) ?_ | refine DAL.r rfl rfl rfl (fun h' hx hn => qan rfl ⟨rfl, rfl⟩) ?_ | refine DAL.r rfl rfl rfl (fun h' hx hn => qah (sz := 5) rfl rfl (hx.c _ _ hg) (Nat.le_of_ble_eq_true rfl) ⟨rfl, rfl⟩) ?_ | refine DAL.r rfl rfl rfl (fun h' hx hn => qae rfl rfl (hx.c _ _ hg) rfl ⟨rfl, rfl⟩) ?_ | refine DAL.r rfl rfl rfl (fun h' hx hn => qaz (r1.ext hx) rfl rfl (by omega) hrw ⟨rfl, rfl⟩) ?_ | refine DAL.r rfl rfl rfl (fun h' hx hn => qaP (pe.ext hx) rfl rfl rfl ⟨rfl, rfl⟩) ?_ | refine DAL.r rfl rfl rfl (fun h' hx hn => qab rfl rfl (cm h' hx) ⟨rfl, rfl⟩) ?_ | refine DAL.r rfl rfl rfl (fun h' hx hn => qaE rfl ⟨rfl, rfl⟩) ?_)
    refine DAL.nil ?_
    repeat (first | refine W.w ?_ | refine AWp.c8 rfl ?_ | refine zz rfl (qac rfl ?_) | refine zz rfl (qad rfl ?_))
    exact ⟨_, ResV.tmp2 rfl, hB _ _, hx0, by unfold checkM; rw [hs, qgM (p := fun a => !mayIn s.setup a) hla (by simp [hm]) ha]; rfl, rfl⟩
  ·
   obtain rfl : k = s.acts.length := by omega
   rw [List.take_length] at ha
   have hf := fi_none (p := fun a => !mayIn s.setup a) ha
   by_cases hl : 65536 < s.acts.length
   ·
    repeat (first | refine AL.nil ?_ | refine AWp.seq ?_ | refine AWp.r9 ?_ | refine AWp.c8 rfl ?_ | refine AWp.c9 rfl ?_ | refine AWp.ret ?_ | refine AWp.exit ?_ | (refine zz rfl ?_; first | refine qac rfl ?_ | refine qad rfl ?_ | refine qan rfl ?_ | refine qae rfl rfl hg rfl ?_ | refine qav r1 rfl ?_ | refine qak rfl rfl rfl (by omega) ?_ | refine qaj rfl rfl rfl (by omega) ?_))
    exact ⟨_, ResV.tmp2 rfl, hB _ _, hx0, by rw [show checkM s = (0, 3) by unfold checkM; rw [hs, hf]; simp [hl]]; rfl, rfl⟩
   ·
    repeat (first | refine AL.nil ?_ | refine AWp.seq ?_ | refine AWp.r9 ?_ | refine AWp.c9 rfl ?_ | refine AWp.ret ?_ | refine AWp.exit ?_ | refine AWp.k9 ?_ | (refine zz rfl ?_; first | refine qac rfl ?_ | refine qad rfl ?_ | refine qan rfl ?_ | refine qae rfl rfl hg rfl ?_ | refine qav r1 rfl ?_ | refine qak rfl rfl rfl (by omega) ?_))
    exact ⟨_, ResV.tmp2 rfl, hB _ _, hx0, by rw [show checkM s = (0, 0) by unfold checkM; rw [hs, hf]; simp [hl]]; rfl, rfl⟩
structure UlI (h : Heap) (j4 j6 : Nat) (q : ActV) (a : ActM) (H : Heap) : Prop where
 ext : Ext h H
 wf : WF H
 nx : h.next ≤ H.next
 n4 : h.next ≤ j4
 n6 : h.next ≤ j6
 ne : j4 ≠ j6
 g4 : H.get j4 = some ⟨actC actV0 act0, 40, true⟩
 g6 : H.get j6 = some ⟨actC q a, 40, true⟩
 o : ActO h.next H q a
def ulV (s : Bytes) : ActM × Int := match unlineR s with
 | some a => (a, 0)
 | none => (act0, 4)
instance i_rfirst : FnC Tryz.prog 109 := ⟨Tryz.f109, Tryz.func109, by kernel_rfl, by kernel_rfl⟩
instance i_rheads : FnC Tryz.prog 79 := ⟨Tryz.f79, Tryz.func79, by kernel_rfl, by kernel_rfl⟩
def SetI (x : SetM) : Prop := I64 x.nodes ∧ I64 x.disk ∧ I64 x.memory ∧ I64 x.level
theorem rfirst_c (x : SetM) (vg : Value) (hx : SetI x) (h : Heap) (t : Tabs h) : ACalls Tryz.prog 109 [.agg (setC vg x).toArray] h fun u h' => u = str (firstL x) ∧ h' = h := by
 obtain ⟨i1, i2, i3, i4⟩ := hx
 refine ACalls.wf fun wf => ACalls.reset ?_
 refine ACalls.body Tryz.func109 rfl rfl ?_
 repeat (first | refine W.w ?_ | refine zz rfl (qaf rfl ?_) | refine zz rfl (qaK rfl (by intro e; cases e) ?_))
 generalize hH : h.alloc _ = H
 have hg : H.get h.next = some ⟨setC vg x, 24, true⟩ := hH ▸ Heap.alloc_new _ _
 have xh : Ext h H := hH ▸ wf.ext _
 have wfH : WF H := hH ▸ wf.alloc _
 clear hH
 repeat (first | (refine zz rfl ?_; first | refine qan rfl ?_ | refine qae rfl rfl hg rfl ?_ | refine qaL (iv64 [x.nodes, x.disk, x.memory, x.level]) rfl rfl rfl rfl (qbL _) ?_))
 obtain ⟨H1, hQ, gr, xr, _, _⟩ := aq wfH ⟨iv64 [x.nodes, x.disk, x.memory, x.level], 3, true⟩
 rw [hQ]
 have cN := N_c wSetup (.slice (some ⟨H.next, 0, some 1⟩) 4 4) [x.nodes, x.disk, x.memory, x.level] H1 (RS.own gr rfl) (by intro n hn; simp only [List.mem_cons, List.not_mem_nil, or_false] at hn; rcases hn with rfl | rfl | rfl | rfl <;> assumption) (by show 5 + 22 * 4 ≤ 140737488351232; omega) (t.ext (xh.trans xr))
 repeat (first | refine W.w ?_ | refine zz rfl (qaf rfl ?_) | refine zz rfl (qab rfl rfl cN ?_))
 refine ⟨_, ResV.tmp rfl, rfl, xh.trans xr, ?_, rfl⟩
 unfold firstL
 rw [qaN]
 rfl
theorem setJ_i {x : SetM} (j : SetJ x) : SetI x := ⟨j.n, j.d, j.m, j.l⟩
theorem rNg_c (v : Value) (l : List Int) (h : Heap) (t : Tabs h) (r : RS h v (iv64 l)) (hi : ∀ n ∈ l, In64 n) (hl : l.length ≤ 100000000000) : ACalls Tryz.prog 50 [str wGroup, v] h fun u h' => u = str (groupL l) ∧ h' = h := by
 have c := N_c wGroup v l h r hi (by show 5 + 22 * l.length ≤ _; omega) t
 rw [show wGroup ++ tailW (l.map itoa) = groupL l by unfold groupL; rw [qaN]] at c
 exact c
def layG (x : SetM) (line : Bytes) : SetM × Bool :=
 if (ungroupR line).2 = true ∧ mayGroup x.nodes (ungroupR line).1 = true ∧ x.groups.length < 5 then ({ x with groups := x.groups ++ [(ungroupR line).1] }, true) else (x, false)
end Go.Proofs.YtigmojilaadbhaaGreatDoor
/- . -/
namespace Go.Proofs.YtigmojilaadbhaaGreatDoor
open Go Go.Eng Go.Pln
open Go.Lib hiding splitN
attribute [local irreducible] AWp AL DAL AOp TAL
structure SpI (h : Heap) (s : Bytes) (i at_ : Nat) (ws : List Bytes) (H : Heap) (u : Value) : Prop where
 gr : Gr h 9 (ws.map str) H u
 len : ws.length ≤ i
 hi : i ≤ s.length
 ha : at_ ≤ i
 eq : splitN s = (ws ++ (splitN (s.drop at_)).1, (splitN (s.drop at_)).2)
 no : noN ((s.take i).drop at_) = true
theorem qb4 (lay : ScrM → Bytes → Option ScrM) : ∀ {l : List Bytes} {s t : ScrM} {n : Nat} (m : List Bytes), layAll lay s n l = (some t, n + l.length) → layAll lay s n (l ++ m) = layAll lay t (n + l.length) m
 | [], s, t, n, m, h => by
  simp only [layAll, Prod.mk.injEq, Option.some.injEq] at h
  rw [h.1]
  rfl
 | x :: l, s, t, n, m, h => by
  rw [layAll] at h
  rw [List.cons_append, layAll]
  cases hx : lay s x with
  | none => rw [hx] at h; cases h
  | some u =>
   rw [hx] at h
   simp only at h ⊢
   have h' : layAll lay u (n + 1) l = (some t, n + 1 + l.length) := by rw [h, List.length_cons]; congr 1; omega
   rw [qb4 lay m h', List.length_cons]
   congr 1
   omega
section
variable {text x : Bytes} {l : List Bytes} (hle : ¬ 1048576 < text.length)
include hle
end
def PaR (h : Heap) (text : Bytes) (u : Value) (h' : Heap) : Prop := ∃ Bg Ba vg va, u = .tuple #[.agg (scrC vg va (parseR text).1.setup).toArray, .int .i64 (parseR text).2.1, .int .i64 (parseR text).2.2] ∧ GO Bg h' vg (parseR text).1.setup.groups ∧ AO Ba h' va (parseR text).1.acts ∧ Ext h h'
structure RpI (h : Heap) (j2 j7 Bv : Nat) (v : Value) (ls l : List Bytes) (x0 : SetM) (k : Nat) (s : ScrM) (H : Heap) : Prop where
 ly : layAll layR ⟨x0, []⟩ 1 (l.take k) = (some s, 1 + k)
 kl : k ≤ l.length
 ext : Ext h H
 wf : WF H
 nx : h.next ≤ H.next
 n2 : h.next ≤ j2
 n7 : h.next ≤ j7
 ne : j2 ≠ j7
 g2 : H.get j2 = some scrB0
 rw_ : OS Bv H 9 v (ls.map str)
 o : ∃ Bg vg va, H.get j7 = some (scrB vg va s.setup) ∧ GO Bg H vg s.setup.groups ∧ AO h.next H va s.acts
section
variable {x0 : SetM} {l : List Bytes} {k : Nat} {s s' : ScrM} {w : Bytes} (ly : layAll layR ⟨x0, []⟩ 1 (l.take k) = (some s, 1 + k)) (hw : l[k]? = some w)
include ly hw
end
end Go.Proofs.YtigmojilaadbhaaGreatDoor
/- . -/
namespace Go.Proofs.YtigmojilaadbhaaGreatDoor
open Go Go.Eng Go.Pln Go.Lib
attribute [local irreducible] AWp AL DAL AOp TAL
instance i_rtext : FnC Tryz.prog 33 := ⟨Tryz.f33, Tryz.func33, by kernel_rfl, by kernel_rfl⟩
theorem Gr.low {h h0 H : Heap} {e : TypeId} {u : Value} {vs : List Value} (g : Gr h e vs H u) (hx : Ext h0 h) (hn : h0.next ≤ h.next) : Gr h0 e vs H u := ⟨OS.low g.os hn, hx.trans g.ext, g.wf, Nat.le_trans hn g.nx⟩
theorem qcX {α β : Type} (f : α → β) {l : List α} {k : Nat} {x : α} (hx : l[k]? = some x) : (l.take (k + 1)).map f = (l.take k).map f ++ [f x] := by
 rw [List.take_add_one, hx, List.map_append]; rfl
theorem rheads_c (x : SetM) (vg : Value) (h : Heap) (t : Tabs h) (j : SetJ x) (rg : RG h vg x.groups) (hl : x.groups.length ≤ 1000000) : ACalls Tryz.prog 79 [.agg (setC vg x).toArray] h fun u h' => Gr h 9 ((headsM x).map str) h' u := by
 refine ACalls.wf fun wf => ?_
 refine ACalls.body Tryz.func79 rfl rfl ?_
 repeat (first | refine W.w ?_ | refine zz rfl (qa5 rfl ?_) | refine zz rfl (qaK rfl (by intro e; cases e) ?_))
 generalize hH : h.alloc _ = H0
 have hg : H0.get h.next = some ⟨setC vg x, 24, true⟩ := hH ▸ Heap.alloc_new _ _
 have xh : Ext h H0 := hH ▸ wf.ext _
 have wf0 : WF H0 := hH ▸ wf.alloc _
 have n0 : H0.next = h.next + 1 := hH ▸ rfl
 clear hH
 have t0 := t.ext xh
 have cf := rfirst_c x vg (setJ_i j) H0 t0
 repeat (first | refine W.w ?_ | (refine zz rfl ?_; first | refine qad rfl ?_ | refine qa5 rfl ?_ | refine qah (sz := 5) rfl rfl hg (Nat.le_refl _) ?_ | refine qab rfl rfl cf ?_ | refine qaL [str (firstL x)] rfl rfl rfl rfl (qfz _) ?_))
 have i0 : Gr H0 9 ((firstL x :: (x.groups.take 0).map groupL).map str) (H0.alloc ⟨[str (firstL x)], 9, true⟩) (.slice (some ⟨H0.next, 0, some 1⟩) 1 1) := ⟨OS.new (Nat.le_refl _) rfl, wf0.ext _, wf0.alloc _, Nat.le_succ _⟩
 generalize H0.alloc ⟨[str (firstL x)], 9, true⟩ = H1 at i0 ⊢
 skip
 obtain ⟨ws, q1, q2, q3, q4⟩ := rg.ext xh
 refine AWp.loop (α := Nat × Heap × Value) (fun d => [(1, ptr h.next), (3, d.2.2), (4, .int .i64 (d.1 : Nat))]) (fun d => d.2.1) (fun d => d.1 ≤ x.groups.length ∧ Gr H0 9 ((firstL x :: (x.groups.take d.1).map groupL).map str) d.2.1 d.2.2) (fun d => x.groups.length - d.1) (0, H1, .slice (some ⟨H0.next, 0, some 1⟩) 1 1) ⟨Nat.zero_le _, i0⟩
  (Weak.same (EW.cons rfl (EW.cons rfl (EW.cons rfl EW.nil)))) ?_
 rintro ⟨k, H, u⟩ ⟨hk, gg⟩
 replace hk : k ≤ x.groups.length := hk
 replace gg : Gr H0 9 ((firstL x :: (x.groups.take k).map groupL).map str) H u := gg
 show AWp _ _ _ _ [(1, ptr h.next), (3, u), (4, .int .i64 (k : Nat))] H
 clear i0
 obtain ⟨ua, uc, hu⟩ := RS.slice gg.os.rs
 have hgH := gg.ext.c _ _ hg
 have p1 := q1.ext gg.ext
 have hlen : (firstL x :: (x.groups.take k).map groupL).length = k + 1 := by simp; omega
 by_cases hlt : k < x.groups.length
 ·
  obtain ⟨g1, e1⟩ : ∃ g, x.groups[k]? = some g := ⟨_, List.getElem?_eq_getElem hlt⟩
  obtain ⟨w1, e3⟩ : ∃ w, ws[k]? = some w := ⟨_, List.getElem?_eq_getElem (by omega)⟩
  have k1 : ws[((k : Nat) : Int).toNat]? = some w1 := e3
  have o1 := (q4 k w1 g1 e3 e1).1.ext gg.ext
  have j1 := j.g g1 (List.mem_of_getElem? e1)
  have c1 := rNg_c w1 g1 H (t0.ext gg.ext) o1 j1.1 j1.2
  have hst : (firstL x :: (x.groups.take (k + 1)).map groupL).map str = (firstL x :: (x.groups.take k).map groupL).map str ++ [str (groupL g1)] := by
   rw [qcX groupL e1, ← List.cons_append, List.map_append]; rfl
  repeat (first | refine W.w ?_ | refine AWp.c8 rfl ?_ | (refine zz rfl ?_; first | refine qac rfl ?_ | refine qan rfl ?_ | refine qae rfl rfl hgH rfl ?_ | refine qaJ p1 rfl ?_ | refine qaj rfl rfl rfl (by omega) ?_ | refine qam (v := u) rfl ?_ | refine qaM p1 rfl rfl (by omega) k1 fun _ => ?_ | refine qaw (PT.of p1 k1) rfl rfl ?_ | refine qab rfl rfl c1 ?_ | refine qaL [str (groupL g1)] rfl rfl rfl rfl (qfz _) ?_))
  generalize hnw : groupL g1 = nw at hst ⊢
  generalize hws : firstL x :: (x.groups.take k).map groupL = ls at gg hst hlen ⊢
  obtain ⟨H3, hQ, gr, xr, wr, _⟩ := aq gg.wf ⟨[str nw], 9, true⟩
  rw [hQ]
  have rb : RS H3 (.slice (some ⟨H.next, 0, some 1⟩) 1 1) [str nw] := RS.own gr rfl
  have n3 := wr.lt gr
  have g3 := gg.more xr wr (by omega)
  refine zz rfl (qa3 (by_ := 16) (z := .string ⟨#[]⟩) (B := H0.next) (e := 9) rfl wr g3.nx g3.os rfl rfl rb.src rfl rfl (by rw [List.length_map]; simp only [maxLen, List.length_cons, List.length_nil]; omega) (by rw [List.length_map]; simp only [List.length_cons, List.length_nil]; omega) ?_)
  intro u' H4 o4 k4 wf4 n4
  have g4 : Gr H0 9 _ H4 u' := ⟨o4, k4.ext g3.os wf0 (Nat.le_refl _) g3.ext, wf4, Nat.le_trans g3.nx n4⟩
  repeat (first | refine W.w ?_ | (refine zz rfl ?_; first | refine qac rfl ?_ | refine qad rfl ?_ | refine qaq (v := u') rfl ?_ | refine qas rfl rfl (by omega) ?_))
  exact ⟨(k + 1, H4, u'), ⟨hlt, by rw [hst]; exact g4⟩, by show x.groups.length - (k + 1) < x.groups.length - k; omega, Weak.same (EW.cons rfl (EW.cons rfl (EW.cons rfl EW.nil)))⟩
 ·
  obtain rfl : k = x.groups.length := by omega
  rw [List.take_length] at gg
  repeat (first | refine AL.nil ?_ | refine AWp.seq ?_ | refine AWp.r9 ?_ | refine AWp.c9 rfl ?_ | refine AWp.ret ?_ | refine AWp.exit ?_ | (refine zz rfl ?_; first | refine qac rfl ?_ | refine qan rfl ?_ | refine qae rfl rfl hgH rfl ?_ | refine qaJ p1 rfl ?_ | refine qak rfl rfl rfl (by omega) ?_ | refine qam (v := u) rfl ?_ | refine qaq (v := u) rfl ?_))
  exact ⟨_, ResV.tmp rfl, gg.low xh (by omega)⟩
theorem rise_in {nodes : Int} : ∀ {l : List Int} {p : Int}, riseM nodes p l = true → ∀ n ∈ l, p < n ∧ n < nodes
 | [], _, _, n, hn => by cases hn
 | m :: l, p, h, n, hn => by
  rw [riseM, Bool.and_eq_true, decide_eq_true_iff] at h
  rcases List.mem_cons.1 hn with rfl | hn
  ·
   exact h.1
  ·
   have := rise_in h.2 n hn
   exact ⟨by omega, this.2⟩
theorem setJ_of {x : SetM} (h : maySet x = true) : SetJ x ∧ x.groups.length ≤ 5 ∧ ∀ g ∈ x.groups, (groupL g).length ≤ 100000 := by
 unfold maySet at h
 rw [Bool.and_eq_true, Bool.and_eq_true, decide_eq_true_iff, List.all_eq_true] at h
 obtain ⟨⟨h1, h2⟩, h3⟩ := h
 unfold sizesM at h1
 replace h1 := of_decide_eq_true h1
 have key : ∀ l ∈ x.groups, (∀ n ∈ l, 0 ≤ n ∧ n < 5) ∧ l.length ≤ 3 := by
  intro l hl
  have h4 := h3 l hl
  unfold mayGroup at h4
  rw [Bool.and_eq_true, decide_eq_true_iff] at h4
  exact ⟨fun n hn => by have := rise_in h4.1 n hn; omega, h4.2.2⟩
 refine ⟨⟨⟨by omega, by omega⟩, ⟨by omega, by omega⟩, ⟨by omega, by omega⟩, ⟨by omega, by omega⟩, fun l hl => ⟨fun n hn => ?_, ?_⟩⟩, h2.2, fun l hl => ?_⟩
 ·
  have := (key l hl).1 n hn
  exact ⟨by omega, by omega⟩
 ·
  have := (key l hl).2
  omega
 ·
  obtain ⟨k1, k2⟩ := key l hl
  have := qeg (m := 200) (k := 4) (ws := wGroup :: l.map itoa) (fun w hw => by
   rcases List.mem_cons.1 hw with rfl | hw
   ·
    decide
   ·
    obtain ⟨n, hn, rfl⟩ := List.mem_map.1 hw
    have := k1 n hn
    exact qa1 (by omega) (by omega)) (by rw [List.length_cons, List.length_map]; omega)
  unfold groupL
  omega
theorem first_len {x : SetM} (h : maySet x = true) : (firstL x).length ≤ 100000 := by
 unfold maySet at h
 rw [Bool.and_eq_true, Bool.and_eq_true] at h
 have h1 := h.1.1
 unfold sizesM at h1
 replace h1 := of_decide_eq_true h1
 have := qeg (m := 200) (k := 5) (ws := [wSetup, itoa x.nodes, itoa x.disk, itoa x.memory, itoa x.level]) (fun w hw => by
  simp only [List.mem_cons, List.not_mem_nil, or_false] at hw
  rcases hw with rfl | rfl | rfl | rfl | rfl
  ·
   decide
  ·
   exact qa1 (by omega) (by omega)
  ·
   exact qa1 (by omega) (by omega)
  ·
   exact qa1 (by omega) (by omega)
  ·
   exact qa1 (by omega) (by omega)) (by simp)
 unfold firstL
 omega
theorem lines_len {s : ScrM} (h : maySet s.setup = true) (ha : ∀ a ∈ s.acts, mayAct 5 5 a = true) (hl : s.acts.length ≤ 65536) : (∀ w ∈ headsM s.setup ++ s.acts.map lineM, w.length ≤ 100000) ∧ (headsM s.setup ++ s.acts.map lineM).length ≤ 65542 := by
 obtain ⟨j1, j2, j3⟩ := setJ_of h
 refine ⟨fun w hw => ?_, ?_⟩
 ·
  rcases List.mem_append.1 hw with hw | hw
  ·
   unfold headsM at hw
   rcases List.mem_cons.1 hw with rfl | hw
   ·
    exact first_len h
   ·
    obtain ⟨g, hg, rfl⟩ := List.mem_map.1 hw
    exact j3 g hg
  ·
   obtain ⟨a, ha', rfl⟩ := List.mem_map.1 hw
   exact qd2 (ha a ha')
 ·
  unfold headsM
  simp only [List.length_append, List.length_cons, List.length_map]
  omega
theorem rtext_c (s : ScrM) (vg va : Value) (h : Heap) (t : Tabs h) (hs : maySet s.setup = true) (ha : ∀ a ∈ s.acts, mayAct 5 5 a = true) (hn : s.acts.length ≤ 65536) (rg : RG h vg s.setup.groups) (r : RA h va s.acts) : ACalls Tryz.prog 33 [.agg (scrC vg va s.setup).toArray] h fun u h' => u = str (textM s) ∧ h' = h := by
 refine ACalls.wf fun wf => ACalls.reset ?_
 refine ACalls.body Tryz.func33 rfl rfl ?_
 repeat (first | refine W.w ?_ | refine zz rfl (qaf rfl ?_) | refine zz rfl (qaK rfl (by intro e; cases e) ?_))
 generalize hH : h.alloc _ = H0
 have hg : H0.get h.next = some (scrB vg va s.setup) := hH ▸ Heap.alloc_new _ _
 have xh : Ext h H0 := hH ▸ wf.ext _
 have wf0 : WF H0 := hH ▸ wf.alloc _
 clear hH
 have t0 := t.ext xh
 obtain ⟨j1, j2, j3⟩ := setJ_of hs
 obtain ⟨l1, l2⟩ := lines_len hs ha hn
 have hhl : (headsM s.setup).length ≤ 6 := by unfold headsM; simp; omega
 repeat (first | refine zz rfl (qan rfl ?_) | refine zz rfl (qah (sz := 5) rfl rfl hg (Nat.le_of_ble_eq_true rfl) ?_))
 refine zz rfl (qar (evs := [.agg (setC vg s.setup).toArray]) rfl rfl ((rheads_c s.setup vg H0 t0 j1 (rg.ext xh) (by omega)).mono ?_))
 intro v H1 gv
 obtain ⟨ua, uc, hv⟩ := RS.slice gv.os.rs
 obtain ⟨rows, q1, q2, q3⟩ := (r.ext xh).ex
 repeat (first | refine W.w ?_ | refine zz rfl (qad rfl ?_) | refine zz rfl (qaq (v := v) rfl ?_))
 refine AWp.loop (α := Nat × Heap × Value) (fun d => [(1, ptr h.next), (3, d.2.2), (4, .int .i64 (d.1 : Nat))]) (fun d => d.2.1) (fun d => d.1 ≤ s.acts.length ∧ Gr H0 9 ((headsM s.setup ++ (s.acts.take d.1).map lineM).map str) d.2.1 d.2.2) (fun d => s.acts.length - d.1) (0, H1, v) ⟨Nat.zero_le _, by rw [List.take_zero, List.map_nil, List.append_nil]; exact gv⟩
  (Weak.same (EW.cons rfl (EW.cons rfl (EW.cons rfl EW.nil)))) ?_
 rintro ⟨k, H, u⟩ ⟨hk, gg⟩
 replace hk : k ≤ s.acts.length := hk
 replace gg : Gr H0 9 ((headsM s.setup ++ (s.acts.take k).map lineM).map str) H u := gg
 show AWp _ _ _ _ [(1, ptr h.next), (3, u), (4, .int .i64 (k : Nat))] H
 clear gv
 obtain ⟨wa, wc, hu⟩ := RS.slice gg.os.rs
 have hgH := gg.ext.c _ _ hg
 have p1 := q1.ext gg.ext
 have hlen : (headsM s.setup ++ (s.acts.take k).map lineM).length ≤ 6 + k := by rw [List.length_append, List.length_map, List.length_take]; omega
 by_cases hlt : k < s.acts.length
 ·
  obtain ⟨a, e1⟩ : ∃ g, s.acts[k]? = some g := ⟨_, List.getElem?_eq_getElem hlt⟩
  obtain ⟨w1, e3⟩ : ∃ w, rows[k]? = some w := ⟨_, List.getElem?_eq_getElem (by omega)⟩
  obtain ⟨x1, rfl, o1⟩ := q3 k w1 a e3 e1
  have k1 : rows[((k : Nat) : Int).toNat]? = some (actC x1 a) := e3
  have d1 := p1.elt k1
  have c1 := rLine_c x1 a H (t0.ext gg.ext) (o1.ext gg.ext) (ha a (List.mem_of_getElem? e1))
  have hst : (headsM s.setup ++ (s.acts.take (k + 1)).map lineM).map str = (headsM s.setup ++ (s.acts.take k).map lineM).map str ++ [str (lineM a)] := by
   rw [qcX lineM e1, ← List.append_assoc, List.map_append]; rfl
  repeat (first | refine W.w ?_ | refine AWp.c8 rfl ?_ | (refine zz rfl ?_; first | refine qac rfl ?_ | refine qan rfl ?_ | refine qae rfl rfl hgH rfl ?_ | refine qav p1 rfl ?_ | refine qaj rfl rfl rfl (by omega) ?_ | refine qam (v := u) rfl ?_ | refine qaz p1 rfl rfl (by omega) k1 ?_ | refine qaP d1 rfl rfl rfl ?_ | refine qab rfl rfl c1 ?_ | refine qaL [str (lineM a)] rfl rfl rfl rfl (qfz _) ?_))
  generalize hnw : lineM a = nw at hst ⊢
  generalize hws : headsM s.setup ++ (s.acts.take k).map lineM = ls at gg hst hlen ⊢
  obtain ⟨H3, hQ, gr, xr, wr, _⟩ := aq gg.wf ⟨[str nw], 9, true⟩
  rw [hQ]
  have rb : RS H3 (.slice (some ⟨H.next, 0, some 1⟩) 1 1) [str nw] := RS.own gr rfl
  have n3 := wr.lt gr
  have g3 := gg.more xr wr (by omega)
  refine zz rfl (qa3 (by_ := 16) (z := .string ⟨#[]⟩) (B := H0.next) (e := 9) rfl wr g3.nx g3.os rfl rfl rb.src rfl rfl (by rw [List.length_map]; simp only [maxLen, List.length_cons, List.length_nil]; omega) (by rw [List.length_map]; simp only [List.length_cons, List.length_nil]; omega) ?_)
  intro u' H4 o4 k4 wf4 n4
  have g4 : Gr H0 9 _ H4 u' := ⟨o4, k4.ext g3.os wf0 (Nat.le_refl _) g3.ext, wf4, Nat.le_trans g3.nx n4⟩
  repeat (first | refine W.w ?_ | (refine zz rfl ?_; first | refine qac rfl ?_ | refine qad rfl ?_ | refine qaq (v := u') rfl ?_ | refine qas rfl rfl (by omega) ?_))
  exact ⟨(k + 1, H4, u'), ⟨hlt, by rw [hst]; exact g4⟩, by show s.acts.length - (k + 1) < s.acts.length - k; omega, Weak.same (EW.cons rfl (EW.cons rfl (EW.cons rfl EW.nil)))⟩
 ·
  obtain rfl : k = s.acts.length := by omega
  rw [List.take_length] at gg
  repeat (first | refine AL.nil ?_ | refine AWp.seq ?_ | refine AWp.r9 ?_ | refine AWp.c9 rfl ?_ | refine AWp.exit ?_ | refine AWp.b9 ?_ | (refine zz rfl ?_; first | refine qac rfl ?_ | refine qad rfl ?_ | refine qa5 rfl ?_ | refine qan rfl ?_ | refine qae rfl rfl hgH rfl ?_ | refine qav p1 rfl ?_ | refine qak rfl rfl rfl (by omega) ?_))
  have htx : textM s = catN (headsM s.setup ++ s.acts.map lineM) := rfl
  rw [htx]
  clear htx
  generalize headsM s.setup ++ s.acts.map lineM = ls at l1 l2 gg ⊢
  have rs := gg.os.rs
  refine AWp.loop (α := Nat × Heap × Value) (fun d => [(3, u), (5, d.2.2), (6, .int .i64 (d.1 : Nat))]) (fun d => d.2.1) (fun d => d.1 ≤ ls.length ∧ Gr H 5 (bv (catN (ls.take d.1))) d.2.1 d.2.2) (fun d => ls.length - d.1) (0, H, .slice none 0 0) ⟨Nat.zero_le _, Gr.nil gg.wf _⟩
   (Weak.same (EW.cons rfl (EW.cons rfl (EW.cons rfl EW.nil)))) ?_
  rintro ⟨i, K, b⟩ ⟨hi, gb⟩
  replace hi : i ≤ ls.length := hi
  replace gb : Gr H 5 (bv (catN (ls.take i))) K b := gb
  show AWp _ _ _ _ [(3, u), (5, b), (6, .int .i64 (i : Nat))] K
  obtain ⟨ba, bc, hb⟩ := RS.slice gb.os.rs
  have rK := rs.ext gb.ext
  have hml : (ls.map str).length = ls.length := List.length_map _
  have hcl : (catN (ls.take i)).length ≤ 6554265542 := by
   have h1 := qfV (m := 100000) (ls.take i) fun w hw => l1 w (List.mem_of_mem_take hw)
   have h3 : (ls.take i).length ≤ 65542 := by rw [List.length_take]; omega
   omega
  by_cases hlt : i < ls.length
  ·
   obtain ⟨w, hw⟩ : ∃ w, ls[i]? = some w := ⟨_, List.getElem?_eq_getElem hlt⟩
   have kw : (ls.map str)[((i : Nat) : Int).toNat]? = some (str w) := by
    rw [Int.toNat_natCast, List.getElem?_map, hw]; rfl
   have hwl := l1 w (List.mem_of_getElem? hw)
   have hst : bv (catN (ls.take (i + 1))) = (bv (catN (ls.take i)) ++ bv w) ++ bv [10] := by
    rw [List.take_add_one, hw]
    simp [catN, bv]
   repeat (first | refine W.w ?_ | refine AWp.c8 rfl ?_ | (refine zz rfl ?_; first | refine qac rfl ?_ | refine qam (v := b) rfl ?_ | refine qam (v := u) rfl ?_ | refine qaJ rK rfl ?_ | refine qaj rfl rfl rfl (by omega) ?_ | refine qaM rK rfl rfl (by omega) kw fun _ => ?_ | refine qaw (PT.of rK kw) rfl rfl ?_))
   refine zz rfl (qa3 (z := .int .u8 0) (B := H.next) (e := 5) rfl gb.wf gb.nx gb.os rfl rfl (bs_src _ w) (qaA w) (qcG w) (by rw [qaA]; simp only [maxLen]; omega) (by rw [qaA]; omega) ?_)
   intro b2 K2 o2 k2 w2 n2
   have g2 : Gr H 5 (bv (catN (ls.take i)) ++ bv w) K2 b2 := ⟨o2, k2.ext gb.os gg.wf (Nat.le_refl _) gb.ext, w2, Nat.le_trans gb.nx n2⟩
   repeat (first | refine zz rfl (qaL (bv [10]) rfl rfl rfl rfl (qcM _) ?_))
   obtain ⟨K3, hQ, gr, xr, wr, _⟩ := aq g2.wf ⟨bv [10], 5, true⟩
   rw [hQ]
   have rb : RS K3 (.slice (some ⟨K2.next, 0, some 1⟩) 1 1) (bv [10]) := RS.own gr rfl
   have n3 := wr.lt gr
   have g3 := g2.more xr wr (by omega)
   have hb1 : (bv [10]).length = 1 := rfl
   refine zz rfl (qa3 (z := .int .u8 0) (B := H.next) (e := 5) rfl wr g3.nx g3.os rfl rfl rb.src (qaA _) (qcG _) (by rw [List.length_append, qaA, qaA]; simp only [maxLen]; omega) (by rw [List.length_append, qaA, qaA]; omega) ?_)
   intro b4 K4 o4 k4 w4 n4
   have g4 : Gr H 5 _ K4 b4 := ⟨o4, k4.ext g3.os gg.wf (Nat.le_refl _) g3.ext, w4, Nat.le_trans g3.nx n4⟩
   repeat (first | refine W.w ?_ | (refine zz rfl ?_; first | refine qac rfl ?_ | refine qad rfl ?_ | refine qaq (v := b4) rfl ?_ | refine qas rfl rfl (by omega) ?_))
   exact ⟨(i + 1, K4, b4), ⟨hlt, by rw [hst]; exact g4⟩, by show ls.length - (i + 1) < ls.length - i; omega, Weak.same (EW.cons rfl (EW.cons rfl (EW.cons rfl EW.nil)))⟩
  ·
   obtain rfl : i = ls.length := by omega
   rw [List.take_length] at gb
   have rb : RB K b (catN ls) := gb.os.rs
   repeat (first | refine AL.nil ?_ | refine AWp.seq ?_ | refine AWp.r9 ?_ | refine AWp.c9 rfl ?_ | refine AWp.ret ?_ | refine AWp.exit ?_ | (refine zz rfl ?_; first | refine qac rfl ?_ | refine qaf rfl ?_ | refine qam (v := b) rfl ?_ | refine qam (v := u) rfl ?_ | refine qaJ rK rfl ?_ | refine qak rfl rfl rfl (by omega) ?_ | refine qao rb rfl ?_))
   exact ⟨_, ResV.tmp rfl, rfl, xh.trans (gg.ext.trans gb.ext), rfl, rfl⟩
end Go.Proofs.YtigmojilaadbhaaGreatDoor
