/-
  Texts of one claim, merged: 8 parts.
-/
import Derived.Test.YtigmojilaadbhaaGreatDoorMacs
import Derived.Test.YtigmojilaadbhaaGreatDoorMacp
import Derived.Test.YtigmojilaadbhaaGreatDoorMacr
import Derived.Test.YtigmojilaadbhaaGreatDoorMaco
import Derived.Test.YtigmojilaadbhaaGreatDoorMacd
import Derived.Test.YtigmojilaadbhaaGreatDoorMace
import Derived.Test.YtigmojilaadbhaaGreatDoorRows
import Derived.Test.YtigmojilaadbhaaGreatDoorMacg
import Derived.Lib.LaidTab
import Derived.LaidSub
import Derived.LaidMore
import Derived.LaidHandle
import Derived.Stop.Joined
/-
 Scripts: the document's own: an act that has of another one what its kind names, and may it be.
-/
namespace Go.Proofs.YtigmojilaadbhaaGreatDoor
open Go Go.Eng Go.Pln Go.Lib
attribute [local irreducible] AWp AL DAL AOp TAL

set_option maxHeartbeats 16000000 in
theorem rabare_c (p : ActV) (a : ActM) (nodes groups : Int) (h : Heap) (r : ActR h p a) : ACalls Tryz.prog 91 [.agg (actC p a).toArray, .int .i64 nodes, .int .i64 groups] h fun u h' => ∃ q, u = .tuple #[.agg (actC q (namedA a)).toArray, .bool (rokA nodes groups a)] ∧ ActR h' q (namedA a) ∧ Ext h h' := by
 refine ACalls.wf fun wf => ?_
 refine ACalls.body Tryz.func91 rfl rfl ?_
 repeat (first | refine AWp.seq ?_ | refine AWp.r9 ?_ | refine AL.set rfl rfl (qaI rfl (by intro e; cases e) ?_))
 generalize hH : h.alloc _ = H1
 have hg1 : H1.get h.next = some ⟨actC p a, 40, true⟩ := hH ▸ Heap.alloc_new _ _
 have hx1 : Ext h H1 := hH ▸ wf.ext _
 have wf1 : WF H1 := hH ▸ wf.alloc _
 have n1 : h.next < H1.next := wf1.lt hg1
 clear hH
 repeat (first | refine AL.nil ?_ | refine AWp.seq ?_ | refine AWp.r9 ?_ | refine AL.set rfl rfl (qaa rfl ?_) | refine AL.set rfl rfl (qas ?_))
 generalize hH : H1.alloc _ = H2
 have g2 : H2.get H1.next = some ⟨actC actV0 act0, 40, true⟩ := hH ▸ Heap.alloc_new _ _
 have hx2 : Ext H1 H2 := hH ▸ wf1.ext _
 have wf2 : WF H2 := hH ▸ wf1.alloc _
 have n2 : H1.next < H2.next := wf2.lt g2
 have hg2 := hx2.c _ _ hg1
 clear hH
 repeat (first | refine AL.nil ?_ | refine AWp.seq ?_ | refine AL.set rfl rfl (qao rfl ?_) | refine AL.set rfl rfl (qad rfl rfl hg2 rfl ?_) | refine AL.set rfl rfl (qau (out := actC actV0 { act0 with kind := a.kind }) rfl rfl ?_) | refine AL.set rfl rfl (qas ?_) | refine AL.eff rfl (qaE (vs := actC actV0 { act0 with kind := a.kind }) rfl rfl rfl rfl rfl ?_))
 have gl := Heap.alloc_new H2
 have hgx : ∀ b, (H2.alloc b).get h.next = some ⟨actC p a, 40, true⟩ := fun b => (wf2.ext b).c _ _ hg2
 have gj : ∀ b, (H2.alloc b).get H1.next = some ⟨actC actV0 act0, 40, true⟩ := fun b => (wf2.ext b).c _ _ g2
 have xl : ∀ b, Ext h (H2.alloc b) := fun b => hx1.trans (hx2.trans (wf2.ext b))
 have xf : ∀ b b', Ext h ((H2.alloc b).set H1.next b') := fun b b' => wf.ext_set (xl b) (Nat.le_of_lt n1) _
 have hz : ∀ h', ActR h' actV0 act0 := fun h' => ActR.nil h'
 clear hg1 hg2 g2 hx1 hx2 wf1
 refine AWp.cutI (α := Unit) (fun _ => [(3, ptr h.next), (6, ptr H1.next), (8, ptr H2.next), (9, .bool (nodeB nodes a)), (10, .bool (groupB groups a))]) (fun _ => H2.alloc ⟨actC actV0 { act0 with kind := a.kind }, 40, true⟩) (fun _ => True) ?_ fun _ _ => ?_
 ·
  refine AWp.drawR mixed (by kernel_rfl) ?_
  repeat' (first | refine DAL.skip rfl rfl rfl ?_ | refine DAL.nil ?_ | refine DAL.r rfl rfl rfl (fun h' hx hn => qab rfl ⟨rfl, rfl⟩) ?_ | refine DAL.r rfl rfl rfl (fun h' hx hn => qae rfl ⟨rfl, rfl⟩) ?_ | refine DAL.r rfl rfl rfl (fun h' hx hn => qaa rfl ⟨rfl, rfl⟩) ?_ | refine DAL.r rfl rfl rfl (fun h' hx hn => qao rfl ⟨rfl, rfl⟩) ?_ | refine DAL.r rfl rfl rfl (fun h' hx hn => qad rfl rfl (hx.c _ _ (hgx _)) rfl ⟨rfl, rfl⟩) ?_ | refine DAL.r rfl rfl rfl (fun h' hx hn => qag (v := .bool _) rfl rfl ⟨rfl, rfl⟩) ?_ | refine DAL.rP rfl rfl rfl (fun h' hx hn => qa2 rfl rfl rfl ⟨rfl, rfl⟩) (fun c => ?_) (fun c => ?_))
  all_goals refine ⟨(), trivial, Weak.same (EW.cons rfl (EW.cons rfl (EW.cons rfl (EW.cons (congrArg Value.bool ?_) (EW.cons (congrArg Value.bool ?_) EW.nil)))))⟩
  all_goals clear hz xf xl gj hgx gl n2 wf2 n1 wf r
  all_goals grind [nodeB, groupB]
 refine AWp.seqI (α := Unit) (fun _ => [(3, ptr h.next), (6, ptr H1.next), (8, ptr H2.next), (9, .bool (nodeB nodes a)), (10, .bool (groupB groups a)), (11, .bool (clientB a))]) (fun _ => H2.alloc ⟨actC actV0 { act0 with kind := a.kind }, 40, true⟩) (fun _ => True) ?_ fun _ _ => ?_
 ·
  repeat' (first | refine AL.nil ?_ | refine AL.skip rfl rfl ?_ | refine AWp.r9 ?_ | refine AL.set rfl rfl (qae rfl ?_) | refine AL.set rfl rfl (qaa rfl ?_) | refine AL.set rfl rfl (qao rfl ?_) | refine AL.set rfl rfl (qad rfl rfl (hgx _) rfl ?_) | refine AL.set rfl rfl (qag (v := .bool _) rfl rfl ?_) | refine AL.set rfl rfl (qaJ rfl rfl rfl (fun c => ?_) (fun c => ?_)))
  all_goals refine ⟨(), trivial, Weak.same (EW.cons rfl (EW.cons rfl (EW.cons rfl (EW.cons rfl (EW.cons rfl (EW.cons (congrArg Value.bool ?_) EW.nil))))))⟩
  all_goals clear hz xf xl gj hgx gl n2 wf2 n1 wf r
  all_goals grind [clientB]
 by_cases k1 : a.kind = 1 ∨ a.kind = 2 ∨ a.kind = 6 ∨ a.kind = 7
 ·
  have hn : namedA a = { act0 with kind := a.kind, node := a.node, group := a.group } := by unfold namedA; grind
  have ho : rokA nodes groups a = (nodeB nodes a && groupB groups a) := by unfold rokA; rw [if_pos k1]
  have hq : ∀ h', Ext h h' → ActR h' actV0 { act0 with kind := a.kind, node := a.node, group := a.group } := fun h' x => ⟨(hz h').ra, (hz h').rc, (hz h').rk⟩
  rw [ho]
  rcases k1 with k | k | k | k <;>
  ·
   repeat (first | refine AL.nil ?_ | refine AWp.seq ?_ | refine AWp.r9 ?_ | refine AWp.c8 rfl ?_ | refine AWp.c9 rfl ?_ | refine AWp.b9 ?_ | refine AWp.k9 ?_ | refine AL.set rfl rfl (qaa rfl ?_) | refine AL.set rfl rfl (qao rfl ?_) | refine AL.set rfl rfl (qad rfl rfl (hgx _) rfl ?_) | refine AL.set rfl rfl (qai rfl rfl rfl (by omega) ?_) | refine AL.set rfl rfl (qaj rfl rfl rfl (by omega) ?_))
   refine AWp.treeJ (fun H => H.get h.next = some ⟨actC p a, 40, true⟩) (fun _ _ a b => b.c _ _ a) (t := OT.seq [(0, .P), (1, .S), (2, .P), (3, .S), (4, .P), (5, .W), (6, .P), (7, .W)] .nil) mixed (by kernel_rfl) (hgx _) ?_
   repeat (first | refine TAL.p rfl rfl rfl (fun h' hn => qao rfl ⟨rfl, rfl⟩) ?_ | refine TAL.s rfl rfl rfl (fun h' hn hx => qad rfl rfl hx rfl ⟨rfl, rfl⟩) ?_)
   refine TAL.wj0 rfl rfl (qaB (v := .int .i64 a.node) rfl rfl rfl rfl ⟨hgx _, ?_⟩)
   repeat (first | refine TAL.p rfl rfl rfl (fun h' hn => qao rfl ⟨rfl, rfl⟩) ?_)
   refine TAL.wj0 rfl rfl (qaB (v := .int .i64 a.group) rfl rfl rfl rfl ⟨hgx _, ?_⟩)
   refine TAL.nil ?_
   cases nodeB nodes a <;> cases groupB groups a <;>
   ·
    repeat (first | refine AL.nil ?_ | refine AL.skip rfl rfl ?_ | refine AWp.seq ?_ | refine AWp.r9 ?_ | refine AWp.ret ?_ | refine AL.set rfl rfl (qae rfl ?_) | refine AL.set rfl rfl (qaa rfl ?_) | refine AL.set rfl rfl (qah (sz := 33) rfl rfl (gl _) (Nat.le_refl _) ?_) | refine AL.set rfl rfl (qag (v := .bool _) rfl rfl ?_) | refine AL.eff rfl (qap (vs := actC actV0 (namedA a)) rfl (by rw [hn]; rfl) rfl (by rw [hn]; exact qaD (hq h (Ext.refl h))) (gj _) rfl ?_))
    exact ⟨_, ResV.cell2 rfl rfl rfl (Heap.set_at _ _ _) (Nat.le_refl _), actV0, rfl, by rw [hn]; exact hq _ (xf _ _), xf _ _⟩
 by_cases k2 : a.kind = 3 ∨ a.kind = 4 ∨ a.kind = 5
 ·
  have hn : namedA a = { act0 with kind := a.kind, n := a.n } := by unfold namedA; grind
  have ho : rokA nodes groups a = decide (0 ≤ a.n ∧ a.n ≤ 2147483647) := by unfold rokA; rw [if_neg k1, if_pos k2]
  have hq : ∀ h', Ext h h' → ActR h' actV0 { act0 with kind := a.kind, n := a.n } := fun h' x => ⟨(hz h').ra, (hz h').rc, (hz h').rk⟩
  rw [ho]
  rcases k2 with k | k | k <;>
  ·
   repeat (first | refine AL.nil ?_ | refine AWp.seq ?_ | refine AWp.r9 ?_ | refine AWp.c8 rfl ?_ | refine AWp.c9 rfl ?_ | refine AWp.b9 ?_ | refine AWp.k9 ?_ | refine AL.set rfl rfl (qaa rfl ?_) | refine AL.set rfl rfl (qao rfl ?_) | refine AL.set rfl rfl (qad rfl rfl (hgx _) rfl ?_) | refine AL.set rfl rfl (qai rfl rfl rfl (by omega) ?_) | refine AL.set rfl rfl (qaj rfl rfl rfl (by omega) ?_) | refine AL.eff rfl (qaB (v := .int .i64 a.n) rfl rfl rfl rfl ?_))
   refine AWp.treeJ (fun H => H.get h.next = some ⟨actC p a, 40, true⟩) (fun _ _ a b => b.c _ _ a) (t := OT.seq [(0, .R), (1, .R), (2, .R), (3, .R), (4, .R), (5, .P), (6, .S), (7, .P), (8, .P), (9, .W), (10, .R)] .nil) mixed (by kernel_rfl) (hgx _) ?_
   repeat' (first | refine TAL.skip rfl rfl rfl ?_ | refine TAL.r rfl rfl rfl (fun h' hx hn => qae rfl ⟨rfl, rfl⟩) ?_ | refine TAL.r rfl rfl rfl (fun h' hx hn => qao rfl ⟨rfl, rfl⟩) ?_ | refine TAL.r rfl rfl rfl (fun h' hx hn => qad rfl rfl (hx.c _ _ (hgx _)) rfl ⟨rfl, rfl⟩) ?_ | refine TAL.r rfl rfl rfl (fun h' hx hn => qah (sz := 33) rfl rfl (hx.c _ _ (gl _)) (Nat.le_refl _) ⟨rfl, rfl⟩) ?_ | refine TAL.p rfl rfl rfl (fun h' hn => qao rfl ⟨rfl, rfl⟩) ?_ | refine TAL.p rfl rfl rfl (fun h' hn => qag (v := .bool _) rfl rfl ⟨rfl, rfl⟩) ?_ | refine TAL.s rfl rfl rfl (fun h' hn hx => qad rfl rfl hx rfl ⟨rfl, rfl⟩) ?_ | refine TAL.rP rfl rfl rfl (fun h' hx hn => qa2 rfl rfl rfl ⟨rfl, rfl⟩) (fun c => ?_) (fun c => ?_) | refine TAL.pP rfl rfl rfl (fun h' hn => qa2 rfl rfl rfl ⟨rfl, rfl⟩) (fun c => ?_) (fun c => ?_))
   all_goals refine TAL.wj0 rfl rfl (qap (vs := actC actV0 (namedA a)) rfl (by rw [hn]; rfl) rfl (by rw [hn]; exact qaD (hq h (Ext.refl h))) (gj _) rfl ⟨(Heap.set_other (Nat.ne_of_lt n1)).trans (hgx _), ?_⟩)
   repeat' (first | refine TAL.nil ?_ | refine TAL.r rfl rfl rfl (fun h' hx hn => qaa rfl ⟨rfl, rfl⟩) ?_)
   repeat' (first | refine AWp.ret ?_)
   all_goals refine ⟨_, ResV.cell2 rfl rfl rfl (Heap.set_at _ _ _) (Nat.le_refl _), actV0, congrArg (fun b => Value.tuple #[.agg (actC actV0 (namedA a)).toArray, .bool b]) ?_, by rw [hn]; exact hq _ (xf _ _), xf _ _⟩
   all_goals clear hz xf xl gj hgx gl n2 wf2 n1 wf r hq hn ho
   all_goals grind
 by_cases k3 : a.kind = 8 ∨ a.kind = 13
 ·
  have hn : namedA a = { act0 with kind := a.kind, node := a.node } := by unfold namedA; grind
  have ho : rokA nodes groups a = nodeB nodes a := by unfold rokA; rw [if_neg k1, if_neg k2, if_pos k3]
  have hq : ∀ h', Ext h h' → ActR h' actV0 { act0 with kind := a.kind, node := a.node } := fun h' x => ⟨(hz h').ra, (hz h').rc, (hz h').rk⟩
  rw [ho]
  rcases k3 with k | k <;>
  ·
   repeat (first | refine AL.nil ?_ | refine AWp.seq ?_ | refine AWp.r9 ?_ | refine AWp.c8 rfl ?_ | refine AWp.c9 rfl ?_ | refine AWp.ret ?_ | refine AWp.b9 ?_ | refine AWp.k9 ?_ | refine AL.set rfl rfl (qae rfl ?_) | refine AL.set rfl rfl (qaa rfl ?_) | refine AL.set rfl rfl (qao rfl ?_) | refine AL.set rfl rfl (qad rfl rfl (hgx _) rfl ?_) | refine AL.set rfl rfl (qah (sz := 33) rfl rfl (gl _) (Nat.le_refl _) ?_) | refine AL.set rfl rfl (qai rfl rfl rfl (by omega) ?_) | refine AL.set rfl rfl (qaj rfl rfl rfl (by omega) ?_) | refine AL.eff rfl (qaB (v := .int .i64 a.node) rfl rfl rfl rfl ?_) | refine AL.eff rfl (qap (vs := actC actV0 (namedA a)) rfl (by rw [hn]; rfl) rfl (by rw [hn]; exact qaD (hq h (Ext.refl h))) (gj _) rfl ?_))
   exact ⟨_, ResV.cell2 rfl rfl rfl (Heap.set_at _ _ _) (Nat.le_refl _), actV0, rfl, by rw [hn]; exact hq _ (xf _ _), xf _ _⟩
 by_cases k4 : a.kind = 9
 ·
  have hn : namedA a = { act0 with kind := a.kind, node := a.node, cmd := a.cmd } := by unfold namedA; grind
  have ho : rokA nodes groups a = (nodeB nodes a && mayC a.cmd && decide (a.cmd.kind = 6 ∨ a.cmd.kind = 7 ∨ a.cmd.kind = 8)) := by unfold rokA; rw [if_neg k1, if_neg k2, if_neg k3, if_pos k4]
  have hq : ∀ h', Ext h h' → ActR h' { actV0 with c := p.c } { act0 with kind := a.kind, node := a.node, cmd := a.cmd } := fun h' x => ⟨(hz h').ra, (r.ext x).rc, (hz h').rk⟩
  rw [ho]
  repeat (first | refine AL.nil ?_ | refine AWp.seq ?_ | refine AWp.r9 ?_ | refine AWp.c8 rfl ?_ | refine AWp.c9 rfl ?_ | refine AWp.b9 ?_ | refine AL.set rfl rfl (qaa rfl ?_) | refine AL.set rfl rfl (qao rfl ?_) | refine AL.set rfl rfl (qad rfl rfl (hgx _) rfl ?_) | refine AL.set rfl rfl (qai rfl rfl rfl (by omega) ?_) | refine AL.set rfl rfl (qaj rfl rfl rfl (by omega) ?_))
  refine AWp.treeJ (fun H => H.get h.next = some ⟨actC p a, 40, true⟩) (fun _ _ a b => b.c _ _ a) (t := OT.seq [(0, .P), (1, .S), (2, .P), (3, .S), (4, .P), (5, .W), (6, .P), (7, .W)] .nil) mixed (by kernel_rfl) (hgx _) ?_
  repeat (first | refine TAL.p rfl rfl rfl (fun h' hn => qao rfl ⟨rfl, rfl⟩) ?_ | refine TAL.s rfl rfl rfl (fun h' hn hx => qad rfl rfl hx rfl ⟨rfl, rfl⟩) ?_ | refine TAL.s rfl rfl rfl (fun h' hn hx => qah (sz := 20) rfl rfl hx (Nat.le_of_ble_eq_true rfl) ⟨rfl, rfl⟩) ?_)
  refine TAL.wj0 rfl rfl (qaB (v := .int .i64 a.node) rfl rfl rfl rfl ⟨hgx _, ?_⟩)
  repeat (first | refine TAL.p rfl rfl rfl (fun h' hn => qao rfl ⟨rfl, rfl⟩) ?_)
  refine TAL.wj0 rfl rfl (qbh (vs := cmdC p.c a.cmd) rfl rfl rfl (qa7 r.rc) rfl ⟨hgx _, ?_⟩)
  refine TAL.nil ?_
  repeat (first | refine AL.nil ?_ | refine AWp.seq ?_ | refine AWp.r9 ?_ | refine AL.set rfl rfl (qaf rfl ?_) | refine AL.set rfl rfl (qao rfl ?_) | refine AL.set rfl rfl (qad rfl rfl (hgx _) rfl ?_))
  cases nodeB nodes a <;>
  ·
   refine AWp.treeJ (fun H => H.get h.next = some ⟨actC p a, 40, true⟩) (fun _ _ a b => b.c _ _ a) (t := OT.seq [(0, .R), (1, .R), (2, .R), (3, .R), (4, .R), (5, .R), (6, .R), (7, .R), (8, .R), (9, .R), (10, .R), (11, .R), (12, .R), (13, .R), (14, .R), (15, .P), (16, .P), (17, .P), (18, .P), (19, .W), (20, .R)] .nil) mixed (by kernel_rfl) (hgx _) ?_
   repeat' (first | refine TAL.skip rfl rfl rfl ?_ | refine TAL.r rfl rfl rfl (fun h' hx hn => qab rfl ⟨rfl, rfl⟩) ?_ | refine TAL.r rfl rfl rfl (fun h' hx hn => qae rfl ⟨rfl, rfl⟩) ?_ | refine TAL.p rfl rfl rfl (fun h' hn => qab rfl ⟨rfl, rfl⟩) ?_ | refine TAL.rB rfl rfl rfl (fun h' hx hn => qac rfl rfl (rcmay_c p.c a.cmd h' (r.rc.ext ((xl _).trans hx))) ⟨rfl, rfl⟩) (fun c => ?_) (fun c => ?_) | refine TAL.r rfl rfl rfl (fun h' hx hn => qao rfl ⟨rfl, rfl⟩) ?_ | refine TAL.r rfl rfl rfl (fun h' hx hn => qah (sz := 33) rfl rfl (hx.c _ _ (gl _)) (Nat.le_refl _) ⟨rfl, rfl⟩) ?_ | refine TAL.r rfl rfl rfl (fun h' hx hn => qah (sz := 20) rfl rfl (hx.c _ _ (hgx _)) (Nat.le_of_ble_eq_true rfl) ⟨rfl, rfl⟩) ?_ | refine TAL.r rfl rfl rfl (fun h' hx hn => qag (v := .bool _) rfl rfl ⟨rfl, rfl⟩) ?_ | refine TAL.p rfl rfl rfl (fun h' hn => qag (v := .bool _) rfl rfl ⟨rfl, rfl⟩) ?_ | refine TAL.rP rfl rfl rfl (fun h' hx hn => qa2 rfl rfl rfl ⟨rfl, rfl⟩) (fun c => ?_) (fun c => ?_) | refine TAL.pP rfl rfl rfl (fun h' hn => qa2 rfl rfl rfl ⟨rfl, rfl⟩) (fun c => ?_) (fun c => ?_))
   all_goals refine TAL.wj0 rfl rfl (qap (vs := actC { actV0 with c := p.c } (namedA a)) rfl (by rw [hn]; rfl) rfl (by rw [hn]; exact qaD (hq h (Ext.refl h))) (gj _) rfl ⟨(Heap.set_other (Nat.ne_of_lt n1)).trans (hgx _), ?_⟩)
   repeat' (first | refine TAL.nil ?_ | refine TAL.r rfl rfl rfl (fun h' hx hn => qaa rfl ⟨rfl, rfl⟩) ?_)
   repeat' (first | refine AWp.ret ?_)
   all_goals refine ⟨_, ResV.cell2 rfl rfl rfl (Heap.set_at _ _ _) (Nat.le_refl _), { actV0 with c := p.c }, congrArg (fun b => Value.tuple #[.agg (actC { actV0 with c := p.c } (namedA a)).toArray, .bool b]) ?_, by rw [hn]; exact hq _ (xf _ _), xf _ _⟩
   all_goals clear hz xf xl gj hgx gl n2 wf2 n1 wf r hq hn ho
   all_goals grind
 by_cases k5 : a.kind = 10
 ·
  have hn : namedA a = { act0 with kind := a.kind, node := a.node, group := a.group, client := a.client, ask := a.ask } := by unfold namedA; grind
  have ho : rokA nodes groups a = (clientB a && nodeB nodes a && groupB groups a && mayAsk a.ask) := by unfold rokA; rw [if_neg k1, if_neg k2, if_neg k3, if_neg k4, if_pos k5]
  have hq : ∀ h', Ext h h' → ActR h' { actV0 with q := p.q } { act0 with kind := a.kind, node := a.node, group := a.group, client := a.client, ask := a.ask } := fun h' x => ⟨(r.ext x).ra, (hz h').rc, (hz h').rk⟩
  rw [ho]
  repeat (first | refine AL.nil ?_ | refine AWp.seq ?_ | refine AWp.r9 ?_ | refine AWp.c8 rfl ?_ | refine AWp.c9 rfl ?_ | refine AWp.b9 ?_ | refine AL.set rfl rfl (qaa rfl ?_) | refine AL.set rfl rfl (qao rfl ?_) | refine AL.set rfl rfl (qad rfl rfl (hgx _) rfl ?_) | refine AL.set rfl rfl (qai rfl rfl rfl (by omega) ?_) | refine AL.set rfl rfl (qaj rfl rfl rfl (by omega) ?_))
  refine AWp.treeJ (fun H => H.get h.next = some ⟨actC p a, 40, true⟩) (fun _ _ a b => b.c _ _ a) (t := OT.seq [(0, .P), (1, .S), (2, .P), (3, .S), (4, .P), (5, .S), (6, .P), (7, .S), (8, .P), (9, .W), (10, .P), (11, .W), (12, .P), (13, .W), (14, .P), (15, .W)] .nil) mixed (by kernel_rfl) (hgx _) ?_
  repeat (first | refine TAL.p rfl rfl rfl (fun h' hn => qao rfl ⟨rfl, rfl⟩) ?_ | refine TAL.s rfl rfl rfl (fun h' hn hx => qad rfl rfl hx rfl ⟨rfl, rfl⟩) ?_ | refine TAL.s rfl rfl rfl (fun h' hn hx => qah (sz := 7) rfl rfl hx (Nat.le_of_ble_eq_true rfl) ⟨rfl, rfl⟩) ?_)
  refine TAL.wj0 rfl rfl (qaB (v := .int .i64 a.client) rfl rfl rfl rfl ⟨hgx _, ?_⟩)
  repeat (first | refine TAL.p rfl rfl rfl (fun h' hn => qao rfl ⟨rfl, rfl⟩) ?_)
  refine TAL.wj0 rfl rfl (qaB (v := .int .i64 a.node) rfl rfl rfl rfl ⟨hgx _, ?_⟩)
  repeat (first | refine TAL.p rfl rfl rfl (fun h' hn => qao rfl ⟨rfl, rfl⟩) ?_)
  refine TAL.wj0 rfl rfl (qaB (v := .int .i64 a.group) rfl rfl rfl rfl ⟨hgx _, ?_⟩)
  repeat (first | refine TAL.p rfl rfl rfl (fun h' hn => qao rfl ⟨rfl, rfl⟩) ?_)
  refine TAL.wj0 rfl rfl (qbh (vs := askC p.q a.ask) rfl rfl rfl (qbF r.ra) rfl ⟨hgx _, ?_⟩)
  refine TAL.nil ?_
  cases clientB a <;> cases nodeB nodes a <;> cases groupB groups a <;>
  ·
   repeat (first | refine AWp.seq ?_)
   refine AWp.treeJ (fun H => H.get h.next = some ⟨actC p a, 40, true⟩) (fun _ _ a b => b.c _ _ a) (t := OT.seq [(0, .R), (1, .R), (2, .R), (3, .R), (4, .R), (5, .R), (6, .R), (7, .R), (8, .R), (9, .R), (10, .R), (11, .R), (12, .P), (13, .W), (14, .R)] .nil) mixed (by kernel_rfl) (hgx _) ?_
   repeat' (first | refine TAL.skip rfl rfl rfl ?_ | refine TAL.r rfl rfl rfl (fun h' hx hn => qae rfl ⟨rfl, rfl⟩) ?_ | refine TAL.rB rfl rfl rfl (fun h' hx hn => qac rfl rfl (qfv p.q a.ask h' (r.ra.ext ((xl _).trans hx))) ⟨rfl, rfl⟩) (fun c => ?_) (fun c => ?_) | refine TAL.r rfl rfl rfl (fun h' hx hn => qao rfl ⟨rfl, rfl⟩) ?_ | refine TAL.r rfl rfl rfl (fun h' hx hn => qah (sz := 33) rfl rfl (hx.c _ _ (gl _)) (Nat.le_refl _) ⟨rfl, rfl⟩) ?_ | refine TAL.r rfl rfl rfl (fun h' hx hn => qah (sz := 7) rfl rfl (hx.c _ _ (hgx _)) (Nat.le_of_ble_eq_true rfl) ⟨rfl, rfl⟩) ?_ | refine TAL.r rfl rfl rfl (fun h' hx hn => qag (v := .bool _) rfl rfl ⟨rfl, rfl⟩) ?_ | refine TAL.p rfl rfl rfl (fun h' hn => qag (v := .bool _) rfl rfl ⟨rfl, rfl⟩) ?_)
   all_goals refine TAL.wj0 rfl rfl (qap (vs := actC { actV0 with q := p.q } (namedA a)) rfl (by rw [hn]; rfl) rfl (by rw [hn]; exact qaD (hq h (Ext.refl h))) (gj _) rfl ⟨(Heap.set_other (Nat.ne_of_lt n1)).trans (hgx _), ?_⟩)
   repeat' (first | refine TAL.nil ?_ | refine TAL.r rfl rfl rfl (fun h' hx hn => qaa rfl ⟨rfl, rfl⟩) ?_)
   repeat' (first | refine AWp.ret ?_)
   all_goals refine ⟨_, ResV.cell2 rfl rfl rfl (Heap.set_at _ _ _) (Nat.le_refl _), { actV0 with q := p.q }, congrArg (fun b => Value.tuple #[.agg (actC { actV0 with q := p.q } (namedA a)).toArray, .bool b]) ?_, by rw [hn]; exact hq _ (xf _ _), xf _ _⟩
   all_goals clear hz xf xl gj hgx gl n2 wf2 n1 wf r hq hn ho
   all_goals grind
 by_cases k6 : a.kind = 11
 ·
  have hn : namedA a = { act0 with kind := a.kind, node := a.node, group := a.group, client := a.client } := by unfold namedA; grind
  have ho : rokA nodes groups a = (clientB a && nodeB nodes a && groupB groups a) := by unfold rokA; rw [if_neg k1, if_neg k2, if_neg k3, if_neg k4, if_neg k5, if_pos k6]
  have hq : ∀ h', Ext h h' → ActR h' actV0 { act0 with kind := a.kind, node := a.node, group := a.group, client := a.client } := fun h' x => ⟨(hz h').ra, (hz h').rc, (hz h').rk⟩
  rw [ho]
  repeat (first | refine AL.nil ?_ | refine AWp.seq ?_ | refine AWp.r9 ?_ | refine AWp.c8 rfl ?_ | refine AWp.c9 rfl ?_ | refine AWp.b9 ?_ | refine AL.set rfl rfl (qaa rfl ?_) | refine AL.set rfl rfl (qao rfl ?_) | refine AL.set rfl rfl (qad rfl rfl (hgx _) rfl ?_) | refine AL.set rfl rfl (qai rfl rfl rfl (by omega) ?_) | refine AL.set rfl rfl (qaj rfl rfl rfl (by omega) ?_))
  refine AWp.treeJ (fun H => H.get h.next = some ⟨actC p a, 40, true⟩) (fun _ _ a b => b.c _ _ a) (t := OT.seq [(0, .P), (1, .S), (2, .P), (3, .S), (4, .P), (5, .S), (6, .P), (7, .W), (8, .P), (9, .W), (10, .P), (11, .W)] .nil) mixed (by kernel_rfl) (hgx _) ?_
  repeat (first | refine TAL.p rfl rfl rfl (fun h' hn => qao rfl ⟨rfl, rfl⟩) ?_ | refine TAL.s rfl rfl rfl (fun h' hn hx => qad rfl rfl hx rfl ⟨rfl, rfl⟩) ?_)
  refine TAL.wj0 rfl rfl (qaB (v := .int .i64 a.client) rfl rfl rfl rfl ⟨hgx _, ?_⟩)
  repeat (first | refine TAL.p rfl rfl rfl (fun h' hn => qao rfl ⟨rfl, rfl⟩) ?_)
  refine TAL.wj0 rfl rfl (qaB (v := .int .i64 a.node) rfl rfl rfl rfl ⟨hgx _, ?_⟩)
  repeat (first | refine TAL.p rfl rfl rfl (fun h' hn => qao rfl ⟨rfl, rfl⟩) ?_)
  refine TAL.wj0 rfl rfl (qaB (v := .int .i64 a.group) rfl rfl rfl rfl ⟨hgx _, ?_⟩)
  refine TAL.nil ?_
  cases clientB a <;> cases nodeB nodes a <;> cases groupB groups a <;>
  ·
   repeat (first | refine AL.nil ?_ | refine AL.skip rfl rfl ?_ | refine AWp.seq ?_ | refine AWp.r9 ?_ | refine AWp.ret ?_ | refine AL.set rfl rfl (qae rfl ?_) | refine AL.set rfl rfl (qaa rfl ?_) | refine AL.set rfl rfl (qah (sz := 33) rfl rfl (gl _) (Nat.le_refl _) ?_) | refine AL.set rfl rfl (qag (v := .bool _) rfl rfl ?_) | refine AL.eff rfl (qap (vs := actC actV0 (namedA a)) rfl (by rw [hn]; rfl) rfl (by rw [hn]; exact qaD (hq h (Ext.refl h))) (gj _) rfl ?_))
   exact ⟨_, ResV.cell2 rfl rfl rfl (Heap.set_at _ _ _) (Nat.le_refl _), actV0, rfl, by rw [hn]; exact hq _ (xf _ _), xf _ _⟩
 by_cases k7 : a.kind = 12
 ·
  have hn : namedA a = { act0 with kind := a.kind, node := a.node, keep := a.keep } := by unfold namedA; grind
  have ho : rokA nodes groups a = (nodeB nodes a && kp a.keep) := by unfold rokA; rw [if_neg k1, if_neg k2, if_neg k3, if_neg k4, if_neg k5, if_neg k6, if_pos k7]
  have hq : ∀ h', Ext h h' → ActR h' { actV0 with k := p.k } { act0 with kind := a.kind, node := a.node, keep := a.keep } := fun h' x => ⟨(hz h').ra, (hz h').rc, (r.ext x).rk⟩
  rw [ho]
  repeat (first | refine AL.nil ?_ | refine AWp.seq ?_ | refine AWp.r9 ?_ | refine AWp.c8 rfl ?_ | refine AWp.c9 rfl ?_ | refine AWp.b9 ?_ | refine AL.set rfl rfl (qaa rfl ?_) | refine AL.set rfl rfl (qao rfl ?_) | refine AL.set rfl rfl (qad rfl rfl (hgx _) rfl ?_) | refine AL.set rfl rfl (qai rfl rfl rfl (by omega) ?_) | refine AL.set rfl rfl (qaj rfl rfl rfl (by omega) ?_))
  refine AWp.treeJ (fun H => H.get h.next = some ⟨actC p a, 40, true⟩) (fun _ _ a b => b.c _ _ a) (t := OT.seq [(0, .P), (1, .S), (2, .P), (3, .S), (4, .P), (5, .W), (6, .P), (7, .W)] .nil) mixed (by kernel_rfl) (hgx _) ?_
  repeat (first | refine TAL.p rfl rfl rfl (fun h' hn => qao rfl ⟨rfl, rfl⟩) ?_ | refine TAL.s rfl rfl rfl (fun h' hn hx => qad rfl rfl hx rfl ⟨rfl, rfl⟩) ?_)
  refine TAL.wj0 rfl rfl (qaB (v := .int .i64 a.node) rfl rfl rfl rfl ⟨hgx _, ?_⟩)
  repeat (first | refine TAL.p rfl rfl rfl (fun h' hn => qao rfl ⟨rfl, rfl⟩) ?_)
  refine TAL.wj0 rfl rfl (qaB (v := p.k) rfl rfl r.rk.one rfl ⟨hgx _, ?_⟩)
  refine TAL.nil ?_
  cases nodeB nodes a <;>
  ·
   repeat (first | refine AWp.seq ?_)
   refine AWp.treeJ (fun H => H.get h.next = some ⟨actC p a, 40, true⟩) (fun _ _ a b => b.c _ _ a) (t := OT.seq [(0, .R), (1, .R), (2, .R), (3, .R), (4, .R), (5, .R), (6, .P), (7, .W), (8, .R)] .nil) mixed (by kernel_rfl) (hgx _) ?_
   repeat' (first | refine TAL.skip rfl rfl rfl ?_ | refine TAL.r rfl rfl rfl (fun h' hx hn => qae rfl ⟨rfl, rfl⟩) ?_ | refine TAL.rB rfl rfl rfl (fun h' hx hn => qac rfl rfl (rkeep_c p.k a.keep h' (r.rk.ext ((xl _).trans hx))) ⟨rfl, rfl⟩) (fun c => ?_) (fun c => ?_) | refine TAL.r rfl rfl rfl (fun h' hx hn => qao rfl ⟨rfl, rfl⟩) ?_ | refine TAL.r rfl rfl rfl (fun h' hx hn => qad rfl rfl (hx.c _ _ (hgx _)) rfl ⟨rfl, rfl⟩) ?_ | refine TAL.r rfl rfl rfl (fun h' hx hn => qah (sz := 33) rfl rfl (hx.c _ _ (gl _)) (Nat.le_refl _) ⟨rfl, rfl⟩) ?_ | refine TAL.p rfl rfl rfl (fun h' hn => qag (v := .bool _) rfl rfl ⟨rfl, rfl⟩) ?_)
   all_goals refine TAL.wj0 rfl rfl (qap (vs := actC { actV0 with k := p.k } (namedA a)) rfl (by rw [hn]; rfl) rfl (by rw [hn]; exact qaD (hq h (Ext.refl h))) (gj _) rfl ⟨(Heap.set_other (Nat.ne_of_lt n1)).trans (hgx _), ?_⟩)
   repeat' (first | refine TAL.nil ?_ | refine TAL.r rfl rfl rfl (fun h' hx hn => qaa rfl ⟨rfl, rfl⟩) ?_)
   repeat' (first | refine AWp.ret ?_)
   all_goals refine ⟨_, ResV.cell2 rfl rfl rfl (Heap.set_at _ _ _) (Nat.le_refl _), { actV0 with k := p.k }, congrArg (fun b => Value.tuple #[.agg (actC { actV0 with k := p.k } (namedA a)).toArray, .bool b]) ?_, by rw [hn]; exact hq _ (xf _ _), xf _ _⟩
   all_goals clear hz xf xl gj hgx gl n2 wf2 n1 wf r hq hn ho
   all_goals grind
 ·
  have hn : namedA a = { act0 with kind := a.kind } := by unfold namedA; grind
  have ho : rokA nodes groups a = false := by unfold rokA; rw [if_neg k1, if_neg k2, if_neg k3, if_neg k4, if_neg k5, if_neg k6, if_neg k7]
  have hq : ∀ h', Ext h h' → ActR h' actV0 { act0 with kind := a.kind } := fun h' x => ⟨(hz h').ra, (hz h').rc, (hz h').rk⟩
  rw [ho]
  repeat (first | refine AL.nil ?_ | refine AWp.seq ?_ | refine AWp.r9 ?_ | refine AWp.c9 rfl ?_ | refine AWp.ret ?_ | refine AWp.b9 ?_ | refine AWp.k9 ?_ | refine AL.set rfl rfl (qaa rfl ?_) | refine AL.set rfl rfl (qao rfl ?_) | refine AL.set rfl rfl (qad rfl rfl (hgx _) rfl ?_) | refine AL.set rfl rfl (qah (sz := 33) rfl rfl (gl _) (Nat.le_refl _) ?_) | refine AL.set rfl rfl (qaj rfl rfl rfl (by omega) ?_) | refine AL.eff rfl (qap (vs := actC actV0 (namedA a)) rfl (by rw [hn]; rfl) rfl (by rw [hn]; exact qaD (hq h (Ext.refl h))) (gj _) rfl ?_))
  exact ⟨_, ResV.cell2 rfl rfl rfl (Heap.set_at _ _ _) (Nat.le_refl _), actV0, rfl, by rw [hn]; exact hq _ (xf _ _), xf _ _⟩
end Go.Proofs.YtigmojilaadbhaaGreatDoor

/-
 Scripts: the document's own: acts that may be, in a setup; what is wrong with a script.
-/
namespace Go.Proofs.YtigmojilaadbhaaGreatDoor
open Go Go.Eng Go.Pln Go.Lib
attribute [local irreducible] AWp AL DAL AOp TAL

instance i_rmaySet : FnC Tryz.prog 32 := ⟨Tryz.f32, Tryz.func32, by kernel_rfl, by kernel_rfl⟩
set_option maxHeartbeats 1000000 in
theorem rmay_c (p : ActV) (a : ActM) (nodes groups : Int) (h : Heap) (r : ActR h p a) : ACalls Tryz.prog 41 [.agg (actC p a).toArray, .int .i64 nodes, .int .i64 groups] h fun u h' => u = .bool (mayAct nodes groups a) ∧ h' = h := by
 refine ACalls.wf fun wf => ACalls.reset ?_
 refine ACalls.body Tryz.func41 rfl rfl ?_
 repeat (first | refine AL.nil ?_ | refine AWp.seq ?_ | refine AWp.r9 ?_ | refine AL.set rfl rfl (qaa rfl ?_) | refine AL.set rfl rfl (qaI rfl (by intro e; cases e) ?_))
 generalize hH : h.alloc _ = H
 have hg : H.get h.next = some ⟨actC p a, 40, true⟩ := hH ▸ Heap.alloc_new _ _
 have hx : Ext h H := hH ▸ wf.ext _
 have wfH : WF H := hH ▸ wf.alloc _
 clear hH
 rw [may_d]
 have rH := r.ext hx
 repeat (first | refine AL.set rfl rfl (qab rfl ?_) | refine AL.set rfl rfl (qah (sz := 33) rfl rfl hg (Nat.le_refl _) ?_))
 refine AL.set rfl rfl (qaq (evs := [.agg (actC p a).toArray, .int .i64 nodes, .int .i64 groups]) rfl rfl ((rabare_c p a nodes groups H rH).wf_post.mono ?_))
 rintro _ H1 ⟨⟨q, rfl, rq, x1⟩, wf1, _⟩
 repeat (first | refine AL.nil ?_ | refine AWp.seq ?_ | refine AWp.r9 ?_ | refine AL.set rfl rfl (qae rfl ?_) | refine AL.set rfl rfl (qaL rfl ?_) | refine AL.set rfl rfl (qaa rfl ?_) | refine AL.set rfl rfl (qay rfl rfl ?_) | refine AL.set rfl rfl (qas ?_) | refine AL.eff rfl (qaE (vs := actC q (namedA a)) rfl rfl rfl rfl (qaD rq) ?_))
 have g2 := Heap.alloc_new H1 ⟨actC q (namedA a), 40, true⟩
 have x2 := wf1.ext ⟨actC q (namedA a), 40, true⟩
 generalize H1.alloc ⟨actC q (namedA a), 40, true⟩ = H2 at g2 x2 ⊢
 have hxx := hx.trans (x1.trans x2)
 have cs := qev q p (namedA a) a H2 (rq.ext x2) (r.ext hxx)
 have hg2 := x2.c _ _ (x1.c _ _ hg)
 cases ho : rokA nodes groups a with
 | false =>
  repeat' (first | refine AL.nil ?_ | refine AL.skip rfl rfl ?_ | refine AWp.ret ?_ | refine AL.set rfl rfl (qaa rfl ?_) | refine AL.set rfl rfl (qag (v := .bool _) rfl rfl ?_))
  exact ⟨_, ResV.tmp rfl, rfl, hxx, rfl, rfl⟩
 | true =>
  repeat (first | refine AL.nil ?_ | refine AWp.ret ?_ | refine AL.set rfl rfl (qaa rfl ?_) | refine AL.set rfl rfl (qah (sz := 33) rfl rfl g2 (Nat.le_refl _) ?_) | refine AL.set rfl rfl (qah (sz := 33) rfl rfl hg2 (Nat.le_refl _) ?_) | refine AL.set rfl rfl (qac rfl rfl cs ?_) | refine AL.set rfl rfl (qag (v := .bool _) rfl rfl ?_))
  exact ⟨_, ResV.tmp rfl, rfl, hxx, rfl, rfl⟩
set_option maxHeartbeats 1000000 in
theorem rmayIn_c (x : SetM) (vg : Value) (p : ActV) (a : ActM) (h : Heap) (rg : RG h vg x.groups) (r : ActR h p a) : ACalls Tryz.prog 17 [.agg (setC vg x).toArray, .agg (actC p a).toArray] h fun u h' => u = .bool (mayIn x a) ∧ h' = h := by
 refine ACalls.wf fun wf => ACalls.reset ?_
 refine ACalls.body Tryz.func17 rfl rfl ?_
 repeat (first | refine AL.nil ?_ | refine AWp.seq ?_ | refine AWp.r9 ?_ | refine AL.set rfl rfl (qaa rfl ?_) | refine AL.set rfl rfl (qaI rfl (by intro e; cases e) ?_))
 generalize hH : h.alloc _ = H1
 have hg0 : H1.get h.next = some ⟨setC vg x, 24, true⟩ := hH ▸ Heap.alloc_new _ _
 have hx1 : Ext h H1 := hH ▸ wf.ext _
 have wf1 : WF H1 := hH ▸ wf.alloc _
 skip
 generalize hH2 : H1.alloc _ = H
 have hg2 : H.get H1.next = some ⟨actC p a, 40, true⟩ := hH2 ▸ Heap.alloc_new _ _
 have hx2 : Ext H1 H := hH2 ▸ wf1.ext _
 have hg1 : H.get h.next = some ⟨setC vg x, 24, true⟩ := hx2.c _ _ hg0
 have hx : Ext h H := hx1.trans hx2
 clear hH hH2
 have cs := rmaySet_c x vg H (rg.ext hx)
 have cm := rmay_c p a x.nodes x.groups.length H (r.ext hx)
 obtain ⟨vs, gg1, gg2, _⟩ := rg.ext hx
 rw [← gg2] at cm
 unfold mayIn
 cases hs : maySet x with
 | false =>
  rw [hs] at cs
  repeat (first | refine AL.nil ?_ | refine AL.skip rfl rfl ?_ | refine AWp.ret ?_ | refine AL.set rfl rfl (qae rfl ?_) | refine AL.set rfl rfl (qaa rfl ?_) | refine AL.set rfl rfl (qah (sz := 5) rfl rfl hg1 (Nat.le_refl _) ?_) | refine AL.set rfl rfl (qac rfl rfl cs ?_) | refine AL.set rfl rfl (qag (v := .bool _) rfl rfl ?_))
  exact ⟨_, ResV.tmp rfl, rfl, hx, rfl, rfl⟩
 | true =>
  rw [hs] at cs
  repeat (first | refine AL.nil ?_ | refine AWp.ret ?_ | refine AL.set rfl rfl (qae rfl ?_) | refine AL.set rfl rfl (qaa rfl ?_) | refine AL.set rfl rfl (qah (sz := 5) rfl rfl hg1 (Nat.le_refl _) ?_) | refine AL.set rfl rfl (qac rfl rfl cs ?_) | refine AL.set rfl rfl (qah (sz := 33) rfl rfl hg2 (Nat.le_refl _) ?_) | refine AL.set rfl rfl (qao rfl ?_) | refine AL.set rfl rfl (qad rfl rfl hg1 rfl ?_) | refine AL.set rfl rfl (qaK gg1 rfl ?_) | refine AL.set rfl rfl (qac rfl rfl cm ?_) | refine AL.set rfl rfl (qag (v := .bool _) rfl rfl ?_))
  exact ⟨_, ResV.tmp rfl, rfl, hx, by rw [gg2]; rfl, rfl⟩
end Go.Proofs.YtigmojilaadbhaaGreatDoor

/-
 Scripts: the law of acts (ScriptActs).
-/
namespace Go.Proofs.YtigmojilaadbhaaGreatDoor
open Go Go.Eng Go.Pln Go.Lib
attribute [local irreducible] AWp AL DAL AOp TAL

theorem RA.nil (h : Heap) : RA h nilS [] := ⟨⟨[], RN.nil _ _, rfl, fun k row a hr => by simp at hr⟩, Nat.zero_le _⟩
set_option maxHeartbeats 4000000 in
theorem acts_walk (vg : Value) (x : SetM) (p : ActV) (a : ActM) (h : Heap) (t : Tabs h) (h8 : 8 ≤ h.next) (rg : RG h vg x.groups) (r : ActR h p a) : ACalls Tryz.prog 3 [.agg (setC vg x).toArray, .agg (actC p a).toArray] h fun u h' => u = .bool true ∧ h' = h := by
 refine ACalls.wf fun wf => ACalls.reset ?_
 refine ACalls.body Tryz.func3 rfl rfl ?_
 refine AWp.seq ?_
 refine AWp.r9 ?_
 refine AL.set rfl rfl (qaI rfl (by intro e; cases e) ?_)
 generalize hH : h.alloc _ = H1
 have n0 : 8 ≤ H1.next := by rw [← hH]; show 8 ≤ h.next + 1; omega
 have hg0 : H1.get h.next = some ⟨setC vg x, 24, true⟩ := hH ▸ Heap.alloc_new _ _
 have hx1 : Ext h H1 := hH ▸ wf.ext _
 have wf1 : WF H1 := hH ▸ wf.alloc _
 refine AL.set rfl rfl (qaI rfl (by intro e; cases e) ?_)
 generalize hH2 : H1.alloc _ = H
 have n8 : 8 ≤ H.next := by rw [← hH2]; show 8 ≤ H1.next + 1; omega
 have hg2 : H.get H1.next = some ⟨actC p a, 40, true⟩ := hH2 ▸ Heap.alloc_new _ _
 have hx2 : Ext H1 H := hH2 ▸ wf1.ext _
 have hg1 : H.get h.next = some ⟨setC vg x, 24, true⟩ := hx2.c _ _ hg0
 have xh : Ext h H := hx1.trans hx2
 clear hH hH2
 have tH := t.ext xh
 have rH := r.ext xh
 have gH := rg.ext xh
 have cK := qhE H tH n8
 repeat (first | refine AL.nil ?_ | refine AWp.seq ?_ | refine AWp.r9 ?_ | refine AL.set rfl rfl (qaa rfl ?_) | refine AL.set rfl rfl (qah (sz := 5) rfl rfl hg1 (Nat.le_refl _) ?_) | refine AL.set rfl rfl (qau (out := scrC vg nilS x) rfl rfl ?_))
 refine AL.set rfl rfl (qaq (evs := [.agg (scrC vg nilS x).toArray, .int .i64 9000]) rfl rfl ((muchS_c ⟨x, []⟩ vg nilS 9000 H gH (RA.nil H)).mono ?_))
 rintro _ K1 ⟨⟨b, rfl⟩, hK1⟩
 cases hK1.symm
 cases b with
 | true =>
  repeat (first | refine AL.nil ?_ | refine AL.skip rfl rfl ?_ | refine AWp.seq ?_ | refine AWp.r9 ?_ | refine AWp.c8 rfl ?_ | refine AWp.ret ?_ | refine AL.set rfl rfl (qae rfl ?_) | refine AL.set rfl rfl (qaa rfl ?_) | refine AL.set rfl rfl (qag (v := .bool _) rfl rfl ?_) | refine AL.set rfl rfl (qac rfl rfl cK ?_))
  exact ⟨_, ResV.tmp rfl, rfl, xh, rfl, rfl⟩
 | false =>
  repeat (first | refine AL.set rfl rfl (qae rfl ?_) | refine AL.set rfl rfl (qah (sz := 33) rfl rfl hg2 (Nat.le_refl _) ?_))
  refine AL.set rfl rfl (qaq (evs := [.agg (actC p a).toArray, .int .i64 3000]) rfl rfl ((longA_c p a 3000 H rH).mono ?_))
  rintro _ K2 ⟨⟨b, rfl⟩, hK2⟩
  cases hK2.symm
  cases b with
  | true =>
   repeat (first | refine AL.nil ?_ | refine AWp.seq ?_ | refine AWp.r9 ?_ | refine AWp.c8 rfl ?_ | refine AWp.ret ?_ | refine AL.set rfl rfl (qaa rfl ?_) | refine AL.set rfl rfl (qag (v := .bool _) rfl rfl ?_) | refine AL.set rfl rfl (qac rfl rfl cK ?_))
   exact ⟨_, ResV.tmp rfl, rfl, xh, rfl, rfl⟩
  | false =>
   repeat (first | refine AL.nil ?_ | refine AWp.seq ?_ | refine AWp.c9 rfl ?_ | refine AWp.k9 ?_ | refine AL.set rfl rfl (qag (v := .bool _) rfl rfl ?_))
   have cA := fun (G : Heap) (hx : Ext H G) => mayIn_c x vg p a G (gH.ext hx) (rH.ext hx)
   have cB := fun (G : Heap) (hx : Ext H G) => rmayIn_c x vg p a G (gH.ext hx) (rH.ext hx)
   refine AWp.drawR mixed (by kernel_rfl) ?_
   repeat (first | refine DAL.r rfl rfl rfl (fun h' hx hn => qae rfl ⟨rfl, rfl⟩) ?_ | refine DAL.r rfl rfl rfl (fun h' hx hn => qaa rfl ⟨rfl, rfl⟩) ?_ | refine DAL.r rfl rfl rfl (fun h' hx hn => qah (sz := 5) rfl rfl (hx.c _ _ hg1) (Nat.le_refl _) ⟨rfl, rfl⟩) ?_ | refine DAL.r rfl rfl rfl (fun h' hx hn => qah (sz := 33) rfl rfl (hx.c _ _ hg2) (Nat.le_refl _) ⟨rfl, rfl⟩) ?_ | refine DAL.r rfl rfl rfl (fun h' hx hn => qac rfl rfl (cA _ hx) ⟨rfl, rfl⟩) ?_ | refine DAL.r rfl rfl rfl (fun h' hx hn => qac rfl rfl (cB _ hx) ⟨rfl, rfl⟩) ?_ | refine DAL.r rfl rfl rfl (fun h' hx hn => qbM (a := mayIn x a) (b := mayIn x a) rfl rfl rfl ⟨rfl, rfl⟩) ?_ | refine DAL.r rfl rfl rfl (fun h' hx hn => qac rfl rfl (qhE _ (tH.ext hx) (by omega)) ⟨rfl, rfl⟩) ?_ | refine DAL.r rfl rfl rfl (fun h' hx hn => qag (v := .bool _) rfl rfl ⟨rfl, rfl⟩) ?_)
   refine DAL.nil ?_
   repeat (first | refine AWp.ret ?_)
   exact ⟨_, ResV.tmp rfl, rfl, xh, rfl, rfl⟩
end Go.Proofs.YtigmojilaadbhaaGreatDoor

/-
 The engine: what plain arguments read avs, by the forms that contracts ask for.
-/
namespace Go.Eng
open Go

section
variable {P : Program} {h : Heap} {n : Nat} {t e : TypeId} {cs : List Value}
theorem Rd.int {k : IntKind} (hu : P.underlying t = some (.int k)) (r : Rd P h (n + 1) t cs) : ∃ a, cs = [.int k a] ∧ (Lit.int k a).wf = true := by
 unfold Rd at r
 rw [hu] at r
 exact r
theorem Rd.str (hu : P.underlying t = some .string) (r : Rd P h (n + 1) t cs) : ∃ s, cs = [.string (bstr s)] ∧ s.length ≤ reachBytes := by
 unfold Rd at r
 rw [hu] at r
 exact r
theorem Rd.bool (hu : P.underlying t = some .bool) (r : Rd P h (n + 1) t cs) : ∃ b, cs = [.bool b] := by
 unfold Rd at r
 rw [hu] at r
 exact r
theorem Rd.strc {fs : Array Field} (hu : P.underlying t = some (.struct fs)) (r : Rd P h (n + 1) t cs) : cs.length = P.cellsOf t ∧ ∀ f ∈ fs.toList, Rd P h n f.type ((cs.drop f.offset).take (P.cellsOf f.type)) := by
 unfold Rd at r
 rw [hu] at r
 exact r
theorem qg2 {α : Type} {Q : Nat → α → Prop} : ∀ m : Nat, (∀ k, k < m → ∃ x, Q k x) → ∃ L : List α, L.length = m ∧ ∀ (k : Nat) x, L[k]? = some x → Q k x
 | 0, _ => ⟨[], rfl, fun k x h => by simp at h⟩
 | m + 1, p => by
  obtain ⟨L, h1, h2⟩ := qg2 m fun k hk => p k (by omega)
  obtain ⟨x, hx⟩ := p m (by omega)
  refine ⟨L ++ [x], by simp [h1], fun k y hy => ?_⟩
  rw [List.getElem?_append] at hy
  split at hy
  ·
   exact h2 k y hy
  ·
   rename_i hk
   have : k = m := by
    have := (List.getElem?_eq_some_iff.1 hy).1
    simp at this
    omega
   subst this
   simp only [h1, Nat.sub_self, List.getElem?_cons_zero, Option.some.injEq] at hy
   subst hy
   exact hx
theorem Rd.rows {α : Type} {row : α → List Value} {Q : α → Prop} {c : Nat} (hu : P.underlying t = some (.slice e)) (hc : P.cellsOf e = c) (h0 : 0 < c) (r : Rd P h (n + 1) t cs) (hq : ∀ cs, Rd P h n e cs → ∃ x, cs = row x ∧ (row x).length = c ∧ Q x) :
  ∃ (v : Value) (L : List α), cs = [v] ∧ RN c h v (L.map row) ∧ (∀ x ∈ L, Q x) ∧ L.length * P.bytesOf e ≤ reachBytes := by
 unfold Rd at r
 rw [hu] at r
 subst hc
 rcases r with rfl | ⟨i, len, cap, cells, rfl, hb, hl, hg, ha⟩
 ·
  exact ⟨_, [], rfl, RN.nil _ _, by simp, by simp⟩
 ·
  obtain ⟨L, h1, h2⟩ := qg2 (Q := fun k x => (cells.drop (k * P.cellsOf e)).take (P.cellsOf e) = row x ∧ (row x).length = P.cellsOf e ∧ Q x) len fun k hk => hq _ (ha k hk)
  have hflat : (L.map row).flatten = cells := by
   have : L.map row = (List.range len).map fun k => (cells.drop (k * P.cellsOf e)).take (P.cellsOf e) := by
    apply List.ext_getElem?
    intro k
    rw [List.getElem?_map, List.getElem?_map]
    by_cases hk : k < len
    ·
     have hkl : k < L.length := by omega
     rw [List.getElem?_eq_getElem hkl, List.getElem?_range hk]
     simp only [Option.map_some]
     rw [(h2 k _ (List.getElem?_eq_getElem hkl)).1]
    ·
     rw [List.getElem?_eq_none (by omega), List.getElem?_eq_none (by simp; omega)]
     rfl
   rw [this]
   exact qcv hl
  have hmem : ∀ x ∈ L, (row x).length = P.cellsOf e ∧ Q x := fun x hx => by
   obtain ⟨k, hk⟩ := List.getElem?_of_mem hx
   exact (h2 k x hk).2
  refine ⟨_, L, rfl, ⟨fun r hr => by obtain ⟨x, hx, rfl⟩ := List.mem_map.1 hr; exact (hmem x hx).1, .inr ⟨i, 0, none, cap, by rw [List.length_map, h1], .inl rfl, fun hne => ?_⟩⟩, fun x hx => (hmem x hx).2, by rw [h1]; exact hb⟩
  rw [hflat, List.length_map, h1]
  by_cases hz : cells = []
  ·
   subst hz
   have h3 : len * P.cellsOf e = 0 := by simpa using hl.symm
   rw [h3]
   have : len ≠ 0 := fun e0 => hne (by rw [List.eq_nil_of_length_eq_zero (h1.trans e0)]; rfl)
   rcases Nat.mul_eq_zero.1 h3 with h4 | h4
   ·
    exact absurd h4 this
   ·
    omega
  ·
   exact ⟨_, hg hz, by simp only [Nat.zero_add]; omega, by simp only [List.drop_zero]; rw [List.take_of_length_le (by omega)]⟩
theorem RN.rs1 {α : Type} {f : α → Value} {v : Value} {L : List α} (r : RN 1 h v (L.map fun x => [f x])) : RS h v (L.map f) := by
 have hf : ∀ L : List α, (L.map fun x => [f x]).flatten = L.map f := fun L => by
  induction L with
  | nil => rfl
  | cons x L ih => simp only [List.map_cons, List.flatten_cons, ih]; rfl
 rcases r.at_ with ⟨h1, h2⟩ | ⟨i, o, s, cap, h1, h2, h3⟩
 ·
  refine .inl ⟨h1, ?_⟩
  have : L = [] := by simpa using h2
  rw [this]; rfl
 ·
  refine .inr ⟨i, o, s, cap, by simpa using h1, h2, fun hne => ?_⟩
  obtain ⟨b, b1, b2, b3⟩ := h3 (fun e => hne (by have h6 : L = [] := (by simpa using e); rw [h6]; rfl))
  rw [hf] at b3
  exact ⟨b, b1, by simpa using b2, by simpa using b3⟩
theorem Rd.bytes (hu : P.underlying t = some (.slice e)) (hv : P.underlying e = some (.int .u8)) (hc : P.cellsOf e = 1) (hb : P.bytesOf e = 1) (r : Rd P h (n + 2) t cs) : ∃ v b, cs = [v] ∧ RB h v b ∧ b.length ≤ reachBytes := by
 obtain ⟨v, L, h1, h2, _, h4⟩ := r.rows (row := fun x : UInt8 => [.int .u8 (x.toNat : Nat)]) (Q := fun _ => True) hu hc (by decide) fun cs rc => by
  obtain ⟨a, h1, h2⟩ := rc.int hv
  have h3 : 0 ≤ a ∧ a < 256 := by
   have h4 : (decide (IntKind.u8.min ≤ a) && decide (a ≤ IntKind.u8.max)) = true := h2
   simp only [Bool.and_eq_true, decide_eq_true_iff] at h4
   have h5 : IntKind.u8.min = 0 := rfl
   have h6 : IntKind.u8.max = 255 := rfl
   omega
  exact ⟨UInt8.ofNat a.toNat, by rw [h1]; simp; omega, rfl, trivial⟩
 exact ⟨v, L, h1, h2.rs1, by rw [hb] at h4; omega⟩
theorem RdV.whole {v : Value} (hw : wholeB (P.underlying t) = true) (r : RdV P h n t v) : ∃ cs : Array Value, v = .agg cs ∧ Rd P h n t cs.toList := by
 unfold RdV at r
 rw [hw] at r
 exact r
end
end Go.Eng

/-
 Scripts: what comes in, read.
-/
namespace Go.Proofs.YtigmojilaadbhaaGreatDoor
open Go Go.Eng Go.Pln Go.Lib
attribute [local irreducible] Rd RdV AWp AL DAL AOp TAL

theorem qaC {cs p r : List Value} {o n : Nat} (h1 : (cs.drop o).take n = p) (h2 : cs.drop (o + n) = r) : cs.drop o = p ++ r := by
 rw [← h1, ← h2, ← List.drop_drop, List.take_append_drop]
theorem qbV {cs : List Value} {n : Nat} (h : cs.length = n) : cs.drop n = [] := List.drop_of_length_le (by omega)
theorem qbO : Tryz.prog.cellsOf 3 = 1 := by kernel_rfl
theorem rc_i64 : Tryz.prog.cellsOf 2 = 1 := by kernel_rfl
theorem rc_str : Tryz.prog.cellsOf 9 = 1 := by kernel_rfl
theorem rc_bool : Tryz.prog.cellsOf 4 = 1 := by kernel_rfl
theorem qei : Tryz.prog.cellsOf 5 = 1 := by kernel_rfl
theorem qeh : Tryz.prog.cellsOf 27 = 1 := by kernel_rfl
theorem rc_ak : Tryz.prog.cellsOf 26 = 1 := by kernel_rfl
theorem rc_ck : Tryz.prog.cellsOf 30 = 1 := by kernel_rfl
theorem rc_kd : Tryz.prog.cellsOf 169 = 1 := by kernel_rfl
theorem rc_atk : Tryz.prog.cellsOf 25 = 1 := by kernel_rfl
theorem rc_ask : Tryz.prog.cellsOf 29 = 7 := by kernel_rfl
theorem rc_req : Tryz.prog.cellsOf 32 = 9 := by kernel_rfl
theorem rc_move : Tryz.prog.cellsOf 34 = 6 := by kernel_rfl
theorem rc_ent : Tryz.prog.cellsOf 171 = 4 := by kernel_rfl
theorem rc_ents : Tryz.prog.cellsOf 35 = 1 := by kernel_rfl
theorem rc_cmd : Tryz.prog.cellsOf 37 = 20 := by kernel_rfl
theorem rc_kept : Tryz.prog.cellsOf 79 = 2 := by kernel_rfl
theorem rc_kepts : Tryz.prog.cellsOf 38 = 1 := by kernel_rfl
theorem rc_act : Tryz.prog.cellsOf 40 = 33 := by kernel_rfl
theorem rc_ints : Tryz.prog.cellsOf 77 = 1 := by kernel_rfl
theorem rc_grps : Tryz.prog.cellsOf 22 = 1 := by kernel_rfl
theorem rc_set : Tryz.prog.cellsOf 24 = 5 := by kernel_rfl
theorem rb_int : Tryz.prog.bytesOf 3 = 8 := by kernel_rfl
theorem qeb : Tryz.prog.bytesOf 5 = 1 := by kernel_rfl
theorem rb_ints : Tryz.prog.bytesOf 77 = 24 := by kernel_rfl
theorem rb_ent : Tryz.prog.bytesOf 171 = 64 := by kernel_rfl
theorem rb_kept : Tryz.prog.bytesOf 79 = 24 := by kernel_rfl
theorem ask_in (n : Nat) (h : Heap) (cs : List Value) (r : Rd Tryz.prog h (n + 3) 29 cs) : ∃ (q : AskV) (a : AskM), cs = askC q a ∧ AskR h q a := by
 obtain ⟨hl, hf⟩ := r.strc Tryz.underlying29
 rw [rc_ask] at hl
 have f0 : Rd Tryz.prog h (n + 2) 26 ((cs.drop 0).take (Tryz.prog.cellsOf 26)) := hf _ (List.mem_of_getElem? (i := 0) rfl)
 rw [rc_ak] at f0
 obtain ⟨x0, e0, _⟩ := f0.int Tryz.underlying26
 have f1 : Rd Tryz.prog h (n + 2) 27 ((cs.drop 1).take (Tryz.prog.cellsOf 27)) := hf _ (List.mem_of_getElem? (i := 1) rfl)
 rw [qeh] at f1
 obtain ⟨v1, x1, e1, b1, _⟩ := f1.bytes Tryz.underlying27 Tryz.underlying5 qei qeb
 have f2 : Rd Tryz.prog h (n + 2) 27 ((cs.drop 2).take (Tryz.prog.cellsOf 27)) := hf _ (List.mem_of_getElem? (i := 2) rfl)
 rw [qeh] at f2
 obtain ⟨v2, x2, e2, b2, _⟩ := f2.bytes Tryz.underlying27 Tryz.underlying5 qei qeb
 have f3 : Rd Tryz.prog h (n + 2) 27 ((cs.drop 3).take (Tryz.prog.cellsOf 27)) := hf _ (List.mem_of_getElem? (i := 3) rfl)
 rw [qeh] at f3
 obtain ⟨v3, x3, e3, b3, _⟩ := f3.bytes Tryz.underlying27 Tryz.underlying5 qei qeb
 have f4 : Rd Tryz.prog h (n + 2) 27 ((cs.drop 4).take (Tryz.prog.cellsOf 27)) := hf _ (List.mem_of_getElem? (i := 4) rfl)
 rw [qeh] at f4
 obtain ⟨v4, x4, e4, b4, _⟩ := f4.bytes Tryz.underlying27 Tryz.underlying5 qei qeb
 have f5 : Rd Tryz.prog h (n + 2) 4 ((cs.drop 5).take (Tryz.prog.cellsOf 4)) := hf _ (List.mem_of_getElem? (i := 5) rfl)
 rw [rc_bool] at f5
 obtain ⟨x5, e5⟩ := f5.bool Tryz.underlying4
 have f6 : Rd Tryz.prog h (n + 2) 3 ((cs.drop 6).take (Tryz.prog.cellsOf 3)) := hf _ (List.mem_of_getElem? (i := 6) rfl)
 rw [qbO] at f6
 obtain ⟨x6, e6, _⟩ := f6.int Tryz.underlying3
 have e := (qaC e0 (qaC e1 (qaC e2 (qaC e3 (qaC e4 (qaC e5 (qaC e6 (qbV hl))))))))
 rw [List.drop_zero] at e
 exact ⟨⟨v1, v2, v3, v4⟩, ⟨x0, x1, x2, x3, x4, x5, x6⟩, e, ⟨b1, b2, b3, b4⟩⟩
theorem req_in (n : Nat) (h : Heap) (cs : List Value) (r : Rd Tryz.prog h (n + 4) 32 cs) : ∃ (q : AskV) (a : ReqM), cs = .int .i64 a.client :: .int .i64 a.number :: askC q a.ask ∧ AskR h q a.ask := by
 obtain ⟨hl, hf⟩ := r.strc Tryz.underlying32
 rw [rc_req] at hl
 have f0 : Rd Tryz.prog h (n + 3) 3 ((cs.drop 0).take (Tryz.prog.cellsOf 3)) := hf _ (List.mem_of_getElem? (i := 0) rfl)
 rw [qbO] at f0
 obtain ⟨x0, e0, _⟩ := f0.int Tryz.underlying3
 have f1 : Rd Tryz.prog h (n + 3) 2 ((cs.drop 1).take (Tryz.prog.cellsOf 2)) := hf _ (List.mem_of_getElem? (i := 1) rfl)
 rw [rc_i64] at f1
 obtain ⟨x1, e1, _⟩ := f1.int Tryz.underlying2
 have f2 : Rd Tryz.prog h (n + 3) 29 ((cs.drop 2).take (Tryz.prog.cellsOf 29)) := hf _ (List.mem_of_getElem? (i := 2) rfl)
 rw [rc_ask] at f2
 obtain ⟨q2, x2, e2, b2⟩ := ask_in _ h _ f2
 have e := (qaC e0 (qaC e1 (qaC e2 (qbV hl))))
 rw [List.drop_zero] at e
 exact ⟨q2, ⟨x0, x1, x2⟩, e.trans (by simp), b2⟩
theorem move_in (n : Nat) (h : Heap) (cs : List Value) (r : Rd Tryz.prog h (n + 3) 34 cs) : ∃ (q : MoveV) (a : MoveM), cs = moveC q a ∧ MoveR h q a := by
 obtain ⟨hl, hf⟩ := r.strc Tryz.underlying34
 rw [rc_move] at hl
 have f0 : Rd Tryz.prog h (n + 2) 2 ((cs.drop 0).take (Tryz.prog.cellsOf 2)) := hf _ (List.mem_of_getElem? (i := 0) rfl)
 rw [rc_i64] at f0
 obtain ⟨x0, e0, _⟩ := f0.int Tryz.underlying2
 have f1 : Rd Tryz.prog h (n + 2) 27 ((cs.drop 1).take (Tryz.prog.cellsOf 27)) := hf _ (List.mem_of_getElem? (i := 1) rfl)
 rw [qeh] at f1
 obtain ⟨v1, x1, e1, b1, _⟩ := f1.bytes Tryz.underlying27 Tryz.underlying5 qei qeb
 have f2 : Rd Tryz.prog h (n + 2) 27 ((cs.drop 2).take (Tryz.prog.cellsOf 27)) := hf _ (List.mem_of_getElem? (i := 2) rfl)
 rw [qeh] at f2
 obtain ⟨v2, x2, e2, b2, _⟩ := f2.bytes Tryz.underlying27 Tryz.underlying5 qei qeb
 have f3 : Rd Tryz.prog h (n + 2) 4 ((cs.drop 3).take (Tryz.prog.cellsOf 4)) := hf _ (List.mem_of_getElem? (i := 3) rfl)
 rw [rc_bool] at f3
 obtain ⟨x3, e3⟩ := f3.bool Tryz.underlying4
 have f4 : Rd Tryz.prog h (n + 2) 3 ((cs.drop 4).take (Tryz.prog.cellsOf 3)) := hf _ (List.mem_of_getElem? (i := 4) rfl)
 rw [qbO] at f4
 obtain ⟨x4, e4, _⟩ := f4.int Tryz.underlying3
 have f5 : Rd Tryz.prog h (n + 2) 3 ((cs.drop 5).take (Tryz.prog.cellsOf 3)) := hf _ (List.mem_of_getElem? (i := 5) rfl)
 rw [qbO] at f5
 obtain ⟨x5, e5, _⟩ := f5.int Tryz.underlying3
 have e := (qaC e0 (qaC e1 (qaC e2 (qaC e3 (qaC e4 (qaC e5 (qbV hl)))))))
 rw [List.drop_zero] at e
 exact ⟨⟨v1, v2⟩, ⟨x0, x1, x2, x3, x4, x5⟩, e, ⟨b1, b2⟩⟩
def entX (x : EntM × Value × Value) : List Value := [x.2.1, .int .i64 x.1.seq, .int .i64 x.1.kind, x.2.2]
theorem ent_in (n : Nat) (h : Heap) (cs : List Value) (r : Rd Tryz.prog h (n + 3) 171 cs) : ∃ x : EntM × Value × Value, cs = entX x ∧ (entX x).length = 4 ∧ (RB h x.2.1 x.1.key ∧ RB h x.2.2 x.1.value) := by
 obtain ⟨hl, hf⟩ := r.strc Tryz.underlying171
 rw [rc_ent] at hl
 have f0 : Rd Tryz.prog h (n + 2) 27 ((cs.drop 0).take (Tryz.prog.cellsOf 27)) := hf _ (List.mem_of_getElem? (i := 0) rfl)
 rw [qeh] at f0
 obtain ⟨v0, x0, e0, b0, _⟩ := f0.bytes Tryz.underlying27 Tryz.underlying5 qei qeb
 have f1 : Rd Tryz.prog h (n + 2) 2 ((cs.drop 1).take (Tryz.prog.cellsOf 2)) := hf _ (List.mem_of_getElem? (i := 1) rfl)
 rw [rc_i64] at f1
 obtain ⟨x1, e1, _⟩ := f1.int Tryz.underlying2
 have f2 : Rd Tryz.prog h (n + 2) 169 ((cs.drop 2).take (Tryz.prog.cellsOf 169)) := hf _ (List.mem_of_getElem? (i := 2) rfl)
 rw [rc_kd] at f2
 obtain ⟨x2, e2, _⟩ := f2.int Tryz.underlying169
 have f3 : Rd Tryz.prog h (n + 2) 27 ((cs.drop 3).take (Tryz.prog.cellsOf 27)) := hf _ (List.mem_of_getElem? (i := 3) rfl)
 rw [qeh] at f3
 obtain ⟨v3, x3, e3, b3, _⟩ := f3.bytes Tryz.underlying27 Tryz.underlying5 qei qeb
 have e := (qaC e0 (qaC e1 (qaC e2 (qaC e3 (qbV hl)))))
 rw [List.drop_zero] at e
 exact ⟨(⟨x0, x1, x2, x3⟩, v0, v3), e, rfl, b0, b3⟩
theorem ents_in (n : Nat) (h : Heap) (cs : List Value) (r : Rd Tryz.prog h (n + 4) 35 cs) : ∃ v l, cs = [v] ∧ RE h v l := by
 obtain ⟨v, L, h1, h2, h3, h4⟩ := r.rows (row := entX) (Q := fun x => RB h x.2.1 x.1.key ∧ RB h x.2.2 x.1.value) Tryz.underlying35 rc_ent (by decide) (ent_in n h)
 rw [rb_ent] at h4
 unfold reachBytes at h4
 refine ⟨v, L.map (·.1), h1, ⟨⟨_, h2, by simp, fun k row e hr he => ?_⟩, by rw [List.length_map]; omega⟩⟩
 rw [List.getElem?_map] at hr he
 obtain ⟨x, hx, rfl⟩ := Option.map_eq_some_iff.1 hr
 rw [hx] at he
 cases he
 obtain ⟨b1, b2⟩ := h3 x (List.mem_of_getElem? hx)
 exact ⟨x.2.1, x.2.2, rfl, b1, b2⟩
theorem cmd_in (n : Nat) (h : Heap) (cs : List Value) (r : Rd Tryz.prog h (n + 5) 37 cs) : ∃ (q : CmdV) (a : CmdM), cs = cmdC q a ∧ CmdR h q a := by
 obtain ⟨hl, hf⟩ := r.strc Tryz.underlying37
 rw [rc_cmd] at hl
 have f0 : Rd Tryz.prog h (n + 4) 30 ((cs.drop 0).take (Tryz.prog.cellsOf 30)) := hf _ (List.mem_of_getElem? (i := 0) rfl)
 rw [rc_ck] at f0
 obtain ⟨x0, e0, _⟩ := f0.int Tryz.underlying30
 have f1 : Rd Tryz.prog h (n + 4) 32 ((cs.drop 1).take (Tryz.prog.cellsOf 32)) := hf _ (List.mem_of_getElem? (i := 1) rfl)
 rw [rc_req] at f1
 obtain ⟨q1, x1, e1, b1⟩ := req_in _ h _ f1
 have f2 : Rd Tryz.prog h (n + 4) 34 ((cs.drop 10).take (Tryz.prog.cellsOf 34)) := hf _ (List.mem_of_getElem? (i := 2) rfl)
 rw [rc_move] at f2
 obtain ⟨q2, x2, e2, b2⟩ := move_in _ h _ f2
 have f3 : Rd Tryz.prog h (n + 4) 35 ((cs.drop 16).take (Tryz.prog.cellsOf 35)) := hf _ (List.mem_of_getElem? (i := 3) rfl)
 rw [rc_ents] at f3
 obtain ⟨v3, x3, e3, b3⟩ := ents_in _ h _ f3
 have f4 : Rd Tryz.prog h (n + 4) 27 ((cs.drop 17).take (Tryz.prog.cellsOf 27)) := hf _ (List.mem_of_getElem? (i := 4) rfl)
 rw [qeh] at f4
 obtain ⟨v4, x4, e4, b4, _⟩ := f4.bytes Tryz.underlying27 Tryz.underlying5 qei qeb
 have f5 : Rd Tryz.prog h (n + 4) 27 ((cs.drop 18).take (Tryz.prog.cellsOf 27)) := hf _ (List.mem_of_getElem? (i := 5) rfl)
 rw [qeh] at f5
 obtain ⟨v5, x5, e5, b5, _⟩ := f5.bytes Tryz.underlying27 Tryz.underlying5 qei qeb
 have f6 : Rd Tryz.prog h (n + 4) 3 ((cs.drop 19).take (Tryz.prog.cellsOf 3)) := hf _ (List.mem_of_getElem? (i := 6) rfl)
 rw [qbO] at f6
 obtain ⟨x6, e6, _⟩ := f6.int Tryz.underlying3
 have e := (qaC e0 (qaC e1 (qaC e2 (qaC e3 (qaC e4 (qaC e5 (qaC e6 (qbV hl))))))))
 rw [List.drop_zero] at e
 exact ⟨⟨q1, q2, v3, v4, v5⟩, ⟨x0, x1, x2, x3, x4, x5, x6⟩, e, ⟨b1, b2, b3, b4, b5⟩⟩
theorem kept_in (n : Nat) (h : Heap) (cs : List Value) (r : Rd Tryz.prog h (n + 2) 79 cs) : ∃ x : Bytes × Int, cs = keptR x ∧ (keptR x).length = 2 ∧ x.1.length ≤ reachBytes := by
 obtain ⟨hl, hf⟩ := r.strc Tryz.underlying79
 rw [rc_kept] at hl
 have f0 : Rd Tryz.prog h (n + 1) 9 ((cs.drop 0).take (Tryz.prog.cellsOf 9)) := hf _ (List.mem_of_getElem? (i := 0) rfl)
 rw [rc_str] at f0
 obtain ⟨x0, e0, l0⟩ := f0.str Tryz.underlying9
 have f1 : Rd Tryz.prog h (n + 1) 3 ((cs.drop 1).take (Tryz.prog.cellsOf 3)) := hf _ (List.mem_of_getElem? (i := 1) rfl)
 rw [qbO] at f1
 obtain ⟨x1, e1, _⟩ := f1.int Tryz.underlying3
 have e := (qaC e0 (qaC e1 (qbV hl)))
 rw [List.drop_zero] at e
 exact ⟨(x0, x1), e, rfl, l0⟩
theorem kepts_in (n : Nat) (h : Heap) (cs : List Value) (r : Rd Tryz.prog h (n + 3) 38 cs) : ∃ v l, cs = [v] ∧ RK h v l := by
 obtain ⟨v, L, h1, h2, h3, h4⟩ := r.rows (row := keptR) (Q := fun x => x.1.length ≤ reachBytes) Tryz.underlying38 rc_kept (by decide) (kept_in n h)
 rw [rb_kept] at h4
 unfold reachBytes at h4
 exact ⟨v, L, h1, h2, by omega⟩
theorem act_in (n : Nat) (h : Heap) (cs : List Value) (r : Rd Tryz.prog h (n + 6) 40 cs) : ∃ x : ActV × ActM, cs = actC x.1 x.2 ∧ (actC x.1 x.2).length = 33 ∧ ActR h x.1 x.2 := by
 obtain ⟨hl, hf⟩ := r.strc Tryz.underlying40
 rw [rc_act] at hl
 have f0 : Rd Tryz.prog h (n + 5) 25 ((cs.drop 0).take (Tryz.prog.cellsOf 25)) := hf _ (List.mem_of_getElem? (i := 0) rfl)
 rw [rc_atk] at f0
 obtain ⟨x0, e0, _⟩ := f0.int Tryz.underlying25
 have f1 : Rd Tryz.prog h (n + 5) 3 ((cs.drop 1).take (Tryz.prog.cellsOf 3)) := hf _ (List.mem_of_getElem? (i := 1) rfl)
 rw [qbO] at f1
 obtain ⟨x1, e1, _⟩ := f1.int Tryz.underlying3
 have f2 : Rd Tryz.prog h (n + 5) 3 ((cs.drop 2).take (Tryz.prog.cellsOf 3)) := hf _ (List.mem_of_getElem? (i := 2) rfl)
 rw [qbO] at f2
 obtain ⟨x2, e2, _⟩ := f2.int Tryz.underlying3
 have f3 : Rd Tryz.prog h (n + 5) 3 ((cs.drop 3).take (Tryz.prog.cellsOf 3)) := hf _ (List.mem_of_getElem? (i := 3) rfl)
 rw [qbO] at f3
 obtain ⟨x3, e3, _⟩ := f3.int Tryz.underlying3
 have f4 : Rd Tryz.prog h (n + 5) 3 ((cs.drop 4).take (Tryz.prog.cellsOf 3)) := hf _ (List.mem_of_getElem? (i := 4) rfl)
 rw [qbO] at f4
 obtain ⟨x4, e4, _⟩ := f4.int Tryz.underlying3
 have f5 : Rd Tryz.prog h (n + 5) 29 ((cs.drop 5).take (Tryz.prog.cellsOf 29)) := hf _ (List.mem_of_getElem? (i := 5) rfl)
 rw [rc_ask] at f5
 obtain ⟨q5, x5, e5, b5⟩ := ask_in _ h _ f5
 have f6 : Rd Tryz.prog h (n + 5) 37 ((cs.drop 12).take (Tryz.prog.cellsOf 37)) := hf _ (List.mem_of_getElem? (i := 6) rfl)
 rw [rc_cmd] at f6
 obtain ⟨q6, x6, e6, b6⟩ := cmd_in _ h _ f6
 have f7 : Rd Tryz.prog h (n + 5) 38 ((cs.drop 32).take (Tryz.prog.cellsOf 38)) := hf _ (List.mem_of_getElem? (i := 7) rfl)
 rw [rc_kepts] at f7
 obtain ⟨v7, x7, e7, b7⟩ := kepts_in _ h _ f7
 have e := (qaC e0 (qaC e1 (qaC e2 (qaC e3 (qaC e4 (qaC e5 (qaC e6 (qaC e7 (qbV hl)))))))))
 rw [List.drop_zero] at e
 exact ⟨(⟨q5, q6, v7⟩, ⟨x0, x1, x2, x3, x4, x5, x6, x7⟩), e, rfl, ⟨b5, b6, b7⟩⟩
theorem ints_in (n : Nat) (h : Heap) (cs : List Value) (r : Rd Tryz.prog h (n + 2) 77 cs) : ∃ x : Value × List Int, cs = [x.1] ∧ [x.1].length = 1 ∧ (RS h x.1 (iv64 x.2) ∧ x.2.length ≤ 140737488351232) := by
 obtain ⟨v, L, h1, h2, _, h4⟩ := r.rows (row := fun x : Int => [.int .i64 x]) (Q := fun _ => True) Tryz.underlying77 qbO (by decide) fun cs rc => by
  obtain ⟨a, h1, _⟩ := rc.int Tryz.underlying3
  exact ⟨a, h1, rfl, trivial⟩
 rw [rb_int] at h4
 unfold reachBytes at h4
 exact ⟨(v, L), h1, rfl, h2.rs1, by show L.length ≤ _; omega⟩
theorem grps_in (n : Nat) (h : Heap) (cs : List Value) (r : Rd Tryz.prog h (n + 3) 22 cs) : ∃ v l, cs = [v] ∧ RG h v l := by
 obtain ⟨v, L, h1, h2, h3, h4⟩ := r.rows (row := fun x : Value × List Int => [x.1]) (Q := fun x => RS h x.1 (iv64 x.2) ∧ x.2.length ≤ 140737488351232) Tryz.underlying22 rc_ints (by decide) (ints_in n h)
 rw [rb_ints] at h4
 unfold reachBytes at h4
 refine ⟨v, L.map (·.2), h1, ⟨_, h2.rs1, by simp, by rw [List.length_map]; omega, fun k w g hw hg => ?_⟩⟩
 rw [List.getElem?_map] at hw hg
 obtain ⟨x, hx, rfl⟩ := Option.map_eq_some_iff.1 hw
 rw [hx] at hg
 cases hg
 exact h3 x (List.mem_of_getElem? hx)
theorem set_in (n : Nat) (h : Heap) (cs : List Value) (r : Rd Tryz.prog h (n + 4) 24 cs) : ∃ (vg : Value) (x : SetM), cs = setC vg x ∧ RG h vg x.groups := by
 obtain ⟨hl, hf⟩ := r.strc Tryz.underlying24
 rw [rc_set] at hl
 have f0 : Rd Tryz.prog h (n + 3) 3 ((cs.drop 0).take (Tryz.prog.cellsOf 3)) := hf _ (List.mem_of_getElem? (i := 0) rfl)
 rw [qbO] at f0
 obtain ⟨x0, e0, _⟩ := f0.int Tryz.underlying3
 have f1 : Rd Tryz.prog h (n + 3) 22 ((cs.drop 1).take (Tryz.prog.cellsOf 22)) := hf _ (List.mem_of_getElem? (i := 1) rfl)
 rw [rc_grps] at f1
 obtain ⟨v1, x1, e1, b1⟩ := grps_in _ h _ f1
 have f2 : Rd Tryz.prog h (n + 3) 3 ((cs.drop 2).take (Tryz.prog.cellsOf 3)) := hf _ (List.mem_of_getElem? (i := 2) rfl)
 rw [qbO] at f2
 obtain ⟨x2, e2, _⟩ := f2.int Tryz.underlying3
 have f3 : Rd Tryz.prog h (n + 3) 3 ((cs.drop 3).take (Tryz.prog.cellsOf 3)) := hf _ (List.mem_of_getElem? (i := 3) rfl)
 rw [qbO] at f3
 obtain ⟨x3, e3, _⟩ := f3.int Tryz.underlying3
 have f4 : Rd Tryz.prog h (n + 3) 3 ((cs.drop 4).take (Tryz.prog.cellsOf 3)) := hf _ (List.mem_of_getElem? (i := 4) rfl)
 rw [qbO] at f4
 obtain ⟨x4, e4, _⟩ := f4.int Tryz.underlying3
 have e := (qaC e0 (qaC e1 (qaC e2 (qaC e3 (qaC e4 (qbV hl))))))
 rw [List.drop_zero] at e
 exact ⟨v1, ⟨x0, x1, x2, x3, x4⟩, e, b1⟩
theorem actv_in {h : Heap} {v : Value} (r : RdV Tryz.prog h 9 40 v) : ∃ (q : ActV) (a : ActM), v = .agg (actC q a).toArray ∧ ActR h q a := by
 obtain ⟨cs, rfl, h1⟩ := r.whole (by rw [Tryz.underlying40]; rfl)
 obtain ⟨x, h2, _, h3⟩ := act_in 3 h _ h1
 exact ⟨x.1, x.2, by rw [← h2], h3⟩
theorem setv_in {h : Heap} {v : Value} (r : RdV Tryz.prog h 9 24 v) : ∃ (vg : Value) (x : SetM), v = .agg (setC vg x).toArray ∧ RG h vg x.groups := by
 obtain ⟨cs, rfl, h1⟩ := r.whole (by rw [Tryz.underlying24]; rfl)
 obtain ⟨vg, x, h2, h3⟩ := set_in 5 h _ h1
 exact ⟨vg, x, by rw [← h2], h3⟩
end Go.Proofs.YtigmojilaadbhaaGreatDoor

/-
 The engine: a law over variables that are laid, told how many variables there are.
-/
namespace Go.Eng
open Go

section
variable {P : Program} {W : World} {H : Type} {enc : TypeId × Value → H}
theorem qcL {f : FuncId} {n : Nat} {ts : List TypeId} {args : Array Value} {ds : List (DataW H)} {ps : List MemPlace} {r : Reach} {base : Nat} {held : Bool} (T : List (Nat × Blk)) (hT : (T.map (·.1)).Nodup)
  (ht : ∀ x ∈ T, Told P W x.1 x.2) (h0 : DataW.TrodAll enc P W 0 (fun _ => true) held ts args.toList ds ps)
  (hp : ∀ t ∈ ts, plainT P (n + 1) t = true) (hk : ∀ (j : Nat) t v, ts[j]? = some t → args.toList[j]? = some v → Value.okWide P W r base t v) (hs : (DataW.weightsEach P ts ds).all (· ≤ reachBytes) = true)
  (p : ∀ h avs, P.globals.size ≤ h.next → avs.length = ts.length → (∀ (j : Nat) t a, ts[j]? = some t → avs[j]? = some a → RdV P h (n + 1) t a) → (∀ x ∈ T, h.get x.1 = some x.2) → ACalls P f avs h fun v _ => v = .bool true) :
  Calls P f args W fun e W' => e = .returned (.bool true) ∧ Go.RowKit.Below W.heap.size W W' := by
 obtain ⟨bs, avs, r1, v1, d1⟩ := qeD (G := P.globals.size) (n := n) (fun _ => rfl) ts args.toList ds ps h0 hp hk hs []
 rw [List.nil_append] at r1 v1 d1
 have hlen : args.toList.length = ts.length := qdB h0
 obtain ⟨h', q1, q2, q3, q4, q5⟩ := tells T (roSim r1) qgz (fun x hx => by
  have a := ht x hx
  exact ⟨a, by simp only [roHeap]; rw [if_pos a.isg]⟩) hT
 have hn : P.globals.size ≤ h'.next := by
  rw [q3]
  show P.globals.size ≤ P.globals.size + bs.length
  omega
 have := law_free (args := avs) (cargs := args.toList) q1 q2 (q3 ▸ v1) (p _ avs hn (by rw [v1.length, hlen]) (fun j t a hj hja => (d1 j t a hj hja).ext q4) q5)
 simpa using this
end
end Go.Eng

/-
 Scripts: the variables that are laid, told «to» the engine.
-/
namespace Go.Proofs.YtigmojilaadbhaaGreatDoor
open Go Go.Eng Go.Lib

noncomputable abbrev laidL : List (String × DataW Unit) := Rows.scriptUnlinesRow.laid
def tabsT : List (Nat × Blk) := [(powG, tabB .u64 Lib.pow10Tab), (spaceG, tabB .u8 Lib.asciiSpaceTab), (synG, errB 262), (rngG, errB 262)]
theorem qgh : (tabsT.map (·.1)).Nodup := by decide
theorem star : "*" ++ "errors.errorString" = "*errors.errorString" := by decide
theorem star_row (u : TypeId) (h : Tryz.prog.typeName? 3 u = some "*errors.errorString") : u = 262 :=
 typeName_ptr_named (nm := "errors.errorString") (by rw [star]; kernel_rfl) (by kernel_rfl) (by decide) u (by rw [star]; exact h)
theorem laid_plain {W : World} (h : laidMetH Tryz.prog laidL W) : laidMet Tryz.prog laidL W := by
 rwa [MakeChecks.laidMetH_plain _ _ _ (by kernel_rfl)] at h
theorem qdE {W : World} {name : String} {g : Nat} {k : IntKind} {zs : List Int} (hn : Tryz.prog.globalNamed name = some g) (hg : g < Tryz.prog.globals.size) (h : TabIs Tryz.prog W name k zs) : Go.Eng.Told Tryz.prog W g (tabB k zs) := by
 unfold TabIs World.var? at h
 rw [hn] at h
 simp only [Option.bind_some] at h
 cases hw : W.heap[g]? with
 | none => rw [hw] at h; cases h
 | some o =>
  rw [hw] at h
  cases o <;> try (cases h; done)
  rename_i cs t fr
  cases h
  exact told_tab (t := t) (fr := fr) hg hw
theorem qd1 {W : World} {name : String} {g : Nat} {d : DataW Unit} {rest : List (String × DataW Unit)} (hn : Tryz.prog.globalNamed name = some g) (hg : g < Tryz.prog.globals.size) (hty : (Tryz.prog.globals[g]?).map (·.type) = some 131)
  (h : laidMet Tryz.prog ((name, .iface "*errors.errorString" d) :: rest) W) : Go.Eng.Told Tryz.prog W g (errB 262) := by
 obtain ⟨ps, ⟨g', t', cs, fuel, p, q, hg', ht', hvar, hd, _, _⟩, _⟩ := h
 obtain rfl := Option.some.inj (hn.symm.trans hg')
 obtain rfl := Option.some.inj (hty.symm.trans ht')
 obtain ⟨_, u, v, hcs, hu, _⟩ := iface_of_trod Tryz.underlying131 hd
 obtain rfl := star_row u hu
 refine told_err (v := v) hg ?_
 have := World.var?_cell hn hvar 0
 rw [Array.eq_one_of_toList hcs] at this
 simpa using this
theorem told_tabs {W : World} (h : laidMetH Tryz.prog laidL W) : ∀ x ∈ tabsT, Go.Eng.Told Tryz.prog W x.1 x.2 := by
 have hp := laid_plain h
 have h1 := hp.filter fun x => x.1 == "internal/strconv.uint64pow10"
 have h2 := hp.filter fun x => x.1 == "strings.asciiSpace"
 have h3 := hp.filter fun x => x.1 == "strconv.ErrSyntax"
 have h4 := hp.filter fun x => x.1 == "strconv.ErrRange"
 rw [show laidL.filter (fun x => x.1 == "internal/strconv.uint64pow10") = [("internal/strconv.uint64pow10", Lib.tabData .u64 Lib.pow10Tab)] by kernel_rfl] at h1
 rw [show laidL.filter (fun x => x.1 == "strings.asciiSpace") = [("strings.asciiSpace", Lib.tabData .u8 Lib.asciiSpaceTab)] by kernel_rfl] at h2
 rw [show laidL.filter (fun x => x.1 == "strconv.ErrSyntax") = [("strconv.ErrSyntax", Rows.laid_strconv_ErrSyntax)] by kernel_rfl] at h3
 rw [show laidL.filter (fun x => x.1 == "strconv.ErrRange") = [("strconv.ErrRange", Rows.laid_strconv_ErrRange)] by kernel_rfl] at h4
 intro x hx
 simp only [tabsT, List.mem_cons, List.not_mem_nil, or_false] at hx
 rcases hx with rfl | rfl | rfl | rfl
 ·
  exact qdE pow_n (by decide +kernel) (tabIs_of_head pow_n (t := 252) (e := 221) (n := 20) (by kernel_rfl) Tryz.underlying252 Tryz.underlying221 (by kernel_rfl) (by kernel_rfl) h1)
 ·
  exact qdE qgv (by decide +kernel) (tabIs_of_head qgv (t := 184) (e := 5) (n := 256) (by kernel_rfl) Tryz.underlying184 Tryz.underlying5 (by kernel_rfl) (by kernel_rfl) h2)
 ·
  exact qd1 (name := "strconv.ErrSyntax") (by kernel_rfl) (by decide +kernel) (by kernel_rfl) h3
 ·
  exact qd1 (name := "strconv.ErrRange") (by kernel_rfl) (by decide +kernel) (by kernel_rfl) h4
theorem tabs_of {h : Heap} (ht : ∀ x ∈ tabsT, h.get x.1 = some x.2) : Tabs h :=
 ⟨ht (powG, tabB .u64 Lib.pow10Tab) (by simp [tabsT]), ht (spaceG, tabB .u8 Lib.asciiSpaceTab) (by simp [tabsT]), ht (synG, errB 262) (by simp [tabsT]), ht (rngG, errB 262) (by simp [tabsT])⟩
theorem door_met (os : Os) (args : Array Value) : laidMetH Tryz.prog laidL ((World.doorLaid Tryz.prog 86 os).forCall (fun _ _ => 0) ⟨#[], args, []⟩).memory :=
 laidMetH_of_parts3 (fuel := 8) (laidMet_of_run' 8 (by kernel_rfl) (by kernel_rfl)) (by kernel_rfl) (by kernel_rfl)
end Go.Proofs.YtigmojilaadbhaaGreatDoor

/-
 Scripts: the door's own heap may be a world.
-/
namespace Go.Proofs.YtigmojilaadbhaaGreatDoor
open Go Go.Eng Go.Lib

theorem qgm (os : Os) (args : Array Value) : ((World.doorLaid Tryz.prog 86 os).forCall (fun _ _ => 0) ⟨#[], args, []⟩).Shaped Tryz.prog := World.shaped_of_RefB (by kernel_rfl) (by kernel_rfl)
end Go.Proofs.YtigmojilaadbhaaGreatDoor
