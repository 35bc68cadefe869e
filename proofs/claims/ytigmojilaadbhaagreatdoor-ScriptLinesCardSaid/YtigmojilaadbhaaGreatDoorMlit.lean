/-
  Texts of one claim, merged: 7 parts.
-/
import Derived.Test.YtigmojilaadbhaaGreatDoorMlis
import Derived.Test.YtigmojilaadbhaaGreatDoorMlip
import Derived.Test.YtigmojilaadbhaaGreatDoorMlir
import Derived.Test.YtigmojilaadbhaaGreatDoorMliq
import Derived.Test.YtigmojilaadbhaaGreatDoorMlid
import Derived.Test.YtigmojilaadbhaaGreatDoorMlie
/-
 Scripts: the document's own: an act that has of another one what its kind names, and may it be.
-/
namespace Go.Proofs.YtigmojilaadbhaaGreatDoor
open Go Go.Eng Go.Pln Go.Lib
attribute [local irreducible] AWp AL DAL AOp TAL

set_option maxHeartbeats 16000000 in
theorem rabare_c (p : ActV) (a : ActM) (nodes groups : Int) (h : Heap) (r : ActR h p a) : ACalls Tryz.prog 91 [.agg (actC p a).toArray, .int .i64 nodes, .int .i64 groups] h fun u h' => ∃ q, u = .tuple #[.agg (actC q (namedA a)).toArray, .bool (rokA nodes groups a)] ∧ ActR h' q (namedA a) ∧ Ext h h' := by
 refine ACalls.wf fun wf => ?_
 refine ACalls.body Tryz.func91 rfl rfl ?_
 repeat (first | refine AWp.seq ?_ | refine AWp.r9 ?_ | refine AL.set rfl rfl (qaL rfl (by intro e; cases e) ?_))
 generalize hH : h.alloc _ = H1
 have hg1 : H1.get h.next = some ⟨actC p a, 40, true⟩ := hH ▸ Heap.alloc_new _ _
 have hx1 : Ext h H1 := hH ▸ wf.ext _
 have wf1 : WF H1 := hH ▸ wf.alloc _
 have n1 : h.next < H1.next := wf1.lt hg1
 clear hH
 repeat (first | refine AL.nil ?_ | refine AWp.seq ?_ | refine AWp.r9 ?_ | refine AL.set rfl rfl (qaa rfl ?_) | refine AL.set rfl rfl (qas ?_))
 generalize hH : H1.alloc _ = H2
 have g2 : H2.get H1.next = some ⟨actC actV0 act0, 40, true⟩ := hH ▸ Heap.alloc_new _ _
 have hx2 : Ext H1 H2 := hH ▸ wf1.ext _
 have wf2 : WF H2 := hH ▸ wf1.alloc _
 have n2 : H1.next < H2.next := wf2.lt g2
 have hg2 := hx2.c _ _ hg1
 clear hH
 repeat (first | refine AL.nil ?_ | refine AWp.seq ?_ | refine AL.set rfl rfl (qao rfl ?_) | refine AL.set rfl rfl (qad rfl rfl hg2 rfl ?_) | refine AL.set rfl rfl (qaw (out := actC actV0 { act0 with kind := a.kind }) rfl rfl ?_) | refine AL.set rfl rfl (qas ?_) | refine AL.eff rfl (qaF (vs := actC actV0 { act0 with kind := a.kind }) rfl rfl rfl rfl rfl ?_))
 have gl := Heap.alloc_new H2
 have hgx : ∀ b, (H2.alloc b).get h.next = some ⟨actC p a, 40, true⟩ := fun b => (wf2.ext b).c _ _ hg2
 have gj : ∀ b, (H2.alloc b).get H1.next = some ⟨actC actV0 act0, 40, true⟩ := fun b => (wf2.ext b).c _ _ g2
 have xl : ∀ b, Ext h (H2.alloc b) := fun b => hx1.trans (hx2.trans (wf2.ext b))
 have xf : ∀ b b', Ext h ((H2.alloc b).set H1.next b') := fun b b' => wf.ext_set (xl b) (Nat.le_of_lt n1) _
 have hz : ∀ h', ActR h' actV0 act0 := fun h' => ActR.nil h'
 clear hg1 hg2 g2 hx1 hx2 wf1
 refine AWp.cutI (α := Unit) (fun _ => [(3, ptr h.next), (6, ptr H1.next), (8, ptr H2.next), (9, .bool (nodeB nodes a)), (10, .bool (groupB groups a))]) (fun _ => H2.alloc ⟨actC actV0 { act0 with kind := a.kind }, 40, true⟩) (fun _ => True) ?_ fun _ _ => ?_
 ·
  refine AWp.drawR mixed (by kernel_rfl) ?_
  repeat' (first | refine DAL.skip rfl rfl rfl ?_ | refine DAL.nil ?_ | refine DAL.r rfl rfl rfl (fun h' hx hn => qac rfl ⟨rfl, rfl⟩) ?_ | refine DAL.r rfl rfl rfl (fun h' hx hn => qag rfl ⟨rfl, rfl⟩) ?_ | refine DAL.r rfl rfl rfl (fun h' hx hn => qaa rfl ⟨rfl, rfl⟩) ?_ | refine DAL.r rfl rfl rfl (fun h' hx hn => qao rfl ⟨rfl, rfl⟩) ?_ | refine DAL.r rfl rfl rfl (fun h' hx hn => qad rfl rfl (hx.c _ _ (hgx _)) rfl ⟨rfl, rfl⟩) ?_ | refine DAL.r rfl rfl rfl (fun h' hx hn => qai (v := .bool _) rfl rfl ⟨rfl, rfl⟩) ?_ | refine DAL.rP rfl rfl rfl (fun h' hx hn => qa6 rfl rfl rfl ⟨rfl, rfl⟩) (fun c => ?_) (fun c => ?_))
  all_goals refine ⟨(), trivial, Weak.same (EW.cons rfl (EW.cons rfl (EW.cons rfl (EW.cons (congrArg Value.bool ?_) (EW.cons (congrArg Value.bool ?_) EW.nil)))))⟩
  all_goals clear hz xf xl gj hgx gl n2 wf2 n1 wf r
  all_goals grind [nodeB, groupB]
 refine AWp.seqI (α := Unit) (fun _ => [(3, ptr h.next), (6, ptr H1.next), (8, ptr H2.next), (9, .bool (nodeB nodes a)), (10, .bool (groupB groups a)), (11, .bool (clientB a))]) (fun _ => H2.alloc ⟨actC actV0 { act0 with kind := a.kind }, 40, true⟩) (fun _ => True) ?_ fun _ _ => ?_
 ·
  repeat' (first | refine AL.nil ?_ | refine AL.skip rfl rfl ?_ | refine AWp.r9 ?_ | refine AL.set rfl rfl (qag rfl ?_) | refine AL.set rfl rfl (qaa rfl ?_) | refine AL.set rfl rfl (qao rfl ?_) | refine AL.set rfl rfl (qad rfl rfl (hgx _) rfl ?_) | refine AL.set rfl rfl (qai (v := .bool _) rfl rfl ?_) | refine AL.set rfl rfl (qaM rfl rfl rfl (fun c => ?_) (fun c => ?_)))
  all_goals refine ⟨(), trivial, Weak.same (EW.cons rfl (EW.cons rfl (EW.cons rfl (EW.cons rfl (EW.cons rfl (EW.cons (congrArg Value.bool ?_) EW.nil))))))⟩
  all_goals clear hz xf xl gj hgx gl n2 wf2 n1 wf r
  all_goals grind [clientB]
 by_cases k1 : a.kind = 1 ∨ a.kind = 2 ∨ a.kind = 6 ∨ a.kind = 7
 ·
  have hn : namedA a = { act0 with kind := a.kind, node := a.node, group := a.group } := by unfold namedA; grind
  have ho : rokA nodes groups a = (nodeB nodes a && groupB groups a) := by unfold rokA; rw [if_pos k1]
  have hq : ∀ h', Ext h h' → ActR h' actV0 { act0 with kind := a.kind, node := a.node, group := a.group } := fun h' x => ⟨(hz h').ra, (hz h').rc, (hz h').rk⟩
  rw [ho]
  rcases k1 with k | k | k | k <;>
  ·
   repeat (first | refine AL.nil ?_ | refine AWp.seq ?_ | refine AWp.r9 ?_ | refine AWp.c8 rfl ?_ | refine AWp.c9 rfl ?_ | refine AWp.b9 ?_ | refine AWp.k9 ?_ | refine AL.set rfl rfl (qaa rfl ?_) | refine AL.set rfl rfl (qao rfl ?_) | refine AL.set rfl rfl (qad rfl rfl (hgx _) rfl ?_) | refine AL.set rfl rfl (qaj rfl rfl rfl (by omega) ?_) | refine AL.set rfl rfl (qak rfl rfl rfl (by omega) ?_))
   refine AWp.treeJ (fun H => H.get h.next = some ⟨actC p a, 40, true⟩) (fun _ _ a b => b.c _ _ a) (t := OT.seq [(0, .P), (1, .S), (2, .P), (3, .S), (4, .P), (5, .W), (6, .P), (7, .W)] .nil) mixed (by kernel_rfl) (hgx _) ?_
   repeat (first | refine TAL.p rfl rfl rfl (fun h' hn => qao rfl ⟨rfl, rfl⟩) ?_ | refine TAL.s rfl rfl rfl (fun h' hn hx => qad rfl rfl hx rfl ⟨rfl, rfl⟩) ?_)
   refine TAL.wj0 rfl rfl (qaB (v := .int .i64 a.node) rfl rfl rfl rfl ⟨hgx _, ?_⟩)
   repeat (first | refine TAL.p rfl rfl rfl (fun h' hn => qao rfl ⟨rfl, rfl⟩) ?_)
   refine TAL.wj0 rfl rfl (qaB (v := .int .i64 a.group) rfl rfl rfl rfl ⟨hgx _, ?_⟩)
   refine TAL.nil ?_
   cases nodeB nodes a <;> cases groupB groups a <;>
   ·
    repeat (first | refine AL.nil ?_ | refine AL.skip rfl rfl ?_ | refine AWp.seq ?_ | refine AWp.r9 ?_ | refine AWp.ret ?_ | refine AL.set rfl rfl (qag rfl ?_) | refine AL.set rfl rfl (qaa rfl ?_) | refine AL.set rfl rfl (qah (sz := 33) rfl rfl (gl _) (Nat.le_refl _) ?_) | refine AL.set rfl rfl (qai (v := .bool _) rfl rfl ?_) | refine AL.eff rfl (qap (vs := actC actV0 (namedA a)) rfl (by rw [hn]; rfl) rfl (by rw [hn]; exact qaC (hq h (Ext.refl h))) (gj _) rfl ?_))
    exact ⟨_, ResV.cell2 rfl rfl rfl (Heap.set_at _ _ _) (Nat.le_refl _), actV0, rfl, by rw [hn]; exact hq _ (xf _ _), xf _ _⟩
 by_cases k2 : a.kind = 3 ∨ a.kind = 4 ∨ a.kind = 5
 ·
  have hn : namedA a = { act0 with kind := a.kind, n := a.n } := by unfold namedA; grind
  have ho : rokA nodes groups a = decide (0 ≤ a.n ∧ a.n ≤ 2147483647) := by unfold rokA; rw [if_neg k1, if_pos k2]
  have hq : ∀ h', Ext h h' → ActR h' actV0 { act0 with kind := a.kind, n := a.n } := fun h' x => ⟨(hz h').ra, (hz h').rc, (hz h').rk⟩
  rw [ho]
  rcases k2 with k | k | k <;>
  ·
   repeat (first | refine AL.nil ?_ | refine AWp.seq ?_ | refine AWp.r9 ?_ | refine AWp.c8 rfl ?_ | refine AWp.c9 rfl ?_ | refine AWp.b9 ?_ | refine AWp.k9 ?_ | refine AL.set rfl rfl (qaa rfl ?_) | refine AL.set rfl rfl (qao rfl ?_) | refine AL.set rfl rfl (qad rfl rfl (hgx _) rfl ?_) | refine AL.set rfl rfl (qaj rfl rfl rfl (by omega) ?_) | refine AL.set rfl rfl (qak rfl rfl rfl (by omega) ?_) | refine AL.eff rfl (qaB (v := .int .i64 a.n) rfl rfl rfl rfl ?_))
   refine AWp.treeJ (fun H => H.get h.next = some ⟨actC p a, 40, true⟩) (fun _ _ a b => b.c _ _ a) (t := OT.seq [(0, .R), (1, .R), (2, .R), (3, .R), (4, .R), (5, .P), (6, .S), (7, .P), (8, .P), (9, .W), (10, .R)] .nil) mixed (by kernel_rfl) (hgx _) ?_
   repeat' (first | refine TAL.skip rfl rfl rfl ?_ | refine TAL.r rfl rfl rfl (fun h' hx hn => qag rfl ⟨rfl, rfl⟩) ?_ | refine TAL.r rfl rfl rfl (fun h' hx hn => qao rfl ⟨rfl, rfl⟩) ?_ | refine TAL.r rfl rfl rfl (fun h' hx hn => qad rfl rfl (hx.c _ _ (hgx _)) rfl ⟨rfl, rfl⟩) ?_ | refine TAL.r rfl rfl rfl (fun h' hx hn => qah (sz := 33) rfl rfl (hx.c _ _ (gl _)) (Nat.le_refl _) ⟨rfl, rfl⟩) ?_ | refine TAL.p rfl rfl rfl (fun h' hn => qao rfl ⟨rfl, rfl⟩) ?_ | refine TAL.p rfl rfl rfl (fun h' hn => qai (v := .bool _) rfl rfl ⟨rfl, rfl⟩) ?_ | refine TAL.s rfl rfl rfl (fun h' hn hx => qad rfl rfl hx rfl ⟨rfl, rfl⟩) ?_ | refine TAL.rP rfl rfl rfl (fun h' hx hn => qa6 rfl rfl rfl ⟨rfl, rfl⟩) (fun c => ?_) (fun c => ?_) | refine TAL.pP rfl rfl rfl (fun h' hn => qa6 rfl rfl rfl ⟨rfl, rfl⟩) (fun c => ?_) (fun c => ?_))
   all_goals refine TAL.wj0 rfl rfl (qap (vs := actC actV0 (namedA a)) rfl (by rw [hn]; rfl) rfl (by rw [hn]; exact qaC (hq h (Ext.refl h))) (gj _) rfl ⟨(Heap.set_other (Nat.ne_of_lt n1)).trans (hgx _), ?_⟩)
   repeat' (first | refine TAL.nil ?_ | refine TAL.r rfl rfl rfl (fun h' hx hn => qaa rfl ⟨rfl, rfl⟩) ?_)
   repeat' (first | refine AWp.ret ?_)
   all_goals refine ⟨_, ResV.cell2 rfl rfl rfl (Heap.set_at _ _ _) (Nat.le_refl _), actV0, congrArg (fun b => Value.tuple #[.agg (actC actV0 (namedA a)).toArray, .bool b]) ?_, by rw [hn]; exact hq _ (xf _ _), xf _ _⟩
   all_goals clear hz xf xl gj hgx gl n2 wf2 n1 wf r hq hn ho
   all_goals grind
 by_cases k3 : a.kind = 8 ∨ a.kind = 13
 ·
  have hn : namedA a = { act0 with kind := a.kind, node := a.node } := by unfold namedA; grind
  have ho : rokA nodes groups a = nodeB nodes a := by unfold rokA; rw [if_neg k1, if_neg k2, if_pos k3]
  have hq : ∀ h', Ext h h' → ActR h' actV0 { act0 with kind := a.kind, node := a.node } := fun h' x => ⟨(hz h').ra, (hz h').rc, (hz h').rk⟩
  rw [ho]
  rcases k3 with k | k <;>
  ·
   repeat (first | refine AL.nil ?_ | refine AWp.seq ?_ | refine AWp.r9 ?_ | refine AWp.c8 rfl ?_ | refine AWp.c9 rfl ?_ | refine AWp.ret ?_ | refine AWp.b9 ?_ | refine AWp.k9 ?_ | refine AL.set rfl rfl (qag rfl ?_) | refine AL.set rfl rfl (qaa rfl ?_) | refine AL.set rfl rfl (qao rfl ?_) | refine AL.set rfl rfl (qad rfl rfl (hgx _) rfl ?_) | refine AL.set rfl rfl (qah (sz := 33) rfl rfl (gl _) (Nat.le_refl _) ?_) | refine AL.set rfl rfl (qaj rfl rfl rfl (by omega) ?_) | refine AL.set rfl rfl (qak rfl rfl rfl (by omega) ?_) | refine AL.eff rfl (qaB (v := .int .i64 a.node) rfl rfl rfl rfl ?_) | refine AL.eff rfl (qap (vs := actC actV0 (namedA a)) rfl (by rw [hn]; rfl) rfl (by rw [hn]; exact qaC (hq h (Ext.refl h))) (gj _) rfl ?_))
   exact ⟨_, ResV.cell2 rfl rfl rfl (Heap.set_at _ _ _) (Nat.le_refl _), actV0, rfl, by rw [hn]; exact hq _ (xf _ _), xf _ _⟩
 by_cases k4 : a.kind = 9
 ·
  have hn : namedA a = { act0 with kind := a.kind, node := a.node, cmd := a.cmd } := by unfold namedA; grind
  have ho : rokA nodes groups a = (nodeB nodes a && mayC a.cmd && decide (a.cmd.kind = 6 ∨ a.cmd.kind = 7 ∨ a.cmd.kind = 8)) := by unfold rokA; rw [if_neg k1, if_neg k2, if_neg k3, if_pos k4]
  have hq : ∀ h', Ext h h' → ActR h' { actV0 with c := p.c } { act0 with kind := a.kind, node := a.node, cmd := a.cmd } := fun h' x => ⟨(hz h').ra, (r.ext x).rc, (hz h').rk⟩
  rw [ho]
  repeat (first | refine AL.nil ?_ | refine AWp.seq ?_ | refine AWp.r9 ?_ | refine AWp.c8 rfl ?_ | refine AWp.c9 rfl ?_ | refine AWp.b9 ?_ | refine AL.set rfl rfl (qaa rfl ?_) | refine AL.set rfl rfl (qao rfl ?_) | refine AL.set rfl rfl (qad rfl rfl (hgx _) rfl ?_) | refine AL.set rfl rfl (qaj rfl rfl rfl (by omega) ?_) | refine AL.set rfl rfl (qak rfl rfl rfl (by omega) ?_))
  refine AWp.treeJ (fun H => H.get h.next = some ⟨actC p a, 40, true⟩) (fun _ _ a b => b.c _ _ a) (t := OT.seq [(0, .P), (1, .S), (2, .P), (3, .S), (4, .P), (5, .W), (6, .P), (7, .W)] .nil) mixed (by kernel_rfl) (hgx _) ?_
  repeat (first | refine TAL.p rfl rfl rfl (fun h' hn => qao rfl ⟨rfl, rfl⟩) ?_ | refine TAL.s rfl rfl rfl (fun h' hn hx => qad rfl rfl hx rfl ⟨rfl, rfl⟩) ?_ | refine TAL.s rfl rfl rfl (fun h' hn hx => qah (sz := 20) rfl rfl hx (Nat.le_of_ble_eq_true rfl) ⟨rfl, rfl⟩) ?_)
  refine TAL.wj0 rfl rfl (qaB (v := .int .i64 a.node) rfl rfl rfl rfl ⟨hgx _, ?_⟩)
  repeat (first | refine TAL.p rfl rfl rfl (fun h' hn => qao rfl ⟨rfl, rfl⟩) ?_)
  refine TAL.wj0 rfl rfl (qbl (vs := cmdC p.c a.cmd) rfl rfl rfl (qbd r.rc) rfl ⟨hgx _, ?_⟩)
  refine TAL.nil ?_
  repeat (first | refine AL.nil ?_ | refine AWp.seq ?_ | refine AWp.r9 ?_ | refine AL.set rfl rfl (qae rfl ?_) | refine AL.set rfl rfl (qao rfl ?_) | refine AL.set rfl rfl (qad rfl rfl (hgx _) rfl ?_))
  cases nodeB nodes a <;>
  ·
   refine AWp.treeJ (fun H => H.get h.next = some ⟨actC p a, 40, true⟩) (fun _ _ a b => b.c _ _ a) (t := OT.seq [(0, .R), (1, .R), (2, .R), (3, .R), (4, .R), (5, .R), (6, .R), (7, .R), (8, .R), (9, .R), (10, .R), (11, .R), (12, .R), (13, .R), (14, .R), (15, .P), (16, .P), (17, .P), (18, .P), (19, .W), (20, .R)] .nil) mixed (by kernel_rfl) (hgx _) ?_
   repeat' (first | refine TAL.skip rfl rfl rfl ?_ | refine TAL.r rfl rfl rfl (fun h' hx hn => qac rfl ⟨rfl, rfl⟩) ?_ | refine TAL.r rfl rfl rfl (fun h' hx hn => qag rfl ⟨rfl, rfl⟩) ?_ | refine TAL.p rfl rfl rfl (fun h' hn => qac rfl ⟨rfl, rfl⟩) ?_ | refine TAL.rB rfl rfl rfl (fun h' hx hn => qab rfl rfl (rcmay_c p.c a.cmd h' (r.rc.ext ((xl _).trans hx))) ⟨rfl, rfl⟩) (fun c => ?_) (fun c => ?_) | refine TAL.r rfl rfl rfl (fun h' hx hn => qao rfl ⟨rfl, rfl⟩) ?_ | refine TAL.r rfl rfl rfl (fun h' hx hn => qah (sz := 33) rfl rfl (hx.c _ _ (gl _)) (Nat.le_refl _) ⟨rfl, rfl⟩) ?_ | refine TAL.r rfl rfl rfl (fun h' hx hn => qah (sz := 20) rfl rfl (hx.c _ _ (hgx _)) (Nat.le_of_ble_eq_true rfl) ⟨rfl, rfl⟩) ?_ | refine TAL.r rfl rfl rfl (fun h' hx hn => qai (v := .bool _) rfl rfl ⟨rfl, rfl⟩) ?_ | refine TAL.p rfl rfl rfl (fun h' hn => qai (v := .bool _) rfl rfl ⟨rfl, rfl⟩) ?_ | refine TAL.rP rfl rfl rfl (fun h' hx hn => qa6 rfl rfl rfl ⟨rfl, rfl⟩) (fun c => ?_) (fun c => ?_) | refine TAL.pP rfl rfl rfl (fun h' hn => qa6 rfl rfl rfl ⟨rfl, rfl⟩) (fun c => ?_) (fun c => ?_))
   all_goals refine TAL.wj0 rfl rfl (qap (vs := actC { actV0 with c := p.c } (namedA a)) rfl (by rw [hn]; rfl) rfl (by rw [hn]; exact qaC (hq h (Ext.refl h))) (gj _) rfl ⟨(Heap.set_other (Nat.ne_of_lt n1)).trans (hgx _), ?_⟩)
   repeat' (first | refine TAL.nil ?_ | refine TAL.r rfl rfl rfl (fun h' hx hn => qaa rfl ⟨rfl, rfl⟩) ?_)
   repeat' (first | refine AWp.ret ?_)
   all_goals refine ⟨_, ResV.cell2 rfl rfl rfl (Heap.set_at _ _ _) (Nat.le_refl _), { actV0 with c := p.c }, congrArg (fun b => Value.tuple #[.agg (actC { actV0 with c := p.c } (namedA a)).toArray, .bool b]) ?_, by rw [hn]; exact hq _ (xf _ _), xf _ _⟩
   all_goals clear hz xf xl gj hgx gl n2 wf2 n1 wf r hq hn ho
   all_goals grind
 by_cases k5 : a.kind = 10
 ·
  have hn : namedA a = { act0 with kind := a.kind, node := a.node, group := a.group, client := a.client, ask := a.ask } := by unfold namedA; grind
  have ho : rokA nodes groups a = (clientB a && nodeB nodes a && groupB groups a && mayAsk a.ask) := by unfold rokA; rw [if_neg k1, if_neg k2, if_neg k3, if_neg k4, if_pos k5]
  have hq : ∀ h', Ext h h' → ActR h' { actV0 with q := p.q } { act0 with kind := a.kind, node := a.node, group := a.group, client := a.client, ask := a.ask } := fun h' x => ⟨(r.ext x).ra, (hz h').rc, (hz h').rk⟩
  rw [ho]
  repeat (first | refine AL.nil ?_ | refine AWp.seq ?_ | refine AWp.r9 ?_ | refine AWp.c8 rfl ?_ | refine AWp.c9 rfl ?_ | refine AWp.b9 ?_ | refine AL.set rfl rfl (qaa rfl ?_) | refine AL.set rfl rfl (qao rfl ?_) | refine AL.set rfl rfl (qad rfl rfl (hgx _) rfl ?_) | refine AL.set rfl rfl (qaj rfl rfl rfl (by omega) ?_) | refine AL.set rfl rfl (qak rfl rfl rfl (by omega) ?_))
  refine AWp.treeJ (fun H => H.get h.next = some ⟨actC p a, 40, true⟩) (fun _ _ a b => b.c _ _ a) (t := OT.seq [(0, .P), (1, .S), (2, .P), (3, .S), (4, .P), (5, .S), (6, .P), (7, .S), (8, .P), (9, .W), (10, .P), (11, .W), (12, .P), (13, .W), (14, .P), (15, .W)] .nil) mixed (by kernel_rfl) (hgx _) ?_
  repeat (first | refine TAL.p rfl rfl rfl (fun h' hn => qao rfl ⟨rfl, rfl⟩) ?_ | refine TAL.s rfl rfl rfl (fun h' hn hx => qad rfl rfl hx rfl ⟨rfl, rfl⟩) ?_ | refine TAL.s rfl rfl rfl (fun h' hn hx => qah (sz := 7) rfl rfl hx (Nat.le_of_ble_eq_true rfl) ⟨rfl, rfl⟩) ?_)
  refine TAL.wj0 rfl rfl (qaB (v := .int .i64 a.client) rfl rfl rfl rfl ⟨hgx _, ?_⟩)
  repeat (first | refine TAL.p rfl rfl rfl (fun h' hn => qao rfl ⟨rfl, rfl⟩) ?_)
  refine TAL.wj0 rfl rfl (qaB (v := .int .i64 a.node) rfl rfl rfl rfl ⟨hgx _, ?_⟩)
  repeat (first | refine TAL.p rfl rfl rfl (fun h' hn => qao rfl ⟨rfl, rfl⟩) ?_)
  refine TAL.wj0 rfl rfl (qaB (v := .int .i64 a.group) rfl rfl rfl rfl ⟨hgx _, ?_⟩)
  repeat (first | refine TAL.p rfl rfl rfl (fun h' hn => qao rfl ⟨rfl, rfl⟩) ?_)
  refine TAL.wj0 rfl rfl (qbl (vs := askC p.q a.ask) rfl rfl rfl (qbK r.ra) rfl ⟨hgx _, ?_⟩)
  refine TAL.nil ?_
  cases clientB a <;> cases nodeB nodes a <;> cases groupB groups a <;>
  ·
   repeat (first | refine AWp.seq ?_)
   refine AWp.treeJ (fun H => H.get h.next = some ⟨actC p a, 40, true⟩) (fun _ _ a b => b.c _ _ a) (t := OT.seq [(0, .R), (1, .R), (2, .R), (3, .R), (4, .R), (5, .R), (6, .R), (7, .R), (8, .R), (9, .R), (10, .R), (11, .R), (12, .P), (13, .W), (14, .R)] .nil) mixed (by kernel_rfl) (hgx _) ?_
   repeat' (first | refine TAL.skip rfl rfl rfl ?_ | refine TAL.r rfl rfl rfl (fun h' hx hn => qag rfl ⟨rfl, rfl⟩) ?_ | refine TAL.rB rfl rfl rfl (fun h' hx hn => qab rfl rfl (qgg p.q a.ask h' (r.ra.ext ((xl _).trans hx))) ⟨rfl, rfl⟩) (fun c => ?_) (fun c => ?_) | refine TAL.r rfl rfl rfl (fun h' hx hn => qao rfl ⟨rfl, rfl⟩) ?_ | refine TAL.r rfl rfl rfl (fun h' hx hn => qah (sz := 33) rfl rfl (hx.c _ _ (gl _)) (Nat.le_refl _) ⟨rfl, rfl⟩) ?_ | refine TAL.r rfl rfl rfl (fun h' hx hn => qah (sz := 7) rfl rfl (hx.c _ _ (hgx _)) (Nat.le_of_ble_eq_true rfl) ⟨rfl, rfl⟩) ?_ | refine TAL.r rfl rfl rfl (fun h' hx hn => qai (v := .bool _) rfl rfl ⟨rfl, rfl⟩) ?_ | refine TAL.p rfl rfl rfl (fun h' hn => qai (v := .bool _) rfl rfl ⟨rfl, rfl⟩) ?_)
   all_goals refine TAL.wj0 rfl rfl (qap (vs := actC { actV0 with q := p.q } (namedA a)) rfl (by rw [hn]; rfl) rfl (by rw [hn]; exact qaC (hq h (Ext.refl h))) (gj _) rfl ⟨(Heap.set_other (Nat.ne_of_lt n1)).trans (hgx _), ?_⟩)
   repeat' (first | refine TAL.nil ?_ | refine TAL.r rfl rfl rfl (fun h' hx hn => qaa rfl ⟨rfl, rfl⟩) ?_)
   repeat' (first | refine AWp.ret ?_)
   all_goals refine ⟨_, ResV.cell2 rfl rfl rfl (Heap.set_at _ _ _) (Nat.le_refl _), { actV0 with q := p.q }, congrArg (fun b => Value.tuple #[.agg (actC { actV0 with q := p.q } (namedA a)).toArray, .bool b]) ?_, by rw [hn]; exact hq _ (xf _ _), xf _ _⟩
   all_goals clear hz xf xl gj hgx gl n2 wf2 n1 wf r hq hn ho
   all_goals grind
 by_cases k6 : a.kind = 11
 ·
  have hn : namedA a = { act0 with kind := a.kind, node := a.node, group := a.group, client := a.client } := by unfold namedA; grind
  have ho : rokA nodes groups a = (clientB a && nodeB nodes a && groupB groups a) := by unfold rokA; rw [if_neg k1, if_neg k2, if_neg k3, if_neg k4, if_neg k5, if_pos k6]
  have hq : ∀ h', Ext h h' → ActR h' actV0 { act0 with kind := a.kind, node := a.node, group := a.group, client := a.client } := fun h' x => ⟨(hz h').ra, (hz h').rc, (hz h').rk⟩
  rw [ho]
  repeat (first | refine AL.nil ?_ | refine AWp.seq ?_ | refine AWp.r9 ?_ | refine AWp.c8 rfl ?_ | refine AWp.c9 rfl ?_ | refine AWp.b9 ?_ | refine AL.set rfl rfl (qaa rfl ?_) | refine AL.set rfl rfl (qao rfl ?_) | refine AL.set rfl rfl (qad rfl rfl (hgx _) rfl ?_) | refine AL.set rfl rfl (qaj rfl rfl rfl (by omega) ?_) | refine AL.set rfl rfl (qak rfl rfl rfl (by omega) ?_))
  refine AWp.treeJ (fun H => H.get h.next = some ⟨actC p a, 40, true⟩) (fun _ _ a b => b.c _ _ a) (t := OT.seq [(0, .P), (1, .S), (2, .P), (3, .S), (4, .P), (5, .S), (6, .P), (7, .W), (8, .P), (9, .W), (10, .P), (11, .W)] .nil) mixed (by kernel_rfl) (hgx _) ?_
  repeat (first | refine TAL.p rfl rfl rfl (fun h' hn => qao rfl ⟨rfl, rfl⟩) ?_ | refine TAL.s rfl rfl rfl (fun h' hn hx => qad rfl rfl hx rfl ⟨rfl, rfl⟩) ?_)
  refine TAL.wj0 rfl rfl (qaB (v := .int .i64 a.client) rfl rfl rfl rfl ⟨hgx _, ?_⟩)
  repeat (first | refine TAL.p rfl rfl rfl (fun h' hn => qao rfl ⟨rfl, rfl⟩) ?_)
  refine TAL.wj0 rfl rfl (qaB (v := .int .i64 a.node) rfl rfl rfl rfl ⟨hgx _, ?_⟩)
  repeat (first | refine TAL.p rfl rfl rfl (fun h' hn => qao rfl ⟨rfl, rfl⟩) ?_)
  refine TAL.wj0 rfl rfl (qaB (v := .int .i64 a.group) rfl rfl rfl rfl ⟨hgx _, ?_⟩)
  refine TAL.nil ?_
  cases clientB a <;> cases nodeB nodes a <;> cases groupB groups a <;>
  ·
   repeat (first | refine AL.nil ?_ | refine AL.skip rfl rfl ?_ | refine AWp.seq ?_ | refine AWp.r9 ?_ | refine AWp.ret ?_ | refine AL.set rfl rfl (qag rfl ?_) | refine AL.set rfl rfl (qaa rfl ?_) | refine AL.set rfl rfl (qah (sz := 33) rfl rfl (gl _) (Nat.le_refl _) ?_) | refine AL.set rfl rfl (qai (v := .bool _) rfl rfl ?_) | refine AL.eff rfl (qap (vs := actC actV0 (namedA a)) rfl (by rw [hn]; rfl) rfl (by rw [hn]; exact qaC (hq h (Ext.refl h))) (gj _) rfl ?_))
   exact ⟨_, ResV.cell2 rfl rfl rfl (Heap.set_at _ _ _) (Nat.le_refl _), actV0, rfl, by rw [hn]; exact hq _ (xf _ _), xf _ _⟩
 by_cases k7 : a.kind = 12
 ·
  have hn : namedA a = { act0 with kind := a.kind, node := a.node, keep := a.keep } := by unfold namedA; grind
  have ho : rokA nodes groups a = (nodeB nodes a && kp a.keep) := by unfold rokA; rw [if_neg k1, if_neg k2, if_neg k3, if_neg k4, if_neg k5, if_neg k6, if_pos k7]
  have hq : ∀ h', Ext h h' → ActR h' { actV0 with k := p.k } { act0 with kind := a.kind, node := a.node, keep := a.keep } := fun h' x => ⟨(hz h').ra, (hz h').rc, (r.ext x).rk⟩
  rw [ho]
  repeat (first | refine AL.nil ?_ | refine AWp.seq ?_ | refine AWp.r9 ?_ | refine AWp.c8 rfl ?_ | refine AWp.c9 rfl ?_ | refine AWp.b9 ?_ | refine AL.set rfl rfl (qaa rfl ?_) | refine AL.set rfl rfl (qao rfl ?_) | refine AL.set rfl rfl (qad rfl rfl (hgx _) rfl ?_) | refine AL.set rfl rfl (qaj rfl rfl rfl (by omega) ?_) | refine AL.set rfl rfl (qak rfl rfl rfl (by omega) ?_))
  refine AWp.treeJ (fun H => H.get h.next = some ⟨actC p a, 40, true⟩) (fun _ _ a b => b.c _ _ a) (t := OT.seq [(0, .P), (1, .S), (2, .P), (3, .S), (4, .P), (5, .W), (6, .P), (7, .W)] .nil) mixed (by kernel_rfl) (hgx _) ?_
  repeat (first | refine TAL.p rfl rfl rfl (fun h' hn => qao rfl ⟨rfl, rfl⟩) ?_ | refine TAL.s rfl rfl rfl (fun h' hn hx => qad rfl rfl hx rfl ⟨rfl, rfl⟩) ?_)
  refine TAL.wj0 rfl rfl (qaB (v := .int .i64 a.node) rfl rfl rfl rfl ⟨hgx _, ?_⟩)
  repeat (first | refine TAL.p rfl rfl rfl (fun h' hn => qao rfl ⟨rfl, rfl⟩) ?_)
  refine TAL.wj0 rfl rfl (qaB (v := p.k) rfl rfl r.rk.one rfl ⟨hgx _, ?_⟩)
  refine TAL.nil ?_
  cases nodeB nodes a <;>
  ·
   repeat (first | refine AWp.seq ?_)
   refine AWp.treeJ (fun H => H.get h.next = some ⟨actC p a, 40, true⟩) (fun _ _ a b => b.c _ _ a) (t := OT.seq [(0, .R), (1, .R), (2, .R), (3, .R), (4, .R), (5, .R), (6, .P), (7, .W), (8, .R)] .nil) mixed (by kernel_rfl) (hgx _) ?_
   repeat' (first | refine TAL.skip rfl rfl rfl ?_ | refine TAL.r rfl rfl rfl (fun h' hx hn => qag rfl ⟨rfl, rfl⟩) ?_ | refine TAL.rB rfl rfl rfl (fun h' hx hn => qab rfl rfl (rkeep_c p.k a.keep h' (r.rk.ext ((xl _).trans hx))) ⟨rfl, rfl⟩) (fun c => ?_) (fun c => ?_) | refine TAL.r rfl rfl rfl (fun h' hx hn => qao rfl ⟨rfl, rfl⟩) ?_ | refine TAL.r rfl rfl rfl (fun h' hx hn => qad rfl rfl (hx.c _ _ (hgx _)) rfl ⟨rfl, rfl⟩) ?_ | refine TAL.r rfl rfl rfl (fun h' hx hn => qah (sz := 33) rfl rfl (hx.c _ _ (gl _)) (Nat.le_refl _) ⟨rfl, rfl⟩) ?_ | refine TAL.p rfl rfl rfl (fun h' hn => qai (v := .bool _) rfl rfl ⟨rfl, rfl⟩) ?_)
   all_goals refine TAL.wj0 rfl rfl (qap (vs := actC { actV0 with k := p.k } (namedA a)) rfl (by rw [hn]; rfl) rfl (by rw [hn]; exact qaC (hq h (Ext.refl h))) (gj _) rfl ⟨(Heap.set_other (Nat.ne_of_lt n1)).trans (hgx _), ?_⟩)
   repeat' (first | refine TAL.nil ?_ | refine TAL.r rfl rfl rfl (fun h' hx hn => qaa rfl ⟨rfl, rfl⟩) ?_)
   repeat' (first | refine AWp.ret ?_)
   all_goals refine ⟨_, ResV.cell2 rfl rfl rfl (Heap.set_at _ _ _) (Nat.le_refl _), { actV0 with k := p.k }, congrArg (fun b => Value.tuple #[.agg (actC { actV0 with k := p.k } (namedA a)).toArray, .bool b]) ?_, by rw [hn]; exact hq _ (xf _ _), xf _ _⟩
   all_goals clear hz xf xl gj hgx gl n2 wf2 n1 wf r hq hn ho
   all_goals grind
 ·
  have hn : namedA a = { act0 with kind := a.kind } := by unfold namedA; grind
  have ho : rokA nodes groups a = false := by unfold rokA; rw [if_neg k1, if_neg k2, if_neg k3, if_neg k4, if_neg k5, if_neg k6, if_neg k7]
  have hq : ∀ h', Ext h h' → ActR h' actV0 { act0 with kind := a.kind } := fun h' x => ⟨(hz h').ra, (hz h').rc, (hz h').rk⟩
  rw [ho]
  repeat (first | refine AL.nil ?_ | refine AWp.seq ?_ | refine AWp.r9 ?_ | refine AWp.c9 rfl ?_ | refine AWp.ret ?_ | refine AWp.b9 ?_ | refine AWp.k9 ?_ | refine AL.set rfl rfl (qaa rfl ?_) | refine AL.set rfl rfl (qao rfl ?_) | refine AL.set rfl rfl (qad rfl rfl (hgx _) rfl ?_) | refine AL.set rfl rfl (qah (sz := 33) rfl rfl (gl _) (Nat.le_refl _) ?_) | refine AL.set rfl rfl (qak rfl rfl rfl (by omega) ?_) | refine AL.eff rfl (qap (vs := actC actV0 (namedA a)) rfl (by rw [hn]; rfl) rfl (by rw [hn]; exact qaC (hq h (Ext.refl h))) (gj _) rfl ?_))
  exact ⟨_, ResV.cell2 rfl rfl rfl (Heap.set_at _ _ _) (Nat.le_refl _), actV0, rfl, by rw [hn]; exact hq _ (xf _ _), xf _ _⟩
end Go.Proofs.YtigmojilaadbhaaGreatDoor

/-
 Scripts: the document's own: acts that may be, in a setup; what is wrong with a script.
-/
namespace Go.Proofs.YtigmojilaadbhaaGreatDoor
open Go Go.Eng Go.Pln Go.Lib
attribute [local irreducible] AWp AL DAL AOp TAL

set_option maxHeartbeats 1000000 in
theorem rmay_c (p : ActV) (a : ActM) (nodes groups : Int) (h : Heap) (r : ActR h p a) : ACalls Tryz.prog 41 [.agg (actC p a).toArray, .int .i64 nodes, .int .i64 groups] h fun u h' => u = .bool (mayAct nodes groups a) ∧ h' = h := by
 refine ACalls.wf fun wf => ACalls.reset ?_
 refine ACalls.body Tryz.func41 rfl rfl ?_
 repeat (first | refine AL.nil ?_ | refine AWp.seq ?_ | refine AWp.r9 ?_ | refine AL.set rfl rfl (qaa rfl ?_) | refine AL.set rfl rfl (qaL rfl (by intro e; cases e) ?_))
 generalize hH : h.alloc _ = H
 have hg : H.get h.next = some ⟨actC p a, 40, true⟩ := hH ▸ Heap.alloc_new _ _
 have hx : Ext h H := hH ▸ wf.ext _
 have wfH : WF H := hH ▸ wf.alloc _
 clear hH
 rw [may_d]
 have rH := r.ext hx
 repeat (first | refine AL.set rfl rfl (qac rfl ?_) | refine AL.set rfl rfl (qah (sz := 33) rfl rfl hg (Nat.le_refl _) ?_))
 refine AL.set rfl rfl (qaq (evs := [.agg (actC p a).toArray, .int .i64 nodes, .int .i64 groups]) rfl rfl ((rabare_c p a nodes groups H rH).wf_post.mono ?_))
 rintro _ H1 ⟨⟨q, rfl, rq, x1⟩, wf1, _⟩
 repeat (first | refine AL.nil ?_ | refine AWp.seq ?_ | refine AWp.r9 ?_ | refine AL.set rfl rfl (qag rfl ?_) | refine AL.set rfl rfl (qaJ rfl ?_) | refine AL.set rfl rfl (qaa rfl ?_) | refine AL.set rfl rfl (qat rfl rfl ?_) | refine AL.set rfl rfl (qas ?_) | refine AL.eff rfl (qaF (vs := actC q (namedA a)) rfl rfl rfl rfl (qaC rq) ?_))
 have g2 := Heap.alloc_new H1 ⟨actC q (namedA a), 40, true⟩
 have x2 := wf1.ext ⟨actC q (namedA a), 40, true⟩
 generalize H1.alloc ⟨actC q (namedA a), 40, true⟩ = H2 at g2 x2 ⊢
 have hxx := hx.trans (x1.trans x2)
 have cs := qdd q p (namedA a) a H2 (rq.ext x2) (r.ext hxx)
 have hg2 := x2.c _ _ (x1.c _ _ hg)
 cases ho : rokA nodes groups a with
 | false =>
  repeat' (first | refine AL.nil ?_ | refine AL.skip rfl rfl ?_ | refine AWp.ret ?_ | refine AL.set rfl rfl (qaa rfl ?_) | refine AL.set rfl rfl (qai (v := .bool _) rfl rfl ?_))
  exact ⟨_, ResV.tmp rfl, rfl, hxx, rfl, rfl⟩
 | true =>
  repeat (first | refine AL.nil ?_ | refine AWp.ret ?_ | refine AL.set rfl rfl (qaa rfl ?_) | refine AL.set rfl rfl (qah (sz := 33) rfl rfl g2 (Nat.le_refl _) ?_) | refine AL.set rfl rfl (qah (sz := 33) rfl rfl hg2 (Nat.le_refl _) ?_) | refine AL.set rfl rfl (qab rfl rfl cs ?_) | refine AL.set rfl rfl (qai (v := .bool _) rfl rfl ?_))
  exact ⟨_, ResV.tmp rfl, rfl, hxx, rfl, rfl⟩
set_option maxHeartbeats 1000000 in
theorem rmayLine_c (p : ActV) (a : ActM) (h : Heap) (r : ActR h p a) : ACalls Tryz.prog 19 [.agg (actC p a).toArray] h fun u h' => u = .bool (mayAct 5 5 a) ∧ h' = h := by
 refine ACalls.wf fun wf => ACalls.reset ?_
 refine ACalls.body Tryz.func19 rfl rfl ?_
 repeat (first | refine AL.nil ?_ | refine AWp.seq ?_ | refine AWp.r9 ?_ | refine AL.set rfl rfl (qaa rfl ?_) | refine AL.set rfl rfl (qaL rfl (by intro e; cases e) ?_))
 generalize hH : h.alloc _ = H
 have hg : H.get h.next = some ⟨actC p a, 40, true⟩ := hH ▸ Heap.alloc_new _ _
 have hx : Ext h H := hH ▸ wf.ext _
 have wfH : WF H := hH ▸ wf.alloc _
 clear hH
 repeat (first | refine AL.nil ?_ | refine AWp.ret ?_ | refine AL.set rfl rfl (qaa rfl ?_) | refine AL.set rfl rfl (qah (sz := 33) rfl rfl hg (Nat.le_refl _) ?_) | refine AL.set rfl rfl (qab rfl rfl (rmay_c p a 5 5 H (r.ext hx)) ?_))
 exact ⟨_, ResV.tmp rfl, rfl, hx, rfl, rfl⟩
end Go.Proofs.YtigmojilaadbhaaGreatDoor

/-
 Scripts: the document's own: the act of a line.
-/
namespace Go.Proofs.YtigmojilaadbhaaGreatDoor
open Go Go.Eng Go.Pln Go.Lib
attribute [local irreducible] AWp AL DAL AOp TAL

structure UlI (h : Heap) (j4 j6 : Nat) (q : ActV) (a : ActM) (H : Heap) : Prop where
 ext : Ext h H
 wf : WF H
 nx : h.next ≤ H.next
 n4 : h.next ≤ j4
 n6 : h.next ≤ j6
 ne : j4 ≠ j6
 g4 : H.get j4 = some ⟨actC actV0 act0, 40, true⟩
 g6 : H.get j6 = some ⟨actC q a, 40, true⟩
 o : ActO h.next H q a
def ulV (s : Bytes) : ActM × Int := match unlineR s with
 | some a => (a, 0)
 | none => (act0, 4)
end Go.Proofs.YtigmojilaadbhaaGreatDoor

/-
 Scripts: the law of lines that are read (ScriptUnlines).
-/
namespace Go.Proofs.YtigmojilaadbhaaGreatDoor
open Go Go.Eng Go.Pln Go.Lib
attribute [local irreducible] AWp AL DAL AOp TAL

end Go.Proofs.YtigmojilaadbhaaGreatDoor

/-
 Scripts: the document's own: has a script much, has an act, a command?
-/
namespace Go.Proofs.YtigmojilaadbhaaGreatDoor
open Go Go.Eng Go.Pln Go.Lib
attribute [local irreducible] AWp AL DAL AOp TAL

instance i_muchE : FnC Tryz.prog 85 := ⟨Tryz.f85, Tryz.func85, by kernel_rfl, by kernel_rfl⟩
instance i_longC : FnC Tryz.prog 38 := ⟨Tryz.f38, Tryz.func38, by kernel_rfl, by kernel_rfl⟩
instance i_longQ : FnC Tryz.prog 39 := ⟨Tryz.f39, Tryz.func39, by kernel_rfl, by kernel_rfl⟩
instance i_longA : FnC Tryz.prog 14 := ⟨Tryz.f14, Tryz.func14, by kernel_rfl, by kernel_rfl⟩
set_option maxHeartbeats 4000000 in
theorem muchE_c (u : Value) (l : List EntM) (most : Int) (h : Heap) (r : RE h u l) : ACalls Tryz.prog 85 [u, .int .i64 most] h fun x h' => (∃ b, x = .bool b) ∧ h' = h := by
 refine ACalls.body Tryz.func85 rfl rfl ?_
 obtain ⟨ro, s1, s2, s3⟩ := r.ex
 have hlen := r.len
 obtain ⟨ua, uc, hu⟩ := s1.slice
 repeat (first | refine AL.nil ?_ | refine AWp.seq ?_ | refine AWp.r9 ?_ | refine AWp.b9 ?_ | refine AL.set rfl rfl (qae rfl ?_) | refine AL.set rfl rfl (qaa rfl ?_))
 refine AWp.loop (α := Nat × Int) (fun d => [(0, u), (1, .int .i64 most), (5, .int .i64 d.2), (6, .int .i64 (d.1 : Nat))]) (fun _ => h) (fun d => d.1 ≤ l.length) (fun d => l.length - d.1) (0, 0) (Nat.zero_le _) (Weak.same (EW.cons rfl (EW.cons rfl (EW.cons rfl (EW.cons rfl EW.nil))))) ?_
 rintro ⟨k, n⟩ hk
 replace hk : k ≤ l.length := hk
 show AWp _ _ _ _ [(0, u), (1, .int .i64 most), (5, .int .i64 n), (6, .int .i64 (k : Nat))] h
 by_cases hlt : k < l.length
 ·
  obtain ⟨e, hle⟩ : ∃ e, l[k]? = some e := ⟨_, List.getElem?_eq_getElem hlt⟩
  obtain ⟨row, hrow⟩ : ∃ row, ro[k]? = some row := ⟨_, List.getElem?_eq_getElem (by omega)⟩
  obtain ⟨k1, v1, rfl, b1, b2⟩ := s3 _ _ _ hrow hle
  have hrw : ro[((k : Nat) : Int).toNat]? = some (entC k1 v1 e) := hrow
  have pe := s1.elt hrw
  by_cases hm : n ≤ most
  ·
   repeat (first | refine AL.nil ?_ | refine AWp.seq ?_ | refine AWp.r9 ?_ | refine AWp.c8 rfl ?_ | refine AWp.b9 ?_ | refine AWp.k9 ?_ | refine AL.set rfl rfl (qac rfl ?_) | refine AL.set rfl rfl (qag rfl ?_) | refine AL.set rfl rfl (qam (v := u) rfl ?_) | refine AL.set rfl rfl (qav s1 rfl ?_) | refine AL.set rfl rfl (qaj rfl rfl rfl (by omega) ?_) | refine AL.set rfl rfl (qai (v := .bool _) rfl rfl ?_))
   refine AWp.drawR mixed (by kernel_rfl) ?_
   repeat (first | refine DAL.r rfl rfl rfl (fun h' hx hn => qac rfl ⟨rfl, rfl⟩) ?_ | refine DAL.r rfl rfl rfl (fun h' hx hn => qae rfl ⟨rfl, rfl⟩) ?_ | refine DAL.r rfl rfl rfl (fun h' hx hn => qam (v := u) rfl ⟨rfl, rfl⟩) ?_ | refine DAL.r rfl rfl rfl (fun h' hx hn => qay (s1.ext hx) rfl rfl (by omega) hrw ⟨rfl, rfl⟩) ?_ | refine DAL.r rfl rfl rfl (fun h' hx hn => qcy (pe.ext hx) rfl ⟨rfl, rfl⟩) ?_ | refine DAL.r rfl rfl rfl (fun h' hx hn => qbr (pe.ext hx) rfl rfl rfl ⟨rfl, rfl⟩) ?_ | refine DAL.r rfl rfl rfl (fun h' hx hn => qaD (b1.ext hx) rfl ⟨rfl, rfl⟩) ?_ | refine DAL.r rfl rfl rfl (fun h' hx hn => qaD (b2.ext hx) rfl ⟨rfl, rfl⟩) ?_ | refine DAL.r rfl rfl rfl (fun h' hx hn => qfg rfl rfl ⟨rfl, rfl⟩) ?_ | refine DAL.r rfl rfl rfl (fun h' hx hn => qa6 rfl rfl rfl ⟨rfl, rfl⟩) ?_)
   refine DAL.nil ?_
   repeat (first | refine AL.nil ?_ | refine AWp.r9 ?_ | refine AL.set rfl rfl (qac rfl ?_) | refine AL.set rfl rfl (qae rfl ?_) | refine AL.set rfl rfl (qax rfl rfl (by omega) ?_))
   exact ⟨(k + 1, _), hlt, by show l.length - (k + 1) < l.length - k; omega, Weak.same (EW.cons rfl (EW.cons rfl (EW.cons rfl (EW.cons rfl EW.nil))))⟩
  ·
   repeat' (first | refine AL.nil ?_ | refine AWp.seq ?_ | refine AWp.r9 ?_ | refine AWp.c9 rfl ?_ | refine AWp.ret ?_ | refine AWp.exit ?_ | refine AL.set rfl rfl (qac rfl ?_) | refine AL.set rfl rfl (qag rfl ?_) | refine AL.set rfl rfl (qaa rfl ?_) | refine AL.set rfl rfl (qam (v := u) rfl ?_) | refine AL.set rfl rfl (qav s1 rfl ?_) | refine AL.set rfl rfl (qaj rfl rfl rfl (by omega) ?_) | refine AL.set rfl rfl (qak rfl rfl rfl (by omega) ?_) | refine AL.set rfl rfl (qai (v := .bool _) rfl rfl ?_))
   exact ⟨_, ResV.tmp rfl, ⟨_, rfl⟩, rfl⟩
 ·
  repeat' (first | refine AL.nil ?_ | refine AL.skip rfl rfl ?_ | refine AWp.seq ?_ | refine AWp.r9 ?_ | refine AWp.c9 rfl ?_ | refine AWp.ret ?_ | refine AWp.exit ?_ | refine AL.set rfl rfl (qac rfl ?_) | refine AL.set rfl rfl (qag rfl ?_) | refine AL.set rfl rfl (qaa rfl ?_) | refine AL.set rfl rfl (qam (v := u) rfl ?_) | refine AL.set rfl rfl (qav s1 rfl ?_) | refine AL.set rfl rfl (qak rfl rfl rfl (by omega) ?_) | refine AL.set rfl rfl (qai (v := .bool _) rfl rfl ?_) | refine AL.set rfl rfl (qaM rfl rfl rfl (fun c => ?_) (fun c => ?_)))
  all_goals exact ⟨_, ResV.tmp rfl, ⟨_, rfl⟩, rfl⟩
theorem at8 {h : Heap} {vs : List Value} {ll : List Bytes} (q : RBs h vs ll) {k : Nat} (hk : k < vs.length) : ∃ x l, vs[k]? = some x ∧ RB h x l := by
 obtain ⟨h1, h2⟩ := q.at
 obtain ⟨x, hx⟩ : ∃ x, vs[k]? = some x := ⟨_, List.getElem?_eq_getElem hk⟩
 obtain ⟨l, hl⟩ : ∃ l, ll[k]? = some l := ⟨_, List.getElem?_eq_getElem (by omega)⟩
 exact ⟨x, l, hx, h2 k x l hx hl⟩
set_option maxHeartbeats 4000000 in
theorem longC_c (p : CmdV) (m : CmdM) (most : Int) (h : Heap) (r : CmdR h p m) : ACalls Tryz.prog 38 [.agg (cmdC p m).toArray, .int .i64 most] h fun x h' => (∃ b, x = .bool b) ∧ h' = h := by
 refine ACalls.wf fun wf => ACalls.reset ?_
 refine ACalls.body Tryz.func38 rfl rfl ?_
 repeat (first | refine AL.nil ?_ | refine AWp.seq ?_ | refine AWp.r9 ?_ | refine AL.set rfl rfl (qaa rfl ?_) | refine AL.set rfl rfl (qaL rfl (by intro e; cases e) ?_))
 generalize hH : h.alloc _ = H
 have hg : H.get h.next = some ⟨cmdC p m, 37, true⟩ := hH ▸ Heap.alloc_new _ _
 have xh : Ext h H := hH ▸ wf.ext _
 have wfH : WF H := hH ▸ wf.alloc _
 clear hH
 refine AWp.cutI (α := Nat × Nat × Heap) (fun d => [(1, .int .i64 most), (2, ptr h.next), (5, ptr d.1), (6, ptr d.2.1)]) (fun d => d.2.2) (fun d => Ext H d.2.2 ∧ WF d.2.2 ∧ d.2.2.get d.1 = some ⟨askC p.r m.req.ask, 29, true⟩ ∧ d.2.2.get d.2.1 = some ⟨moveC p.m m.move, 34, true⟩) ?_ ?_
 ·
  have ra := r.ext xh
  have n0 := wfH.lt hg
  refine AWp.treeJ (fun H => H.get h.next = some ⟨cmdC p m, 37, true⟩) (fun _ _ a b => b.c _ _ a) (t := OT.seq [(0, .R), (1, .R), (2, .R), (3, .P), (4, .S)] (.alt (OT.seq [(5, .X), (6, .X), (7, .W), (8, .W)] .nil) (OT.seq [(6, .X), (5, .X), (7, .W), (8, .W)] .nil))) mixed (by kernel_rfl) hg ?_
  repeat (first | refine TAL.r rfl rfl rfl (fun h' hx hn => qao rfl ⟨rfl, rfl⟩) ?_ | refine TAL.r rfl rfl rfl (fun h' hx hn => qah (sz := 7) rfl rfl (hx.c _ _ hg) (Nat.le_of_ble_eq_true rfl) ⟨rfl, rfl⟩) ?_ | refine TAL.p rfl rfl rfl (fun h' hn => qao rfl ⟨rfl, rfl⟩) ?_ | refine TAL.s rfl rfl rfl (fun h' hn hx => qah (sz := 6) rfl rfl hx (Nat.le_of_ble_eq_true rfl) ⟨rfl, rfl⟩) ?_)
  refine TAL.two ?_ ?_
  ·
   refine TAL.x rfl rfl rfl (qas ⟨wfH.ext _, ?_⟩)
   have g5 := Heap.alloc_new H ⟨(askC askV0 ask0), 29, true⟩
   have x1 := wfH.ext ⟨(askC askV0 ask0), 29, true⟩
   have w1 := wfH.alloc ⟨(askC askV0 ask0), 29, true⟩
   have n1 : (H.alloc ⟨(askC askV0 ask0), 29, true⟩).next = H.next + 1 := rfl
   refine TAL.heap (h := H.alloc ⟨(askC askV0 ask0), 29, true⟩) rfl ?_
   generalize H.alloc ⟨(askC askV0 ask0), 29, true⟩ = H1 at g5 x1 w1 n1 ⊢
   refine TAL.x rfl rfl rfl (qas ⟨w1.ext _, ?_⟩)
   have g6 := Heap.alloc_new H1 ⟨(moveC ⟨.slice none 0 0, .slice none 0 0⟩ ⟨0, [], [], false, 0, 0⟩), 34, true⟩
   have x2 := w1.ext ⟨(moveC ⟨.slice none 0 0, .slice none 0 0⟩ ⟨0, [], [], false, 0, 0⟩), 34, true⟩
   have w2 := w1.alloc ⟨(moveC ⟨.slice none 0 0, .slice none 0 0⟩ ⟨0, [], [], false, 0, 0⟩), 34, true⟩
   refine TAL.heap (h := H1.alloc ⟨(moveC ⟨.slice none 0 0, .slice none 0 0⟩ ⟨0, [], [], false, 0, 0⟩), 34, true⟩) rfl ?_
   generalize H1.alloc ⟨(moveC ⟨.slice none 0 0, .slice none 0 0⟩ ⟨0, [], [], false, 0, 0⟩), 34, true⟩ = H2 at g6 x2 w2 ⊢
   replace g5 := x2.c _ _ g5
   have xx := x1.trans x2
   refine TAL.wj0 rfl rfl (qap (vs := askC p.r m.req.ask) rfl rfl rfl (qbK ra.r) g5 rfl ⟨(Heap.set_other (by omega)).trans (xx.c _ _ hg), ?_⟩)
   have g6' : (H2.set H.next ⟨askC p.r m.req.ask, 29, true⟩).get H1.next = some ⟨moveC ⟨.slice none 0 0, .slice none 0 0⟩ ⟨0, [], [], false, 0, 0⟩, 34, true⟩ := (Heap.set_other (by omega)).trans g6
   have x3 := wfH.ext_set xx (show H.next ≤ H.next by omega) ⟨askC p.r m.req.ask, 29, true⟩
   have w3 := w2.set (w2.lt g5) ⟨askC p.r m.req.ask, 29, true⟩
   have g5' : (H2.set H.next ⟨askC p.r m.req.ask, 29, true⟩).get H.next = some ⟨askC p.r m.req.ask, 29, true⟩ := Heap.set_at _ _ _
   generalize H2.set H.next ⟨askC p.r m.req.ask, 29, true⟩ = H3 at g6' x3 w3 g5' ⊢
   refine TAL.wj0 rfl rfl (qap (vs := moveC p.m m.move) rfl rfl rfl (qb6 ra.m) g6' rfl ⟨(Heap.set_other (by omega)).trans (x3.c _ _ hg), ?_⟩)
   refine TAL.nil ?_
   exact ⟨(H.next, H1.next, H3.set H1.next ⟨moveC p.m m.move, 34, true⟩), ⟨wfH.ext_set x3 (by omega) _, w3.set (w3.lt g6') _, (Heap.set_other (by omega)).trans g5', Heap.set_at _ _ _⟩, Weak.same (EW.cons rfl (EW.cons rfl (EW.cons rfl (EW.cons rfl EW.nil))))⟩
  ·
   refine TAL.x rfl rfl rfl (qas ⟨wfH.ext _, ?_⟩)
   have g6 := Heap.alloc_new H ⟨(moveC ⟨.slice none 0 0, .slice none 0 0⟩ ⟨0, [], [], false, 0, 0⟩), 34, true⟩
   have x1 := wfH.ext ⟨(moveC ⟨.slice none 0 0, .slice none 0 0⟩ ⟨0, [], [], false, 0, 0⟩), 34, true⟩
   have w1 := wfH.alloc ⟨(moveC ⟨.slice none 0 0, .slice none 0 0⟩ ⟨0, [], [], false, 0, 0⟩), 34, true⟩
   have n1 : (H.alloc ⟨(moveC ⟨.slice none 0 0, .slice none 0 0⟩ ⟨0, [], [], false, 0, 0⟩), 34, true⟩).next = H.next + 1 := rfl
   refine TAL.heap (h := H.alloc ⟨(moveC ⟨.slice none 0 0, .slice none 0 0⟩ ⟨0, [], [], false, 0, 0⟩), 34, true⟩) rfl ?_
   generalize H.alloc ⟨(moveC ⟨.slice none 0 0, .slice none 0 0⟩ ⟨0, [], [], false, 0, 0⟩), 34, true⟩ = H1 at g6 x1 w1 n1 ⊢
   refine TAL.x rfl rfl rfl (qas ⟨w1.ext _, ?_⟩)
   have g5 := Heap.alloc_new H1 ⟨(askC askV0 ask0), 29, true⟩
   have x2 := w1.ext ⟨(askC askV0 ask0), 29, true⟩
   have w2 := w1.alloc ⟨(askC askV0 ask0), 29, true⟩
   refine TAL.heap (h := H1.alloc ⟨(askC askV0 ask0), 29, true⟩) rfl ?_
   generalize H1.alloc ⟨(askC askV0 ask0), 29, true⟩ = H2 at g5 x2 w2 ⊢
   replace g6 := x2.c _ _ g6
   have xx := x1.trans x2
   refine TAL.wj0 rfl rfl (qap (vs := askC p.r m.req.ask) rfl rfl rfl (qbK ra.r) g5 rfl ⟨(Heap.set_other (by omega)).trans (xx.c _ _ hg), ?_⟩)
   have g6' : (H2.set H1.next ⟨askC p.r m.req.ask, 29, true⟩).get H.next = some ⟨moveC ⟨.slice none 0 0, .slice none 0 0⟩ ⟨0, [], [], false, 0, 0⟩, 34, true⟩ := (Heap.set_other (by omega)).trans g6
   have x3 := wfH.ext_set xx (show H.next ≤ H1.next by omega) ⟨askC p.r m.req.ask, 29, true⟩
   have w3 := w2.set (w2.lt g5) ⟨askC p.r m.req.ask, 29, true⟩
   have g5' : (H2.set H1.next ⟨askC p.r m.req.ask, 29, true⟩).get H1.next = some ⟨askC p.r m.req.ask, 29, true⟩ := Heap.set_at _ _ _
   generalize H2.set H1.next ⟨askC p.r m.req.ask, 29, true⟩ = H3 at g6' x3 w3 g5' ⊢
   refine TAL.wj0 rfl rfl (qap (vs := moveC p.m m.move) rfl rfl rfl (qb6 ra.m) g6' rfl ⟨(Heap.set_other (by omega)).trans (x3.c _ _ hg), ?_⟩)
   refine TAL.nil ?_
   exact ⟨(H1.next, H.next, H3.set H.next ⟨moveC p.m m.move, 34, true⟩), ⟨wfH.ext_set x3 (by omega) _, w3.set (w3.lt g6') _, (Heap.set_other (by omega)).trans g5', Heap.set_at _ _ _⟩, Weak.same (EW.cons rfl (EW.cons rfl (EW.cons rfl (EW.cons rfl EW.nil))))⟩
 ·
  rintro ⟨j5, j6, G⟩ ⟨x2, w2, g5, g6⟩
  replace x2 : Ext H G := x2
  replace w2 : WF G := w2
  replace g5 : G.get j5 = some ⟨askC p.r m.req.ask, 29, true⟩ := g5
  replace g6 : G.get j6 = some ⟨moveC p.m m.move, 34, true⟩ := g6
  show AWp _ _ _ _ [(1, .int .i64 most), (2, ptr h.next), (5, ptr j5), (6, ptr j6)] G
  have hg2 := x2.c _ _ hg
  obtain ⟨rr, rm, re, rn, rk⟩ := r.ext (xh.trans x2)
  have q : RBs G [p.r.k, p.r.t, p.r.v, p.r.w, p.m.f, p.m.t, p.n, p.k] [m.req.ask.key, m.req.ask.to, m.req.ask.value, m.req.ask.was, m.move.from_, m.move.to, m.answers, m.key] := ⟨rr.k, rr.t, rr.v, rr.w, rm.f, rm.t, rn, rk, trivial⟩
  repeat (first | refine AL.nil ?_ | refine AWp.seq ?_ | refine AWp.r9 ?_ | refine AWp.b9 ?_ | refine AL.set rfl rfl (qae rfl ?_) | refine AL.set rfl rfl (qbh rfl ?_) | refine AL.set rfl rfl (qao rfl ?_) | refine AL.set rfl rfl (qad rfl rfl g5 rfl ?_) | refine AL.set rfl rfl (qad rfl rfl g6 rfl ?_) | refine AL.set rfl rfl (qad rfl rfl hg2 rfl ?_) | refine AL.set rfl rfl (qaI [p.r.k, p.r.t, p.r.v, p.r.w, p.m.f, p.m.t, p.n, p.k] rfl rfl rfl rfl q.ones ?_))
  have g8 := Heap.alloc_new G ⟨[p.r.k, p.r.t, p.r.v, p.r.w, p.m.f, p.m.t, p.n, p.k], 27, true⟩
  have x3 := w2.ext ⟨[p.r.k, p.r.t, p.r.v, p.r.w, p.m.f, p.m.t, p.n, p.k], 27, true⟩
  generalize G.alloc ⟨[p.r.k, p.r.t, p.r.v, p.r.w, p.m.f, p.m.t, p.n, p.k], 27, true⟩ = G3 at g8 x3 ⊢
  replace q := q.ext x3
  have hg3 := x3.c _ _ hg2
  have rs : RS G3 (.slice (some ⟨G.next, 0, some 1⟩) 8 8) [p.r.k, p.r.t, p.r.v, p.r.w, p.m.f, p.m.t, p.n, p.k] := RS.own g8 rfl
  have hvl : [p.r.k, p.r.t, p.r.v, p.r.w, p.m.f, p.m.t, p.n, p.k].length = 8 := rfl
  generalize [p.r.k, p.r.t, p.r.v, p.r.w, p.m.f, p.m.t, p.n, p.k] = vs at q rs hvl
  skip
  refine AWp.loop (α := Nat × Int) (fun d => [(1, .int .i64 most), (2, ptr h.next), (7, .int .i64 d.2), (8, .slice (some ⟨G.next, 0, some 1⟩) 8 8), (9, .int .i64 (d.1 : Nat))]) (fun _ => G3) (fun d => d.1 ≤ 8) (fun d => 8 - d.1) (0, 0) (Nat.zero_le _) (Weak.same (EW.cons rfl (EW.cons rfl (EW.cons rfl (EW.cons rfl (EW.cons rfl EW.nil)))))) ?_
  rintro ⟨k, n⟩ hk
  replace hk : k ≤ 8 := hk
  show AWp _ _ _ _ [(1, .int .i64 most), (2, ptr h.next), (7, .int .i64 n), (8, .slice (some ⟨G.next, 0, some 1⟩) 8 8), (9, .int .i64 (k : Nat))] G3
  by_cases hlt : k < 8
  ·
   obtain ⟨x, l, hx, rx⟩ := at8 q (show k < vs.length by omega)
   have hx2 : vs[((k : Nat) : Int).toNat]? = some x := hx
   repeat (first | refine AL.nil ?_ | refine AWp.seq ?_ | refine AWp.r9 ?_ | refine AWp.c8 rfl ?_ | refine AWp.b9 ?_ | refine AWp.k9 ?_ | refine AL.set rfl rfl (qac rfl ?_) | refine AL.set rfl rfl (qcc rfl ?_) | refine AL.set rfl rfl (qae rfl ?_) | refine AL.set rfl rfl (qbQ rfl ?_) | refine AL.set rfl rfl (qaj rfl rfl rfl (by omega) ?_) | refine AL.set rfl rfl (qaZ rs rfl rfl (by omega) hx2 fun _ => ?_) | refine AL.set rfl rfl (qaz (PT.of rs hx2) rfl rfl ?_) | refine AL.set rfl rfl (qaD rx rfl ?_) | refine AL.set rfl rfl (qfg rfl rfl ?_) | refine AL.set rfl rfl (qax rfl rfl (by omega) ?_) | refine AL.set rfl rfl (qa6 rfl rfl rfl ?_))
   exact ⟨(k + 1, _), hlt, by show 8 - (k + 1) < 8 - k; omega, Weak.same (EW.cons rfl (EW.cons rfl (EW.cons rfl (EW.cons rfl (EW.cons rfl EW.nil)))))⟩
  ·
   have ce := muchE_c p.e m.entries most G3 (re.ext x3)
   have xx := xh.trans (x2.trans x3)
   by_cases hm : most < n
   ·
    repeat (first | refine AL.nil ?_ | refine AL.skip rfl rfl ?_ | refine AWp.seq ?_ | refine AWp.r9 ?_ | refine AWp.c9 rfl ?_ | refine AWp.ret ?_ | refine AWp.exit ?_ | refine AL.set rfl rfl (qac rfl ?_) | refine AL.set rfl rfl (qcc rfl ?_) | refine AL.set rfl rfl (qag rfl ?_) | refine AL.set rfl rfl (qaa rfl ?_) | refine AL.set rfl rfl (qbQ rfl ?_) | refine AL.set rfl rfl (qaj rfl rfl rfl (by omega) ?_) | refine AL.set rfl rfl (qak rfl rfl rfl (by omega) ?_) | refine AL.set rfl rfl (qai (v := .bool _) rfl rfl ?_))
    exact ⟨_, ResV.tmp rfl, rfl, xx, ⟨_, rfl⟩, rfl⟩
   ·
    repeat (first | refine AL.nil ?_ | refine AWp.seq ?_ | refine AWp.r9 ?_ | refine AWp.c9 rfl ?_ | refine AWp.exit ?_ | refine AL.set rfl rfl (qac rfl ?_) | refine AL.set rfl rfl (qcc rfl ?_) | refine AL.set rfl rfl (qag rfl ?_) | refine AL.set rfl rfl (qbQ rfl ?_) | refine AL.set rfl rfl (qak rfl rfl rfl (by omega) ?_) | refine AL.set rfl rfl (qao rfl ?_) | refine AL.set rfl rfl (qad rfl rfl hg3 rfl ?_))
    refine AL.set rfl rfl (qaq rfl rfl (ce.mono ?_))
    rintro _ G4 ⟨⟨b, rfl⟩, hG4⟩
    cases hG4.symm
    cases b
    ·
     repeat (first | refine AL.nil ?_ | refine AWp.ret ?_ | refine AL.set rfl rfl (qaa rfl ?_) | refine AL.set rfl rfl (qai (v := .bool _) rfl rfl ?_))
     exact ⟨_, ResV.tmp rfl, rfl, xx, ⟨_, rfl⟩, rfl⟩
    ·
     repeat (first | refine AL.nil ?_ | refine AWp.ret ?_ | refine AL.set rfl rfl (qaa rfl ?_) | refine AL.set rfl rfl (qai (v := .bool _) rfl rfl ?_))
     exact ⟨_, ResV.tmp rfl, rfl, xx, ⟨_, rfl⟩, rfl⟩
set_option maxHeartbeats 1000000 in
theorem longQ_c (p : AskV) (a : AskM) (most : Int) (h : Heap) (r : AskR h p a) : ACalls Tryz.prog 39 [.agg (askC p a).toArray, .int .i64 most] h fun x h' => (∃ b, x = .bool b) ∧ h' = h := by
 refine ACalls.wf fun wf => ACalls.reset ?_
 refine ACalls.body Tryz.func39 rfl rfl ?_
 repeat (first | refine AL.nil ?_ | refine AWp.seq ?_ | refine AWp.r9 ?_ | refine AL.set rfl rfl (qaa rfl ?_) | refine AL.set rfl rfl (qaL rfl (by intro e; cases e) ?_))
 generalize hH : h.alloc _ = H
 have hg : H.get h.next = some ⟨askC p a, 29, true⟩ := hH ▸ Heap.alloc_new _ _
 have xh : Ext h H := hH ▸ wf.ext _
 have wfH : WF H := hH ▸ wf.alloc _
 clear hH
 have rH := r.ext xh
 have rc : CmdR H { cmdV0 with r := p } { cmd0 with req := ⟨0, 0, a⟩ } := ⟨rH, (CmdR.nil H).m, RE.nil H, RB.nil H, RB.nil H⟩
 have cl := longC_c { cmdV0 with r := p } { cmd0 with req := ⟨0, 0, a⟩ } most H rc
 repeat (first | refine AL.set rfl rfl (qac rfl ?_) | refine AL.set rfl rfl (qah (sz := 7) rfl rfl hg (Nat.le_refl _) ?_) | refine AL.set rfl rfl (qaw (out := reqC p ⟨0, 0, a⟩) rfl rfl ?_) | refine AL.set rfl rfl (qaw (out := cmdC { cmdV0 with r := p } { cmd0 with req := ⟨0, 0, a⟩ }) rfl rfl ?_))
 refine AL.set rfl rfl (qaq rfl rfl (cl.mono ?_))
 rintro _ G4 ⟨⟨b, rfl⟩, hG4⟩
 cases hG4.symm
 repeat (first | refine AL.nil ?_ | refine AWp.ret ?_ | refine AL.set rfl rfl (qaa rfl ?_))
 exact ⟨_, ResV.tmp rfl, rfl, xh, ⟨_, rfl⟩, rfl⟩
set_option maxHeartbeats 4000000 in
theorem longA_c (p : ActV) (a : ActM) (most : Int) (h : Heap) (r : ActR h p a) : ACalls Tryz.prog 14 [.agg (actC p a).toArray, .int .i64 most] h fun x h' => (∃ b, x = .bool b) ∧ h' = h := by
 refine ACalls.wf fun wf => ACalls.reset ?_
 refine ACalls.body Tryz.func14 rfl rfl ?_
 repeat (first | refine AL.nil ?_ | refine AWp.seq ?_ | refine AWp.r9 ?_ | refine AL.set rfl rfl (qaa rfl ?_) | refine AL.set rfl rfl (qaL rfl (by intro e; cases e) ?_))
 generalize hH : h.alloc _ = H
 have hg : H.get h.next = some ⟨actC p a, 40, true⟩ := hH ▸ Heap.alloc_new _ _
 have xh : Ext h H := hH ▸ wf.ext _
 have wfH : WF H := hH ▸ wf.alloc _
 clear hH
 obtain ⟨ra, rc, rk⟩ := r.ext xh
 have rn := rk.rn
 have hkl := rk.len
 have hml : (a.keep.map keptR).length = a.keep.length := List.length_map _
 repeat (first | refine AL.nil ?_ | refine AWp.seq ?_ | refine AWp.r9 ?_ | refine AWp.b9 ?_ | refine AL.set rfl rfl (qae rfl ?_) | refine AL.set rfl rfl (qao rfl ?_) | refine AL.set rfl rfl (qad rfl rfl hg rfl ?_) | refine AL.set rfl rfl (qav rn rfl ?_))
 refine AWp.loop (α := Nat × Int) (fun d => [(1, .int .i64 most), (2, ptr h.next), (5, .int .i64 d.2), (6, .int .i64 (d.1 : Nat))]) (fun _ => H) (fun d => d.1 ≤ a.keep.length) (fun d => a.keep.length - d.1) (0, _) (Nat.zero_le _) (Weak.same (EW.cons rfl (EW.cons rfl (EW.cons rfl (EW.cons rfl EW.nil))))) ?_
 rintro ⟨k, n⟩ hk
 replace hk : k ≤ a.keep.length := hk
 show AWp _ _ _ _ [(1, .int .i64 most), (2, ptr h.next), (5, .int .i64 n), (6, .int .i64 (k : Nat))] H
 have cc := longC_c p.c a.cmd most H rc
 have cq := longQ_c p.q a.ask most H ra
 by_cases hcond : k < a.keep.length ∧ n ≤ most
 ·
  obtain ⟨hlt, hm⟩ := hcond
  obtain ⟨x, hxl⟩ : ∃ x, a.keep[k]? = some x := ⟨_, List.getElem?_eq_getElem hlt⟩
  have hx2 : (a.keep.map keptR)[((k : Nat) : Int).toNat]? = some (keptR x) := by simp [hxl]
  have px := rn.elt hx2
  repeat (first | refine AL.nil ?_ | refine AWp.seq ?_ | refine AWp.r9 ?_ | refine AWp.c8 rfl ?_ | refine AWp.b9 ?_ | refine AWp.k9 ?_ | refine AL.set rfl rfl (qac rfl ?_) | refine AL.set rfl rfl (qag rfl ?_) | refine AL.set rfl rfl (qae rfl ?_) | refine AL.set rfl rfl (qao rfl ?_) | refine AL.set rfl rfl (qad rfl rfl hg rfl ?_) | refine AL.set rfl rfl (qav rn rfl ?_) | refine AL.set rfl rfl (qaj rfl rfl rfl (by omega) ?_) | refine AL.set rfl rfl (qai (v := .bool _) rfl rfl ?_) | refine AL.set rfl rfl (qay rn rfl rfl (by omega) hx2 ?_) | refine AL.set rfl rfl (qcy px rfl ?_) | refine AL.set rfl rfl (qbr px rfl rfl rfl ?_) | refine AL.set rfl rfl (qa3 rfl ?_) | refine AL.set rfl rfl (qfg rfl rfl ?_) | refine AL.set rfl rfl (qax rfl rfl (by omega) ?_) | refine AL.set rfl rfl (qa6 rfl rfl rfl ?_))
  exact ⟨(k + 1, _), hlt, by show a.keep.length - (k + 1) < a.keep.length - k; omega, Weak.same (EW.cons rfl (EW.cons rfl (EW.cons rfl (EW.cons rfl EW.nil))))⟩
 ·
  by_cases hlt : k < a.keep.length
  ·
   repeat (first | refine AL.nil ?_ | refine AL.skip rfl rfl ?_ | refine AWp.seq ?_ | refine AWp.r9 ?_ | refine AWp.c9 rfl ?_ | refine AWp.ret ?_ | refine AWp.exit ?_ | refine AL.set rfl rfl (qac rfl ?_) | refine AL.set rfl rfl (qag rfl ?_) | refine AL.set rfl rfl (qaa rfl ?_) | refine AL.set rfl rfl (qao rfl ?_) | refine AL.set rfl rfl (qad rfl rfl hg rfl ?_) | refine AL.set rfl rfl (qav rn rfl ?_) | refine AL.set rfl rfl (qaj rfl rfl rfl (by omega) ?_) | refine AL.set rfl rfl (qak rfl rfl rfl (by omega) ?_) | refine AL.set rfl rfl (qai (v := .bool _) rfl rfl ?_))
   exact ⟨_, ResV.tmp rfl, rfl, xh, ⟨_, rfl⟩, rfl⟩
  ·
   by_cases hm : most < n
   ·
    repeat (first | refine AL.nil ?_ | refine AL.skip rfl rfl ?_ | refine AWp.seq ?_ | refine AWp.r9 ?_ | refine AWp.c9 rfl ?_ | refine AWp.ret ?_ | refine AWp.exit ?_ | refine AL.set rfl rfl (qac rfl ?_) | refine AL.set rfl rfl (qag rfl ?_) | refine AL.set rfl rfl (qaa rfl ?_) | refine AL.set rfl rfl (qao rfl ?_) | refine AL.set rfl rfl (qad rfl rfl hg rfl ?_) | refine AL.set rfl rfl (qav rn rfl ?_) | refine AL.set rfl rfl (qaj rfl rfl rfl (by omega) ?_) | refine AL.set rfl rfl (qak rfl rfl rfl (by omega) ?_) | refine AL.set rfl rfl (qai (v := .bool _) rfl rfl ?_))
    exact ⟨_, ResV.tmp rfl, rfl, xh, ⟨_, rfl⟩, rfl⟩
   ·
    repeat (first | refine AL.nil ?_ | refine AL.skip rfl rfl ?_ | refine AWp.seq ?_ | refine AWp.r9 ?_ | refine AWp.c9 rfl ?_ | refine AWp.exit ?_ | refine AL.set rfl rfl (qac rfl ?_) | refine AL.set rfl rfl (qag rfl ?_) | refine AL.set rfl rfl (qao rfl ?_) | refine AL.set rfl rfl (qad rfl rfl hg rfl ?_) | refine AL.set rfl rfl (qav rn rfl ?_) | refine AL.set rfl rfl (qak rfl rfl rfl (by omega) ?_) | refine AL.set rfl rfl (qai (v := .bool _) rfl rfl ?_) | refine AL.set rfl rfl (qah (sz := 20) rfl rfl hg (Nat.le_of_ble_eq_true rfl) ?_))
    refine AL.set rfl rfl (qaq rfl rfl (cc.mono ?_))
    rintro _ G4 ⟨⟨b, rfl⟩, hG4⟩
    cases hG4.symm
    cases b
    ·
     repeat (first | refine AL.set rfl rfl (qac rfl ?_) | refine AL.set rfl rfl (qag rfl ?_) | refine AL.set rfl rfl (qai (v := .bool _) rfl rfl ?_) | refine AL.set rfl rfl (qao rfl ?_) | refine AL.set rfl rfl (qah (sz := 7) rfl rfl hg (Nat.le_of_ble_eq_true rfl) ?_))
     refine AL.set rfl rfl (qaq rfl rfl (cq.mono ?_))
     rintro _ G4 ⟨⟨b, rfl⟩, hG4⟩
     cases hG4.symm
     cases b
     ·
      repeat (first | refine AL.nil ?_ | refine AWp.ret ?_ | refine AL.set rfl rfl (qaa rfl ?_) | refine AL.set rfl rfl (qai (v := .bool _) rfl rfl ?_))
      exact ⟨_, ResV.tmp rfl, rfl, xh, ⟨_, rfl⟩, rfl⟩
     ·
      repeat (first | refine AL.nil ?_ | refine AWp.ret ?_ | refine AL.set rfl rfl (qaa rfl ?_) | refine AL.set rfl rfl (qai (v := .bool _) rfl rfl ?_))
      exact ⟨_, ResV.tmp rfl, rfl, xh, ⟨_, rfl⟩, rfl⟩
    ·
     repeat (first | refine AL.nil ?_ | refine AL.skip rfl rfl ?_ | refine AWp.ret ?_ | refine AL.set rfl rfl (qag rfl ?_) | refine AL.set rfl rfl (qaa rfl ?_) | refine AL.set rfl rfl (qai (v := .bool _) rfl rfl ?_))
     exact ⟨_, ResV.tmp rfl, rfl, xh, ⟨_, rfl⟩, rfl⟩
end Go.Proofs.YtigmojilaadbhaaGreatDoor

/-
 Scripts: the law of lines (ScriptLines).
-/
namespace Go.Proofs.YtigmojilaadbhaaGreatDoor
open Go Go.Eng Go.Pln Go.Lib
attribute [local irreducible] AWp AL DAL AOp TAL

set_option maxHeartbeats 4000000 in
theorem lines_walk (p : ActV) (a : ActM) (h : Heap) (t : Tabs h) (h8 : 8 ≤ h.next) (r : ActR h p a) : ACalls Tryz.prog 4 [.agg (actC p a).toArray] h fun u h' => u = .bool true ∧ h' = h := by
 refine ACalls.wf fun wf => ACalls.reset ?_
 refine ACalls.body Tryz.func4 rfl rfl ?_
 repeat (first | refine AL.nil ?_ | refine AWp.seq ?_ | refine AWp.r9 ?_ | refine AL.set rfl rfl (qaa rfl ?_) | refine AL.set rfl rfl (qaL rfl (by intro e; cases e) ?_))
 generalize hH : h.alloc _ = H
 have n8 : 8 ≤ H.next := by rw [← hH]; show 8 ≤ h.next + 1; omega
 have hg : H.get h.next = some ⟨actC p a, 40, true⟩ := hH ▸ Heap.alloc_new _ _
 have xh : Ext h H := hH ▸ wf.ext _
 have wfH : WF H := hH ▸ wf.alloc _
 clear hH
 have tH := t.ext xh
 have rH := r.ext xh
 have cK := qhg H tH n8
 repeat (first | refine AL.set rfl rfl (qah (sz := 33) rfl rfl hg (Nat.le_refl _) ?_))
 refine AL.set rfl rfl (qaq (evs := [.agg (actC p a).toArray, .int .i64 3000]) rfl rfl ((longA_c p a 3000 H rH).mono ?_))
 rintro _ H1 ⟨⟨b, rfl⟩, hH1⟩
 cases hH1.symm
 cases b with
 | true =>
  repeat (first | refine AL.nil ?_ | refine AWp.seq ?_ | refine AWp.r9 ?_ | refine AWp.c8 rfl ?_ | refine AWp.ret ?_ | refine AL.set rfl rfl (qaa rfl ?_) | refine AL.set rfl rfl (qab rfl rfl cK ?_))
  exact ⟨_, ResV.tmp rfl, rfl, xh, rfl, rfl⟩
 | false =>
  have cl := qf8 p a H tH rH
  have cm := rmayLine_c p a H rH
  cases hm : mayAct 5 5 a with
  | false =>
   rw [hm] at cm
   rw [show lineV a = .tuple #[str [], .int .i64 2] by unfold lineV; rw [hm]; rfl] at cl
   have c2 := qeO 2 H
   repeat (first | refine AL.nil ?_ | refine AWp.seq ?_ | refine AWp.r9 ?_ | refine AWp.c8 rfl ?_ | refine AWp.c9 rfl ?_ | refine AWp.ret ?_ | refine AWp.k9 ?_ | refine AL.set rfl rfl (qac rfl ?_) | refine AL.set rfl rfl (qag rfl ?_) | refine AL.set rfl rfl (qal rfl ?_) | refine AL.set rfl rfl (qaJ rfl ?_) | refine AL.set rfl rfl (qae rfl ?_) | refine AL.set rfl rfl (qaa rfl ?_) | refine AL.set rfl rfl (qaf rfl ?_) | refine AL.set rfl rfl (qah (sz := 33) rfl rfl hg (Nat.le_refl _) ?_) | refine AL.set rfl rfl (qab rfl rfl cl ?_) | refine AL.set rfl rfl (qat rfl rfl ?_) | refine AL.set rfl rfl (qab rfl rfl cm ?_) | refine AL.set rfl rfl (qaU (a := []) (b := []) rfl rfl rfl ?_) | refine AL.set rfl rfl (qai (v := .bool _) rfl rfl ?_) | refine AL.set rfl rfl (qab rfl rfl c2 ?_) | refine AL.set rfl rfl (qaj rfl rfl rfl (by omega) ?_) | refine AL.set rfl rfl (qab rfl rfl cK ?_) | refine AL.set rfl rfl (qaH rfl ?_))
   exact ⟨_, ResV.tmp rfl, rfl, xh, rfl, rfl⟩
  | true =>
   rw [hm] at cm
   rw [show lineV a = .tuple #[str (lineM a), .int .i64 0] by unfold lineV; rw [hm]; rfl] at cl
   have hll := lineM_len hm
   have hun : unA (lineM a) = (a, 0) := by
    unfold unA
    rw [(qbW (lineM a) a).2 ⟨hm, rfl⟩]
   repeat (first | refine AL.nil ?_ | refine AWp.seq ?_ | refine AWp.r9 ?_ | refine AWp.c9 rfl ?_ | refine AWp.k9 ?_ | refine AL.set rfl rfl (qal rfl ?_) | refine AL.set rfl rfl (qaJ rfl ?_) | refine AL.set rfl rfl (qae rfl ?_) | refine AL.set rfl rfl (qaf rfl ?_) | refine AL.set rfl rfl (qah (sz := 33) rfl rfl hg (Nat.le_refl _) ?_) | refine AL.set rfl rfl (qab rfl rfl cl ?_) | refine AL.set rfl rfl (qat rfl rfl ?_) | refine AL.set rfl rfl (qab rfl rfl cm ?_) | refine AL.set rfl rfl (qaH rfl ?_))
   have cu := (qcs (lineM a) H tH n8 (by omega)).wf_post
   rw [hun] at cu
   refine AL.set rfl rfl (qaq (evs := [str (lineM a)]) rfl rfl (cu.mono ?_))
   rintro _ K1 ⟨⟨q1, rfl, ⟨⟨B1, o1⟩, k1⟩, y1⟩, v1, m1⟩
   have e1 := qaC (o1.r k1)
   repeat (first | refine AL.set rfl rfl (qaJ rfl ?_) | refine AL.set rfl rfl (qat rfl rfl ?_) | refine AL.set rfl rfl (qas ?_))
   refine AL.eff rfl (qaF (vs := actC q1 a) rfl rfl rfl rfl e1 ?_)
   refine AL.heap (h := K1.alloc ⟨actC q1 a, 40, true⟩) rfl ?_
   have g1 := Heap.alloc_new K1 ⟨actC q1 a, 40, true⟩
   have z1 := v1.ext ⟨actC q1 a, 40, true⟩
   have n1 : 8 ≤ (K1.alloc ⟨actC q1 a, 40, true⟩).next := by show 8 ≤ K1.next + 1; omega
   have x1 := y1.trans z1
   generalize K1.alloc ⟨actC q1 a, 40, true⟩ = H1 at g1 z1 n1 x1 ⊢
   have t1 := tH.ext x1
   have r1 := rH.ext x1
   have f1 := x1.c _ _ hg
   have cL := rLine_c p a H1 t1 r1 hm
   have c0 := qeO 0 H1
   have cs := qdd q1 p a a H1 ((o1.r k1).ext z1) r1
   rw [decide_eq_true rfl] at cs
   have ck := qhg H1 t1 n1
   repeat (first | refine AL.nil ?_ | refine AWp.seq ?_ | refine AWp.r9 ?_ | refine AWp.ret ?_ | refine AL.set rfl rfl (qac rfl ?_) | refine AL.set rfl rfl (qag rfl ?_) | refine AL.set rfl rfl (qal rfl ?_) | refine AL.set rfl rfl (qae rfl ?_) | refine AL.set rfl rfl (qaa rfl ?_) | refine AL.set rfl rfl (qah (sz := 33) rfl rfl f1 (Nat.le_refl _) ?_) | refine AL.set rfl rfl (qah (sz := 33) rfl rfl g1 (Nat.le_refl _) ?_) | refine AL.set rfl rfl (qab rfl rfl cL ?_) | refine AL.set rfl rfl (qaU (a := lineM a) (b := lineM a) rfl rfl rfl ?_) | refine AL.set rfl rfl (qai (v := .bool _) rfl rfl ?_) | refine AL.set rfl rfl (qab rfl rfl c0 ?_) | refine AL.set rfl rfl (qaj rfl rfl rfl (by omega) ?_) | refine AL.set rfl rfl (qab rfl rfl cs ?_) | refine AL.set rfl rfl (qab rfl rfl ck ?_) | refine AL.set rfl rfl (qax rfl rfl (by omega) ?_))
   exact ⟨_, ResV.tmp rfl, rfl, xh.trans x1, rfl, rfl⟩
end Go.Proofs.YtigmojilaadbhaaGreatDoor

/-
 The engine: what plain arguments read avs, by the forms that contracts ask for.
-/
namespace Go.Eng
open Go

section
variable {P : Program} {h : Heap} {n : Nat} {t e : TypeId} {cs : List Value}
theorem Rd.int {k : IntKind} (hu : P.underlying t = some (.int k)) (r : Rd P h (n + 1) t cs) : ∃ a, cs = [.int k a] ∧ (Lit.int k a).wf = true := by
 unfold Rd at r
 rw [hu] at r
 exact r
theorem Rd.str (hu : P.underlying t = some .string) (r : Rd P h (n + 1) t cs) : ∃ s, cs = [.string (bstr s)] ∧ s.length ≤ reachBytes := by
 unfold Rd at r
 rw [hu] at r
 exact r
theorem Rd.bool (hu : P.underlying t = some .bool) (r : Rd P h (n + 1) t cs) : ∃ b, cs = [.bool b] := by
 unfold Rd at r
 rw [hu] at r
 exact r
theorem Rd.strc {fs : Array Field} (hu : P.underlying t = some (.struct fs)) (r : Rd P h (n + 1) t cs) : cs.length = P.cellsOf t ∧ ∀ f ∈ fs.toList, Rd P h n f.type ((cs.drop f.offset).take (P.cellsOf f.type)) := by
 unfold Rd at r
 rw [hu] at r
 exact r
theorem qhM {α : Type} {Q : Nat → α → Prop} : ∀ m : Nat, (∀ k, k < m → ∃ x, Q k x) → ∃ L : List α, L.length = m ∧ ∀ (k : Nat) x, L[k]? = some x → Q k x
 | 0, _ => ⟨[], rfl, fun k x h => by simp at h⟩
 | m + 1, p => by
  obtain ⟨L, h1, h2⟩ := qhM m fun k hk => p k (by omega)
  obtain ⟨x, hx⟩ := p m (by omega)
  refine ⟨L ++ [x], by simp [h1], fun k y hy => ?_⟩
  rw [List.getElem?_append] at hy
  split at hy
  ·
   exact h2 k y hy
  ·
   rename_i hk
   have : k = m := by
    have := (List.getElem?_eq_some_iff.1 hy).1
    simp at this
    omega
   subst this
   simp only [h1, Nat.sub_self, List.getElem?_cons_zero, Option.some.injEq] at hy
   subst hy
   exact hx
theorem Rd.rows {α : Type} {row : α → List Value} {Q : α → Prop} {c : Nat} (hu : P.underlying t = some (.slice e)) (hc : P.cellsOf e = c) (h0 : 0 < c) (r : Rd P h (n + 1) t cs) (hq : ∀ cs, Rd P h n e cs → ∃ x, cs = row x ∧ (row x).length = c ∧ Q x) :
  ∃ (v : Value) (L : List α), cs = [v] ∧ RN c h v (L.map row) ∧ (∀ x ∈ L, Q x) ∧ L.length * P.bytesOf e ≤ reachBytes := by
 unfold Rd at r
 rw [hu] at r
 subst hc
 rcases r with rfl | ⟨i, len, cap, cells, rfl, hb, hl, hg, ha⟩
 ·
  exact ⟨_, [], rfl, RN.nil _ _, by simp, by simp⟩
 ·
  obtain ⟨L, h1, h2⟩ := qhM (Q := fun k x => (cells.drop (k * P.cellsOf e)).take (P.cellsOf e) = row x ∧ (row x).length = P.cellsOf e ∧ Q x) len fun k hk => hq _ (ha k hk)
  have hflat : (L.map row).flatten = cells := by
   have : L.map row = (List.range len).map fun k => (cells.drop (k * P.cellsOf e)).take (P.cellsOf e) := by
    apply List.ext_getElem?
    intro k
    rw [List.getElem?_map, List.getElem?_map]
    by_cases hk : k < len
    ·
     have hkl : k < L.length := by omega
     rw [List.getElem?_eq_getElem hkl, List.getElem?_range hk]
     simp only [Option.map_some]
     rw [(h2 k _ (List.getElem?_eq_getElem hkl)).1]
    ·
     rw [List.getElem?_eq_none (by omega), List.getElem?_eq_none (by simp; omega)]
     rfl
   rw [this]
   exact qcE hl
  have hmem : ∀ x ∈ L, (row x).length = P.cellsOf e ∧ Q x := fun x hx => by
   obtain ⟨k, hk⟩ := List.getElem?_of_mem hx
   exact (h2 k x hk).2
  refine ⟨_, L, rfl, ⟨fun r hr => by obtain ⟨x, hx, rfl⟩ := List.mem_map.1 hr; exact (hmem x hx).1, .inr ⟨i, 0, none, cap, by rw [List.length_map, h1], .inl rfl, fun hne => ?_⟩⟩, fun x hx => (hmem x hx).2, by rw [h1]; exact hb⟩
  rw [hflat, List.length_map, h1]
  by_cases hz : cells = []
  ·
   subst hz
   have h3 : len * P.cellsOf e = 0 := by simpa using hl.symm
   rw [h3]
   have : len ≠ 0 := fun e0 => hne (by rw [List.eq_nil_of_length_eq_zero (h1.trans e0)]; rfl)
   rcases Nat.mul_eq_zero.1 h3 with h4 | h4
   ·
    exact absurd h4 this
   ·
    omega
  ·
   exact ⟨_, hg hz, by simp only [Nat.zero_add]; omega, by simp only [List.drop_zero]; rw [List.take_of_length_le (by omega)]⟩
theorem RN.rs1 {α : Type} {f : α → Value} {v : Value} {L : List α} (r : RN 1 h v (L.map fun x => [f x])) : RS h v (L.map f) := by
 have hf : ∀ L : List α, (L.map fun x => [f x]).flatten = L.map f := fun L => by
  induction L with
  | nil => rfl
  | cons x L ih => simp only [List.map_cons, List.flatten_cons, ih]; rfl
 rcases r.at_ with ⟨h1, h2⟩ | ⟨i, o, s, cap, h1, h2, h3⟩
 ·
  refine .inl ⟨h1, ?_⟩
  have : L = [] := by simpa using h2
  rw [this]; rfl
 ·
  refine .inr ⟨i, o, s, cap, by simpa using h1, h2, fun hne => ?_⟩
  obtain ⟨b, b1, b2, b3⟩ := h3 (fun e => hne (by have h6 : L = [] := (by simpa using e); rw [h6]; rfl))
  rw [hf] at b3
  exact ⟨b, b1, by simpa using b2, by simpa using b3⟩
theorem Rd.bytes (hu : P.underlying t = some (.slice e)) (hv : P.underlying e = some (.int .u8)) (hc : P.cellsOf e = 1) (hb : P.bytesOf e = 1) (r : Rd P h (n + 2) t cs) : ∃ v b, cs = [v] ∧ RB h v b ∧ b.length ≤ reachBytes := by
 obtain ⟨v, L, h1, h2, _, h4⟩ := r.rows (row := fun x : UInt8 => [.int .u8 (x.toNat : Nat)]) (Q := fun _ => True) hu hc (by decide) fun cs rc => by
  obtain ⟨a, h1, h2⟩ := rc.int hv
  have h3 : 0 ≤ a ∧ a < 256 := by
   have h4 : (decide (IntKind.u8.min ≤ a) && decide (a ≤ IntKind.u8.max)) = true := h2
   simp only [Bool.and_eq_true, decide_eq_true_iff] at h4
   have h5 : IntKind.u8.min = 0 := rfl
   have h6 : IntKind.u8.max = 255 := rfl
   omega
  exact ⟨UInt8.ofNat a.toNat, by rw [h1]; simp; omega, rfl, trivial⟩
 exact ⟨v, L, h1, h2.rs1, by rw [hb] at h4; omega⟩
theorem RdV.whole {v : Value} (hw : wholeB (P.underlying t) = true) (r : RdV P h n t v) : ∃ cs : Array Value, v = .agg cs ∧ Rd P h n t cs.toList := by
 unfold RdV at r
 rw [hw] at r
 exact r
end
end Go.Eng
