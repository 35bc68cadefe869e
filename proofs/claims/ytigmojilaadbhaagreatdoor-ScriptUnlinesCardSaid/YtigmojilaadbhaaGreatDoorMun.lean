/-
  Texts of one claim, merged: 7 parts.
-/
import Derived.Test.YtigmojilaadbhaaGreatDoorMum
import Derived.Test.YtigmojilaadbhaaGreatDoorMue
import Derived.Test.YtigmojilaadbhaaGreatDoorMuk
import Derived.Test.YtigmojilaadbhaaGreatDoorMuh
set_option maxHeartbeats 16000000
/- . -/
namespace Go.Proofs.YtigmojilaadbhaaGreatDoor
open Go Go.Eng Go.Pln Go.Lib
attribute [local irreducible] AWp AL DAL AOp TAL
instance i_anamed : FnC Tryz.prog 86 := ⟨Tryz.f86, Tryz.func86, by kernel_rfl, by kernel_rfl⟩
def namedA (a : ActM) : ActM :=
 if a.kind = 10 then { act0 with kind := a.kind, node := a.node, group := a.group, client := a.client, ask := a.ask }
 else if a.kind = 11 then { act0 with kind := a.kind, node := a.node, group := a.group, client := a.client }
 else if a.kind = 1 ∨ a.kind = 2 ∨ a.kind = 6 ∨ a.kind = 7 then { act0 with kind := a.kind, node := a.node, group := a.group }
 else if a.kind = 3 ∨ a.kind = 4 ∨ a.kind = 5 then { act0 with kind := a.kind, n := a.n }
 else if a.kind = 8 ∨ a.kind = 13 then { act0 with kind := a.kind, node := a.node }
 else if a.kind = 9 then { act0 with kind := a.kind, node := a.node, cmd := a.cmd }
 else if a.kind = 12 then { act0 with kind := a.kind, node := a.node, keep := a.keep }
 else { act0 with kind := a.kind }
theorem qaF {h : Heap} {p : ActV} {a : ActM} (r : ActR h p a) : (actC p a).all oneB = true := by
 unfold actC
 have c := r.rc
 simp only [List.all_cons, r.ra.k.one.1, r.ra.t.one.1, r.ra.v.one.1, r.ra.w.one.1, c.r.k.one.1, c.r.t.one.1, c.r.v.one.1, c.r.w.one.1, c.m.f.one.1, c.m.t.one.1, c.e.one, c.n.one.1, c.k.one.1, r.rk.one]
 rfl
theorem anamed_c (p : ActV) (a : ActM) (h : Heap) (r : ActR h p a) : ACalls Tryz.prog 86 [.agg (actC p a).toArray] h fun u h' => ∃ q, u = .agg (actC q (namedA a)).toArray ∧ ActR h' q (namedA a) ∧ Ext h h' := by
 refine ACalls.wf fun wf => ?_
 refine ACalls.body Tryz.func86 rfl rfl ?_
 repeat (first | refine W.w ?_ | refine zz rfl (qaV rfl (by intro e; cases e) ?_))
 generalize hH : h.alloc _ = H1
 have hg1 : H1.get h.next = some ⟨actC p a, 40, true⟩ := hH ▸ Heap.alloc_new _ _
 have hx1 : Ext h H1 := hH ▸ wf.ext _
 have wf1 : WF H1 := hH ▸ wf.alloc _
 have n1 : h.next < H1.next := wf1.lt hg1
 clear hH
 repeat (first | refine W.w ?_ | refine zz rfl (qaw ?_))
 generalize hH : H1.alloc _ = H2
 have g2 : H2.get H1.next = some ⟨actC actV0 act0, 40, true⟩ := hH ▸ Heap.alloc_new _ _
 have hx2 : Ext H1 H2 := hH ▸ wf1.ext _
 have wf2 : WF H2 := hH ▸ wf1.alloc _
 have n2 : H1.next < H2.next := wf2.lt g2
 have hg2 := hx2.c _ _ hg1
 clear hH
 repeat (first | refine W.w ?_ | refine AL.eff rfl (qaE (vs := actC actV0 { act0 with kind := a.kind }) rfl rfl rfl rfl rfl ?_) | (refine zz rfl ?_; first | refine qao rfl ?_ | refine qaf rfl rfl hg2 rfl ?_ | refine qax (out := actC actV0 { act0 with kind := a.kind }) rfl rfl ?_ | refine qaw ?_))
 have gl := Heap.alloc_new H2
 have hgx : ∀ b, (H2.alloc b).get h.next = some ⟨actC p a, 40, true⟩ := fun b => (wf2.ext b).c _ _ hg2
 have gj : ∀ b, (H2.alloc b).get H1.next = some ⟨actC actV0 act0, 40, true⟩ := fun b => (wf2.ext b).c _ _ g2
 have xl : ∀ b, Ext h (H2.alloc b) := fun b => hx1.trans (hx2.trans (wf2.ext b))
 have xf : ∀ b b', Ext h ((H2.alloc b).set H1.next b') := fun b b' => wf.ext_set (xl b) (Nat.le_of_lt n1) _
 have hz : ∀ h', ActR h' actV0 act0 := fun h' => ActR.nil h'
 clear hg1 hg2 g2 hx1 hx2 wf1
 by_cases k1 : a.kind = 10
 ·
  have hn : namedA a = { act0 with kind := a.kind, node := a.node, group := a.group, client := a.client, ask := a.ask } := by unfold namedA; rw [if_pos k1]
  have hq : ∀ h', Ext h h' → ActR h' { actV0 with q := p.q } { act0 with kind := a.kind, node := a.node, group := a.group, client := a.client, ask := a.ask } := fun h' x => ⟨(r.ext x).ra, (hz h').rc, (hz h').rk⟩
  repeat (first | refine AL.nil ?_ | refine AWp.seq ?_ | refine AWp.r9 ?_ | refine AWp.c8 rfl ?_ | refine AWp.exit ?_ | refine AWp.b9 ?_ | refine AL.eff rfl (qbp (vs := askC p.q a.ask) rfl rfl rfl (qaU r.ra) rfl ?_) | refine AL.eff rfl (qaD (v := .int .i64 a.client) rfl rfl rfl rfl ?_) | (refine zz rfl ?_; first | refine qaa rfl ?_ | refine qao rfl ?_ | refine qaf rfl rfl (hgx _) rfl ?_ | refine qaj (sz := 7) rfl rfl (hgx _) (Nat.le_of_ble_eq_true rfl) ?_ | refine qam rfl rfl rfl (by omega) ?_))
  refine AWp.treeJ (fun H => H.get h.next = some ⟨actC p a, 40, true⟩) (fun _ _ a b => b.c _ _ a) (t := OT.seq [(0, .P), (1, .S), (2, .P), (3, .S), (4, .P), (5, .W), (6, .P), (7, .W)] .nil) mixed (by kernel_rfl) (hgx _) ?_
  repeat (first | refine TAL.p rfl rfl rfl (fun h' hn => qao rfl ⟨rfl, rfl⟩) ?_ | refine TAL.s rfl rfl rfl (fun h' hn hx => qaf rfl rfl hx rfl ⟨rfl, rfl⟩) ?_)
  refine TAL.wj0 rfl rfl (qaD (v := .int .i64 a.node) rfl rfl rfl rfl ⟨hgx _, ?_⟩)
  repeat (first | refine TAL.p rfl rfl rfl (fun h' hn => qao rfl ⟨rfl, rfl⟩) ?_)
  refine TAL.wj0 rfl rfl (qaD (v := .int .i64 a.group) rfl rfl rfl rfl ⟨hgx _, ?_⟩)
  refine TAL.nil ?_
  repeat (first | refine AL.nil ?_ | refine AWp.seq ?_ | refine AWp.r9 ?_ | refine AWp.ret ?_ | refine AWp.exit ?_ | refine zz rfl (qaj (sz := 33) rfl rfl (gl _) (Nat.le_refl _) ?_) | refine AL.eff rfl (qan (vs := actC ({ actV0 with q := p.q }) (namedA a)) rfl (by rw [hn]; rfl) rfl (by rw [hn]; exact qaF (hq h (Ext.refl h))) (gj _) rfl ?_))
  exact ⟨_, ResV.cellA rfl rfl rfl (Heap.set_at _ _ _) (Nat.le_refl _), { actV0 with q := p.q }, rfl, by rw [hn]; exact hq _ (xf _ _), xf _ _⟩
 by_cases k2 : a.kind = 11
 ·
  have hn : namedA a = { act0 with kind := a.kind, node := a.node, group := a.group, client := a.client } := by unfold namedA; grind
  have hq : ∀ h', Ext h h' → ActR h' actV0 { act0 with kind := a.kind, node := a.node, group := a.group, client := a.client } := fun h' x => ⟨(hz h').ra, (hz h').rc, (hz h').rk⟩
  repeat (first | refine AL.nil ?_ | refine AWp.seq ?_ | refine AWp.r9 ?_ | refine AWp.c8 rfl ?_ | refine AWp.c9 rfl ?_ | refine AWp.exit ?_ | refine AWp.b9 ?_ | refine AWp.k9 ?_ | refine AL.eff rfl (qaD (v := .int .i64 a.client) rfl rfl rfl rfl ?_) | (refine zz rfl ?_; first | refine qaa rfl ?_ | refine qao rfl ?_ | refine qaf rfl rfl (hgx _) rfl ?_ | refine qam rfl rfl rfl (by omega) ?_ | refine qak rfl rfl rfl (by omega) ?_))
  refine AWp.treeJ (fun H => H.get h.next = some ⟨actC p a, 40, true⟩) (fun _ _ a b => b.c _ _ a) (t := OT.seq [(0, .P), (1, .S), (2, .P), (3, .S), (4, .P), (5, .W), (6, .P), (7, .W)] .nil) mixed (by kernel_rfl) (hgx _) ?_
  repeat (first | refine TAL.p rfl rfl rfl (fun h' hn => qao rfl ⟨rfl, rfl⟩) ?_ | refine TAL.s rfl rfl rfl (fun h' hn hx => qaf rfl rfl hx rfl ⟨rfl, rfl⟩) ?_)
  refine TAL.wj0 rfl rfl (qaD (v := .int .i64 a.node) rfl rfl rfl rfl ⟨hgx _, ?_⟩)
  repeat (first | refine TAL.p rfl rfl rfl (fun h' hn => qao rfl ⟨rfl, rfl⟩) ?_)
  refine TAL.wj0 rfl rfl (qaD (v := .int .i64 a.group) rfl rfl rfl rfl ⟨hgx _, ?_⟩)
  refine TAL.nil ?_
  repeat (first | refine AL.nil ?_ | refine AWp.seq ?_ | refine AWp.r9 ?_ | refine AWp.ret ?_ | refine AWp.exit ?_ | refine zz rfl (qaj (sz := 33) rfl rfl (gl _) (Nat.le_refl _) ?_) | refine AL.eff rfl (qan (vs := actC (actV0) (namedA a)) rfl (by rw [hn]; rfl) rfl (by rw [hn]; exact qaF (hq h (Ext.refl h))) (gj _) rfl ?_))
  exact ⟨_, ResV.cellA rfl rfl rfl (Heap.set_at _ _ _) (Nat.le_refl _), actV0, rfl, by rw [hn]; exact hq _ (xf _ _), xf _ _⟩
 by_cases k3 : a.kind = 1 ∨ a.kind = 2 ∨ a.kind = 6 ∨ a.kind = 7
 ·
  have hn : namedA a = { act0 with kind := a.kind, node := a.node, group := a.group } := by unfold namedA; grind
  have hq : ∀ h', Ext h h' → ActR h' actV0 { act0 with kind := a.kind, node := a.node, group := a.group } := fun h' x => ⟨(hz h').ra, (hz h').rc, (hz h').rk⟩
  rcases k3 with k | k | k | k <;>
  ·
   repeat (first | refine AL.nil ?_ | refine AWp.seq ?_ | refine AWp.r9 ?_ | refine AWp.c8 rfl ?_ | refine AWp.c9 rfl ?_ | refine AWp.exit ?_ | refine AWp.b9 ?_ | refine AWp.k9 ?_ | (refine zz rfl ?_; first | refine qaa rfl ?_ | refine qaf rfl rfl (hgx _) rfl ?_ | refine qam rfl rfl rfl (by omega) ?_ | refine qak rfl rfl rfl (by omega) ?_))
   refine AWp.treeJ (fun H => H.get h.next = some ⟨actC p a, 40, true⟩) (fun _ _ a b => b.c _ _ a) (t := OT.seq [(0, .P), (1, .S), (2, .P), (3, .S), (4, .P), (5, .W), (6, .P), (7, .W)] .nil) mixed (by kernel_rfl) (hgx _) ?_
   repeat (first | refine TAL.p rfl rfl rfl (fun h' hn => qao rfl ⟨rfl, rfl⟩) ?_ | refine TAL.s rfl rfl rfl (fun h' hn hx => qaf rfl rfl hx rfl ⟨rfl, rfl⟩) ?_)
   refine TAL.wj0 rfl rfl (qaD (v := .int .i64 a.node) rfl rfl rfl rfl ⟨hgx _, ?_⟩)
   repeat (first | refine TAL.p rfl rfl rfl (fun h' hn => qao rfl ⟨rfl, rfl⟩) ?_)
   refine TAL.wj0 rfl rfl (qaD (v := .int .i64 a.group) rfl rfl rfl rfl ⟨hgx _, ?_⟩)
   refine TAL.nil ?_
   repeat (first | refine AL.nil ?_ | refine AWp.seq ?_ | refine AWp.r9 ?_ | refine AWp.ret ?_ | refine AWp.exit ?_ | refine zz rfl (qaj (sz := 33) rfl rfl (gl _) (Nat.le_refl _) ?_) | refine AL.eff rfl (qan (vs := actC (actV0) (namedA a)) rfl (by rw [hn]; rfl) rfl (by rw [hn]; exact qaF (hq h (Ext.refl h))) (gj _) rfl ?_))
   exact ⟨_, ResV.cellA rfl rfl rfl (Heap.set_at _ _ _) (Nat.le_refl _), actV0, rfl, by rw [hn]; exact hq _ (xf _ _), xf _ _⟩
 by_cases k4 : a.kind = 3 ∨ a.kind = 4 ∨ a.kind = 5
 ·
  have hn : namedA a = { act0 with kind := a.kind, n := a.n } := by unfold namedA; grind
  have hq : ∀ h', Ext h h' → ActR h' actV0 { act0 with kind := a.kind, n := a.n } := fun h' x => ⟨(hz h').ra, (hz h').rc, (hz h').rk⟩
  rcases k4 with k | k | k <;>
  ·
   repeat (first | refine AL.nil ?_ | refine AWp.seq ?_ | refine AWp.r9 ?_ | refine AWp.c8 rfl ?_ | refine AWp.c9 rfl ?_ | refine AWp.exit ?_ | refine AWp.b9 ?_ | refine AWp.k9 ?_ | refine AL.eff rfl (qaD (v := .int .i64 a.n) rfl rfl rfl rfl ?_) | (refine zz rfl ?_; first | refine qaa rfl ?_ | refine qao rfl ?_ | refine qaf rfl rfl (hgx _) rfl ?_ | refine qaj (sz := 33) rfl rfl (gl _) (Nat.le_refl _) ?_ | refine qam rfl rfl rfl (by omega) ?_ | refine qak rfl rfl rfl (by omega) ?_))
   repeat (first | refine W.w ?_ | refine AL.eff rfl (qan (vs := actC (actV0) (namedA a)) rfl (by rw [hn]; rfl) rfl (by rw [hn]; exact qaF (hq h (Ext.refl h))) (gj _) rfl ?_))
   exact ⟨_, ResV.cellA rfl rfl rfl (Heap.set_at _ _ _) (Nat.le_refl _), actV0, rfl, by rw [hn]; exact hq _ (xf _ _), xf _ _⟩
 by_cases k5 : a.kind = 8 ∨ a.kind = 13
 ·
  have hn : namedA a = { act0 with kind := a.kind, node := a.node } := by unfold namedA; grind
  have hq : ∀ h', Ext h h' → ActR h' actV0 { act0 with kind := a.kind, node := a.node } := fun h' x => ⟨(hz h').ra, (hz h').rc, (hz h').rk⟩
  rcases k5 with k | k <;>
  ·
   repeat (first | refine AL.nil ?_ | refine AWp.seq ?_ | refine AWp.r9 ?_ | refine AWp.c8 rfl ?_ | refine AWp.c9 rfl ?_ | refine AWp.exit ?_ | refine AWp.b9 ?_ | refine AWp.k9 ?_ | refine AL.eff rfl (qaD (v := .int .i64 a.node) rfl rfl rfl rfl ?_) | (refine zz rfl ?_; first | refine qaa rfl ?_ | refine qao rfl ?_ | refine qaf rfl rfl (hgx _) rfl ?_ | refine qaj (sz := 33) rfl rfl (gl _) (Nat.le_refl _) ?_ | refine qam rfl rfl rfl (by omega) ?_ | refine qak rfl rfl rfl (by omega) ?_))
   repeat (first | refine W.w ?_ | refine AL.eff rfl (qan (vs := actC (actV0) (namedA a)) rfl (by rw [hn]; rfl) rfl (by rw [hn]; exact qaF (hq h (Ext.refl h))) (gj _) rfl ?_))
   exact ⟨_, ResV.cellA rfl rfl rfl (Heap.set_at _ _ _) (Nat.le_refl _), actV0, rfl, by rw [hn]; exact hq _ (xf _ _), xf _ _⟩
 by_cases k6 : a.kind = 9
 ·
  have hn : namedA a = { act0 with kind := a.kind, node := a.node, cmd := a.cmd } := by unfold namedA; grind
  have hq : ∀ h', Ext h h' → ActR h' { actV0 with c := p.c } { act0 with kind := a.kind, node := a.node, cmd := a.cmd } := fun h' x => ⟨(hz h').ra, (r.ext x).rc, (hz h').rk⟩
  repeat (first | refine AL.nil ?_ | refine AWp.seq ?_ | refine AWp.r9 ?_ | refine AWp.c8 rfl ?_ | refine AWp.c9 rfl ?_ | refine AWp.exit ?_ | refine AWp.b9 ?_ | refine AWp.k9 ?_ | (refine zz rfl ?_; first | refine qaa rfl ?_ | refine qaf rfl rfl (hgx _) rfl ?_ | refine qam rfl rfl rfl (by omega) ?_ | refine qak rfl rfl rfl (by omega) ?_))
  refine AWp.treeJ (fun H => H.get h.next = some ⟨actC p a, 40, true⟩) (fun _ _ a b => b.c _ _ a) (t := OT.seq [(0, .P), (1, .S), (2, .P), (3, .S), (4, .P), (5, .W), (6, .P), (7, .W)] .nil) mixed (by kernel_rfl) (hgx _) ?_
  repeat (first | refine TAL.p rfl rfl rfl (fun h' hn => qao rfl ⟨rfl, rfl⟩) ?_ | refine TAL.s rfl rfl rfl (fun h' hn hx => qaf rfl rfl hx rfl ⟨rfl, rfl⟩) ?_ | refine TAL.s rfl rfl rfl (fun h' hn hx => qaj (sz := 20) rfl rfl hx (Nat.le_of_ble_eq_true rfl) ⟨rfl, rfl⟩) ?_)
  refine TAL.wj0 rfl rfl (qaD (v := .int .i64 a.node) rfl rfl rfl rfl ⟨hgx _, ?_⟩)
  repeat (first | refine TAL.p rfl rfl rfl (fun h' hn => qao rfl ⟨rfl, rfl⟩) ?_)
  refine TAL.wj0 rfl rfl (qbp (vs := cmdC p.c a.cmd) rfl rfl rfl (qa5 r.rc) rfl ⟨hgx _, ?_⟩)
  refine TAL.nil ?_
  repeat (first | refine AL.nil ?_ | refine AWp.seq ?_ | refine AWp.r9 ?_ | refine AWp.ret ?_ | refine AWp.exit ?_ | refine zz rfl (qaj (sz := 33) rfl rfl (gl _) (Nat.le_refl _) ?_) | refine AL.eff rfl (qan (vs := actC ({ actV0 with c := p.c }) (namedA a)) rfl (by rw [hn]; rfl) rfl (by rw [hn]; exact qaF (hq h (Ext.refl h))) (gj _) rfl ?_))
  exact ⟨_, ResV.cellA rfl rfl rfl (Heap.set_at _ _ _) (Nat.le_refl _), { actV0 with c := p.c }, rfl, by rw [hn]; exact hq _ (xf _ _), xf _ _⟩
 by_cases k7 : a.kind = 12
 ·
  have hn : namedA a = { act0 with kind := a.kind, node := a.node, keep := a.keep } := by unfold namedA; grind
  have hq : ∀ h', Ext h h' → ActR h' { actV0 with k := p.k } { act0 with kind := a.kind, node := a.node, keep := a.keep } := fun h' x => ⟨(hz h').ra, (hz h').rc, (r.ext x).rk⟩
  repeat (first | refine AL.nil ?_ | refine AWp.seq ?_ | refine AWp.r9 ?_ | refine AWp.c8 rfl ?_ | refine AWp.c9 rfl ?_ | refine AWp.exit ?_ | refine AWp.b9 ?_ | refine AWp.k9 ?_ | (refine zz rfl ?_; first | refine qaa rfl ?_ | refine qaf rfl rfl (hgx _) rfl ?_ | refine qam rfl rfl rfl (by omega) ?_ | refine qak rfl rfl rfl (by omega) ?_))
  refine AWp.treeJ (fun H => H.get h.next = some ⟨actC p a, 40, true⟩) (fun _ _ a b => b.c _ _ a) (t := OT.seq [(0, .P), (1, .S), (2, .P), (3, .S), (4, .P), (5, .W), (6, .P), (7, .W)] .nil) mixed (by kernel_rfl) (hgx _) ?_
  repeat (first | refine TAL.p rfl rfl rfl (fun h' hn => qao rfl ⟨rfl, rfl⟩) ?_ | refine TAL.s rfl rfl rfl (fun h' hn hx => qaf rfl rfl hx rfl ⟨rfl, rfl⟩) ?_)
  refine TAL.wj0 rfl rfl (qaD (v := .int .i64 a.node) rfl rfl rfl rfl ⟨hgx _, ?_⟩)
  repeat (first | refine TAL.p rfl rfl rfl (fun h' hn => qao rfl ⟨rfl, rfl⟩) ?_)
  refine TAL.wj0 rfl rfl (qaD (v := p.k) rfl rfl r.rk.one rfl ⟨hgx _, ?_⟩)
  refine TAL.nil ?_
  repeat (first | refine AL.nil ?_ | refine AWp.seq ?_ | refine AWp.r9 ?_ | refine AWp.ret ?_ | refine AWp.exit ?_ | refine zz rfl (qaj (sz := 33) rfl rfl (gl _) (Nat.le_refl _) ?_) | refine AL.eff rfl (qan (vs := actC ({ actV0 with k := p.k }) (namedA a)) rfl (by rw [hn]; rfl) rfl (by rw [hn]; exact qaF (hq h (Ext.refl h))) (gj _) rfl ?_))
  exact ⟨_, ResV.cellA rfl rfl rfl (Heap.set_at _ _ _) (Nat.le_refl _), { actV0 with k := p.k }, rfl, by rw [hn]; exact hq _ (xf _ _), xf _ _⟩
 ·
  have hn : namedA a = { act0 with kind := a.kind } := by unfold namedA; grind
  have hq : ∀ h', Ext h h' → ActR h' actV0 { act0 with kind := a.kind } := fun h' x => ⟨(hz h').ra, (hz h').rc, (hz h').rk⟩
  repeat (first | refine AL.nil ?_ | refine AWp.seq ?_ | refine AWp.r9 ?_ | refine AWp.c9 rfl ?_ | refine AWp.exit ?_ | refine AWp.b9 ?_ | refine AWp.k9 ?_ | (refine zz rfl ?_; first | refine qaa rfl ?_ | refine qaf rfl rfl (hgx _) rfl ?_ | refine qaj (sz := 33) rfl rfl (gl _) (Nat.le_refl _) ?_ | refine qak rfl rfl rfl (by omega) ?_))
  repeat (first | refine W.w ?_ | refine AL.eff rfl (qan (vs := actC (actV0) (namedA a)) rfl (by rw [hn]; rfl) rfl (by rw [hn]; exact qaF (hq h (Ext.refl h))) (gj _) rfl ?_))
  exact ⟨_, ResV.cellA rfl rfl rfl (Heap.set_at _ _ _) (Nat.le_refl _), actV0, rfl, by rw [hn]; exact hq _ (xf _ _), xf _ _⟩
end Go.Proofs.YtigmojilaadbhaaGreatDoor
/- . -/
namespace Go.Eng
open Go
open Go.ChangeMaps (setBlock)
section
variable {P : Program} {ρ : Operand → Value} {h : Heap} {K : Value → Heap → Prop} {dst : Option Tmp} {ty : TypeId} {pos : String} {aft : Array Edge} {g : Option (Nat × Bool)}
theorem qbE {t kt et : TypeId} {x y v : Operand} {i clock : Nat} {u : Value} {s : List UInt8} {l : KV} [td : TyD P t (.map kt et)] [tk : TyD P kt .string] (hx : ρ x = .map (some i)) (hy : ρ y = .string (bstr s)) (hv : ρ v = u) (hi : h.obj i = some (.map (ents l) clock))
  (kk : K undef (h.setO i (.map (ents (putS l s u clock)) (if hasS l s then clock else clock + 1)))) : AOp P ⟨dst, .insert t x y v, ty, pos, aft, g⟩ ρ h K :=
 .of_skip fun φ ac w r => by
  obtain ⟨_, e1⟩ := (hx ▸ r.ev x (by simp [Op.operands])).map_inv
  have e2 := (hy ▸ r.ev y (by simp [Op.operands])).string_inv
  have hvr := hv ▸ r.ev v (by simp [Op.operands])
  obtain ⟨cs, q1, q2⟩ := mapOf r.sim hi
  have hlow := r.sim.lowO hi
  rcases qcq (s := s) q2 0 with ⟨h1, h2, h3, h4, h5⟩ | ⟨j, u', cv, h1, h2, h3, h4, h6, ⟨d, d1, d2⟩, h7, h8⟩
  ·
   rw [h5, h3] at kk
   obtain ⟨s1, s2⟩ := r.sim.setO hi (o' := .map (ents (l ++ [(s, u, clock)])) (clock + 1)) (.map (cs.push { key := .string (bstr s), val := ac.eval v, born := clock }) (clock + 1)) (w' := setBlock w (φ i).b (.map (cs.push { key := .string (bstr s), val := ac.eval v, born := clock }) (clock + 1)))
    (qbj hlow) (by simp [setBlock]) rfl rfl rfl (ORel.ofMap (cs := cs.push { key := .string (bstr s), val := ac.eval v, born := clock }) (by rw [qbj hlow, if_pos rfl]) (by rw [Array.toList_push]; exact q2.push hvr))
   refine ⟨_, φ, _, ?_, kk, s1, s2⟩
   have hrun : (Instr.mapUpdate t (.map (some (φ i).b)) (.string (bstr s)) (ac.eval v)).run P w = .ok () (setBlock w (φ i).b (.map (cs.push { key := .string (bstr s), val := ac.eval v, born := clock }) (clock + 1))) := by
    simp [Instr.mapUpdate, td.run, qbH q1, qbt, qby _ _ _ h1, qch q1 (fun _ _ _ => by simp)]
   simp [execOp, e1, e2, hrun]
  ·
   rw [h4] at kk
   simp only [if_true] at kk
   have hcsj : cs[j]? = some d := by simpa using d1
   obtain ⟨s1, s2⟩ := r.sim.setO hi (o' := .map (ents (putS l s u clock)) clock) (.map (cs.modify j fun e => { e with key := .string (bstr s), val := ac.eval v }) clock) (w' := setBlock w (φ i).b (.map (cs.modify j fun e => { e with key := .string (bstr s), val := ac.eval v }) clock))
    (qbj hlow) (by simp [setBlock]) rfl rfl rfl (ORel.ofMap (cs := cs.modify j fun e => { e with key := .string (bstr s), val := ac.eval v }) (by rw [qbj hlow, if_pos rfl]) (by rw [Array.toList_modify]; exact h8 u _ clock hvr))
   refine ⟨_, φ, _, ?_, kk, s1, s2⟩
   have hkey : (Instr.keyThatStays (.string (bstr s)) (.string (bstr s))).run P w = .ok (.string (bstr s)) w := by simp [Instr.keyThatStays, Instr.sameBits, qdB]
   have hrun : (Instr.mapUpdate t (.map (some (φ i).b)) (.string (bstr s)) (ac.eval v)).run P w = .ok () (setBlock w (φ i).b (.map (cs.modify j fun e => { e with key := .string (bstr s), val := ac.eval v }) clock)) := by
    simp [Instr.mapUpdate, td.run, qbH q1, qbt, qby _ _ _ h1, qch q1 (fun _ _ _ => by simp), hcsj, d2, hkey]
   simp [execOp, e1, e2, hrun]
theorem qa9 {t t' : TypeId} {ps rs : Array TypeId} {vr : Bool} {x y : Operand} {fn : Fn} {f c : Array Value} [ti : TyD P t (.func ps rs vr)] (hx : ρ x = .func fn f c) (hy : ρ y = .nilFunc) (kk : K (.bool true) h) : AOp P ⟨dst, .binOp .neq t x y t', ty, pos, aft, g⟩ ρ h K :=
 .of_pure kk fun φ ac w r => by
  obtain ⟨f', c', e1, _⟩ := (hx ▸ r.ev x (by simp [Op.operands])).func_inv
  have e2 := (hy ▸ r.ev y (by simp [Op.operands])).nilFunc_inv
  have e3 : (Op.equal t (.func fn f' c') .nilFunc).run P w = .ok false w := qcF fn f' c' w 9999
  exact ⟨.bool true, by simp [execOp, e1, e2, eqGuard, binOp, e3], .bool _⟩
theorem qcQ {t : TypeId} {ps rs : Array TypeId} {vr : Bool} [ti : TyD P t (.func ps rs vr)] (w : World) (d : Nat) : (Op.equalIn (d + 1) t .nilFunc .nilFunc).run P w = .ok true w := by
 simp [Op.equalIn, ti.run]
theorem qcY {t t' : TypeId} {ps rs : Array TypeId} {vr : Bool} {x y : Operand} [ti : TyD P t (.func ps rs vr)] (hx : ρ x = .nilFunc) (hy : ρ y = .nilFunc) (kk : K (.bool false) h) : AOp P ⟨dst, .binOp .neq t x y t', ty, pos, aft, g⟩ ρ h K :=
 .of_pure kk fun φ ac w r => by
  have e1 := (hx ▸ r.ev x (by simp [Op.operands])).nilFunc_inv
  have e2 := (hy ▸ r.ev y (by simp [Op.operands])).nilFunc_inv
  have e3 : (Op.equal t .nilFunc .nilFunc).run P w = .ok true w := qcQ w 9999
  exact ⟨.bool false, by simp [execOp, e1, e2, eqGuard, binOp, e3], .bool _⟩
end
end Go.Eng
/- . -/
namespace Go.Proofs.YtigmojilaadbhaaGreatDoor
open Go Go.Eng Go.Pln Go.Lib
attribute [local irreducible] AWp AL DAL AOp TAL
instance i_plan1 : FnC Tryz.prog 130 := ⟨Tryz.f130, Tryz.func130, by kernel_rfl, by kernel_rfl⟩
instance i_plan2 : FnC Tryz.prog 132 := ⟨Tryz.f132, Tryz.func132, by kernel_rfl, by kernel_rfl⟩
instance i_plan3 : FnC Tryz.prog 133 := ⟨Tryz.f133, Tryz.func133, by kernel_rfl, by kernel_rfl⟩
instance i_ask1 : FnC Tryz.prog 134 := ⟨Tryz.f134, Tryz.func134, by kernel_rfl, by kernel_rfl⟩
instance i_ask2 : FnC Tryz.prog 135 := ⟨Tryz.f135, Tryz.func135, by kernel_rfl, by kernel_rfl⟩
instance i_ask3 : FnC Tryz.prog 136 := ⟨Tryz.f136, Tryz.func136, by kernel_rfl, by kernel_rfl⟩
instance i_ask4 : FnC Tryz.prog 137 := ⟨Tryz.f137, Tryz.func137, by kernel_rfl, by kernel_rfl⟩
instance i_ask5 : FnC Tryz.prog 138 := ⟨Tryz.f138, Tryz.func138, by kernel_rfl, by kernel_rfl⟩
instance i_ask6 : FnC Tryz.prog 139 := ⟨Tryz.f139, Tryz.func139, by kernel_rfl, by kernel_rfl⟩
instance i_rnum : FnC Tryz.prog 97 := ⟨Tryz.f97, Tryz.func97, by kernel_rfl, by kernel_rfl⟩
instance qgr : TyD Tryz.prog 87 (.pointer 89) := ⟨Tryz.underlying87⟩
instance qgm : TyI Tryz.prog 87 1 8 (.pointer none) := ⟨qaT (by kernel_rfl), rfl, rfl⟩
structure Rdr (h0 : Heap) (i : Nat) (s : Bytes) (h : Heap) : Prop where
 ext : Ext (h0.set i (rdB s)) h
 wf : WF h
 wf0 : WF h0
 lt : i < h0.next
 ge : 8 ≤ i
 nx : h0.next ≤ h.next
 tab : Tabs h0
theorem Rdr.box {h0 h : Heap} {i : Nat} {s : Bytes} (r : Rdr h0 i s h) : h.get i = some (rdB s) := r.ext.c _ _ (Heap.set_at _ _ _)
theorem Rdr.tabs {h0 h : Heap} {i : Nat} {s : Bytes} (r : Rdr h0 i s h) : Tabs h := (r.tab.set r.ge).ext r.ext
theorem ext_over {a b c : Heap} {i : Nat} {x y : Blk} (h1 : Ext (a.set i x) b) (h2 : Ext (b.set i y) c) : Ext (a.set i y) c := by
 refine ⟨fun j z hj => h2.c j z ?_, fun j z hj => h2.o j z (h1.o j z hj)⟩
 by_cases e : j = i
 ·
  subst e
  rw [Heap.set_at] at hj ⊢
  exact hj
 ·
  rw [Heap.set_other e] at hj ⊢
  exact h1.c j z (by rw [Heap.set_other e]; exact hj)
theorem Rdr.next {h0 h h' : Heap} {i : Nat} {s s' : Bytes} (r : Rdr h0 i s h) (hx : Ext (h.set i (rdB s')) h') (wf : WF h') (hn : h.next ≤ h'.next) : Rdr h0 i s' h' := ⟨ext_over r.ext hx, wf, r.wf0, r.lt, r.ge, Nat.le_trans r.nx hn, r.tab⟩
theorem Rdr.grow {h0 h h' : Heap} {i : Nat} {s : Bytes} (r : Rdr h0 i s h) (hx : Ext h h') (wf : WF h') (hn : h.next ≤ h'.next) : Rdr h0 i s h' := ⟨r.ext.trans hx, wf, r.wf0, r.lt, r.ge, Nat.le_trans r.nx hn, r.tab⟩
theorem Rdr.set {h0 h : Heap} {i : Nat} {s : Bytes} (r : Rdr h0 i s h) (s' : Bytes) : Rdr h0 i s' (h.set i (rdB s')) := r.next (Ext.refl _) (r.wf.set (r.wf.lt r.box) _) (Nat.le_refl _)
theorem Rdr.put {h0 h : Heap} {i j : Nat} {s : Bytes} (r : Rdr h0 i s h) (hj : h0.next ≤ j) (hl : j < h.next) (b : Blk) : Rdr h0 i s (h.set j b) := by
 refine ⟨(WF.set r.wf0 r.lt _).ext_set r.ext (by exact hj) b, r.wf.set hl b, r.wf0, r.lt, r.ge, r.nx, r.tab⟩
theorem OS.over {B : Nat} {h h' : Heap} {e : TypeId} {u : Value} {vs : List Value} {i : Nat} {b : Blk} (o : OS B h e u vs) (hi : i < B) (hx : Ext (h.set i b) h') : OS B h' e u vs := by
 rcases o with ⟨rfl, rfl⟩ | ⟨j, c, h1, rfl, h2⟩
 ·
  exact .inl ⟨rfl, rfl⟩
 ·
  exact .inr ⟨j, c, h1, rfl, hx.c _ _ ((Heap.set_other (by omega)).trans h2)⟩
theorem OS.put {B : Nat} {h : Heap} {e : TypeId} {u : Value} {vs : List Value} {i : Nat} {x : Blk} (o : OS B h e u vs) (hb : h.get i = some x) (hx : x.elem ≠ e) (b : Blk) : OS B (h.set i b) e u vs := by
 rcases o with ⟨rfl, rfl⟩ | ⟨j, c, h1, rfl, h2⟩
 ·
  exact .inl ⟨rfl, rfl⟩
 ·
  refine .inr ⟨j, c, h1, rfl, (Heap.set_other fun e2 => ?_).trans h2⟩
  subst e2
  rw [hb] at h2
  cases h2
  exact hx rfl
theorem qbA {h0 h : Heap} {i : Nat} {s : Bytes} (r : Rdr h0 i s h) (hl : s.length ≤ 1000000000) : ACalls Tryz.prog 131 [ptr i] h fun u h' => OS h.next h' 5 u (bv (rawS s).1) ∧ Ext (h.set i (rdB (rawS s).2)) h' ∧ Rdr h0 i (rawS s).2 h' ∧ h.next ≤ h'.next := by
 refine (raw_c i s h r.box hl r.tabs r.ge).wf_post.mono ?_
 rintro u h' ⟨⟨a, b⟩, c, d⟩
 exact ⟨a, b, r.next b c d, d⟩
theorem qbl {h0 h : Heap} {i : Nat} {s : Bytes} (r : Rdr h0 i s h) (hl : s.length ≤ 1000000000) : ACalls Tryz.prog 97 [ptr i] h fun u h' => u = .int .i64 (numS s).1 ∧ h' = h.set i (rdB (numS s).2) := num_c i s h r.box hl r.tabs r.ge
theorem qaW (s : Bytes) : (rawS s).2.length ≤ s.length := (qbw s).2
theorem qcf (s : Bytes) : (numS s).2.length ≤ s.length := (qbw s).2
abbrev pB (i : Nat) : Blk := ⟨[ptr i], 87, true⟩
theorem OS.low {B B' : Nat} {h : Heap} {e : TypeId} {u : Value} {vs : List Value} (o : OS B h e u vs) (hb : B' ≤ B) : OS B' h e u vs := o.imp id fun ⟨j, c, h1, h2, h3⟩ => ⟨j, c, Nat.le_trans hb h1, h2, h3⟩
structure AskO (B : Nat) (h : Heap) (q : AskV) (a : AskM) : Prop where
 k : OS B h 5 q.k (bv a.key)
 t : OS B h 5 q.t (bv a.to)
 v : OS B h 5 q.v (bv a.value)
 w : OS B h 5 q.w (bv a.was)
structure CmdO (B : Nat) (h : Heap) (q : CmdV) (c : CmdM) : Prop where
 hq : q = { cmdV0 with k := q.k }
 hk : OS B h 5 q.k (bv c.key)
 hc : c = { cmd0 with kind := c.kind, key := c.key, group := c.group }
theorem cmdR_k {h : Heap} {u : Value} {c : CmdM} (hc : c = { cmd0 with kind := c.kind, key := c.key, group := c.group }) (hk : RB h u c.key) : CmdR h { cmdV0 with k := u } c := by
 rw [hc]
 exact ⟨(CmdR.nil h).r, (CmdR.nil h).m, RE.nil h, RB.nil h, hk⟩
theorem cmdO {u : Value} {c : CmdM} (h : oneB u = true) : (cmdC { cmdV0 with k := u } c).all oneB = true := by
 unfold cmdC
 simp only [List.all_cons, h]
 rfl
theorem plan1_c {h0 h : Heap} {i b : Nat} {s : Bytes} (r : Rdr h0 i s h) (hb : h.get b = some (pB i)) (_hib : b ≠ i) (hl : s.length ≤ 1000000000) : ACalls Tryz.prog 130 [ptr b] h fun u h' => ∃ q s', u = .agg (cmdC q { cmd0 with kind := 6, key := (rawS s).1 }).toArray ∧ CmdO h0.next h' q { cmd0 with kind := 6, key := (rawS s).1 } ∧ Rdr h0 i s' h' := by
 refine ACalls.body Tryz.func130 rfl rfl ?_
 repeat (first | refine W.w ?_ | refine zz rfl (qaw ?_))
 refine AL.heap (h := h.alloc ⟨cmdC cmdV0 cmd0, 37, true⟩) rfl ?_
 have hne : h.next ≠ i := fun e => by have := r.lt; have := r.nx; omega
 have hbj : b ≠ h.next := Nat.ne_of_lt (r.wf.lt hb)
 have g1 := Heap.alloc_new h ⟨cmdC cmdV0 cmd0, 37, true⟩
 have x1 := r.wf.ext ⟨cmdC cmdV0 cmd0, 37, true⟩
 have w1 := r.wf.alloc ⟨cmdC cmdV0 cmd0, 37, true⟩
 have r1 := r.grow x1 w1 (Nat.le_succ _)
 have b1 := x1.c _ _ hb
 generalize h.alloc ⟨cmdC cmdV0 cmd0, 37, true⟩ = H1 at g1 x1 w1 r1 b1 ⊢
 have hi := r.lt
 have hj := r.nx
 have l1 := qaW s
 have l2 := qaW (rawS s).2
 have l3 := qaW (rawS (rawS s).2).2
 have k1 : h.next < H1.next := w1.lt g1
 repeat (first | refine zz rfl (qaf rfl rfl b1 rfl ?_))
 refine zz rfl (qar (evs := [ptr i]) rfl rfl ((qbA r1 (by omega)).mono ?_))
 rintro u2 H2 ⟨o2, x2, r2, n2⟩
 obtain ⟨a2, c2, hu2⟩ := RS.slice (OS.rs o2)
 have g2 := x2.c _ _ ((Heap.set_other hne).trans g1)
 repeat (first | refine W.w ?_ | refine zz rfl (qax (out := cmdC { cmdV0 with k := u2 } { cmd0 with kind := 6, key := (rawS s).1 }) (by rw [hu2]; rfl) (by rw [hu2]; rfl) ?_) | refine AL.eff rfl (qan (vs := cmdC { cmdV0 with k := u2 } { cmd0 with kind := 6, key := (rawS s).1 }) rfl rfl rfl (cmdO (OS.rs o2).one.1) g2 rfl ?_))
 exact ⟨_, ResV.cellA rfl rfl rfl (Heap.set_at _ _ _) (Nat.le_refl _), { cmdV0 with k := u2 }, _, rfl, ⟨rfl, OS.low (OS.put o2 g2 (Nat.ne_of_beq_eq_false rfl) _) (by omega), rfl⟩, r2.put hj (by omega) _⟩
theorem plan2_c {h0 h : Heap} {i b : Nat} {s : Bytes} (r : Rdr h0 i s h) (hb : h.get b = some (pB i)) (_hib : b ≠ i) (hl : s.length ≤ 1000000000) : ACalls Tryz.prog 132 [ptr b] h fun u h' => ∃ q s', u = .agg (cmdC q { cmd0 with kind := 7, key := (rawS s).1 }).toArray ∧ CmdO h0.next h' q { cmd0 with kind := 7, key := (rawS s).1 } ∧ Rdr h0 i s' h' := by
 refine ACalls.body Tryz.func132 rfl rfl ?_
 repeat (first | refine W.w ?_ | refine zz rfl (qaw ?_))
 refine AL.heap (h := h.alloc ⟨cmdC cmdV0 cmd0, 37, true⟩) rfl ?_
 have hne : h.next ≠ i := fun e => by have := r.lt; have := r.nx; omega
 have hbj : b ≠ h.next := Nat.ne_of_lt (r.wf.lt hb)
 have g1 := Heap.alloc_new h ⟨cmdC cmdV0 cmd0, 37, true⟩
 have x1 := r.wf.ext ⟨cmdC cmdV0 cmd0, 37, true⟩
 have w1 := r.wf.alloc ⟨cmdC cmdV0 cmd0, 37, true⟩
 have r1 := r.grow x1 w1 (Nat.le_succ _)
 have b1 := x1.c _ _ hb
 generalize h.alloc ⟨cmdC cmdV0 cmd0, 37, true⟩ = H1 at g1 x1 w1 r1 b1 ⊢
 have hi := r.lt
 have hj := r.nx
 have l1 := qaW s
 have l2 := qaW (rawS s).2
 have l3 := qaW (rawS (rawS s).2).2
 have k1 : h.next < H1.next := w1.lt g1
 repeat (first | refine zz rfl (qaf rfl rfl b1 rfl ?_))
 refine zz rfl (qar (evs := [ptr i]) rfl rfl ((qbA r1 (by omega)).mono ?_))
 rintro u2 H2 ⟨o2, x2, r2, n2⟩
 obtain ⟨a2, c2, hu2⟩ := RS.slice (OS.rs o2)
 have g2 := x2.c _ _ ((Heap.set_other hne).trans g1)
 repeat (first | refine W.w ?_ | refine zz rfl (qax (out := cmdC { cmdV0 with k := u2 } { cmd0 with kind := 7, key := (rawS s).1 }) (by rw [hu2]; rfl) (by rw [hu2]; rfl) ?_) | refine AL.eff rfl (qan (vs := cmdC { cmdV0 with k := u2 } { cmd0 with kind := 7, key := (rawS s).1 }) rfl rfl rfl (cmdO (OS.rs o2).one.1) g2 rfl ?_))
 exact ⟨_, ResV.cellA rfl rfl rfl (Heap.set_at _ _ _) (Nat.le_refl _), { cmdV0 with k := u2 }, _, rfl, ⟨rfl, OS.low (OS.put o2 g2 (Nat.ne_of_beq_eq_false rfl) _) (by omega), rfl⟩, r2.put hj (by omega) _⟩
theorem plan3_c {h0 h : Heap} {i b : Nat} {s : Bytes} (r : Rdr h0 i s h) (hb : h.get b = some (pB i)) (hib : b ≠ i) (hl : s.length ≤ 1000000000) : ACalls Tryz.prog 133 [ptr b] h fun u h' => ∃ q s', u = .agg (cmdC q { cmd0 with kind := 8, key := (rawS s).1, group := (numS (rawS s).2).1 }).toArray ∧ CmdO h0.next h' q { cmd0 with kind := 8, key := (rawS s).1, group := (numS (rawS s).2).1 } ∧ Rdr h0 i s' h' := by
 refine ACalls.body Tryz.func133 rfl rfl ?_
 repeat (first | refine W.w ?_ | refine zz rfl (qaw ?_))
 refine AWp.heap (h := h.alloc ⟨cmdC cmdV0 cmd0, 37, true⟩) rfl ?_
 have hne : h.next ≠ i := fun e => by have := r.lt; have := r.nx; omega
 have hbj : b ≠ h.next := Nat.ne_of_lt (r.wf.lt hb)
 have g1 := Heap.alloc_new h ⟨cmdC cmdV0 cmd0, 37, true⟩
 have x1 := r.wf.ext ⟨cmdC cmdV0 cmd0, 37, true⟩
 have w1 := r.wf.alloc ⟨cmdC cmdV0 cmd0, 37, true⟩
 have r1 := r.grow x1 w1 (Nat.le_succ _)
 have b1 := x1.c _ _ hb
 generalize h.alloc ⟨cmdC cmdV0 cmd0, 37, true⟩ = H1 at g1 x1 w1 r1 b1 ⊢
 have hi := r.lt
 have hj := r.nx
 have l1 := qaW s
 have l2 := qaW (rawS s).2
 have l3 := qaW (rawS (rawS s).2).2
 have k1 : h.next < H1.next := w1.lt g1
 refine AWp.treeJ (fun H => H.get b = some (pB i)) (fun _ _ a b => b.c _ _ a) (t := OT.seq [(0, .S), (2, .S), (1, .W), (3, .W), (4, .P), (5, .W)] .nil) mixed (by kernel_rfl) b1 ?_
 repeat (first | refine TAL.s rfl rfl rfl (fun h' hn hx => qaf rfl rfl hx rfl ⟨rfl, rfl⟩) ?_)
 refine TAL.wj rfl rfl rfl ?_
 refine qar (evs := [ptr i]) rfl rfl ((qbA r1 (by omega)).mono ?_)
 rintro u2 H2 ⟨o2, x2, r2, n2⟩
 obtain ⟨a2, c2, hu2⟩ := RS.slice (OS.rs o2)
 have g2 := x2.c _ _ ((Heap.set_other hne).trans g1)
 have b2 := x2.c _ _ ((Heap.set_other hib).trans b1)
 refine ⟨b2, ?_⟩
 skip
 refine TAL.wj rfl rfl rfl ?_
 refine qar (evs := [ptr i]) rfl rfl ((qbl r2 (by omega)).mono ?_)
 rintro _ _ ⟨rfl, rfl⟩
 generalize hH3 : H2.set i (rdB (numS (rawS s).2).2) = H3
 have x3 : Ext (H2.set i (rdB (numS (rawS s).2).2)) H3 := hH3 ▸ Ext.refl _
 have r3 : Rdr h0 i (numS (rawS s).2).2 H3 := hH3 ▸ r2.set _
 have n3 : H2.next ≤ H3.next := hH3 ▸ Nat.le_refl _
 have g3 := x3.c _ _ ((Heap.set_other hne).trans g2)
 have b3 := x3.c _ _ ((Heap.set_other hib).trans b2)
 refine ⟨b3, ?_⟩
 have o23 := OS.over o2 (by omega) x3
 repeat (first | refine TAL.p rfl rfl rfl (fun h' hn => qax (out := cmdC { cmdV0 with k := u2 } { cmd0 with kind := 8, key := (rawS s).1, group := (numS (rawS s).2).1 }) (by rw [hu2]; rfl) (by rw [hu2]; rfl) ⟨rfl, rfl⟩) ?_)
 refine TAL.wj0 rfl rfl (qan (vs := cmdC { cmdV0 with k := u2 } { cmd0 with kind := 8, key := (rawS s).1, group := (numS (rawS s).2).1 }) rfl rfl rfl (cmdO (OS.rs o2).one.1) g3 rfl ⟨(Heap.set_other hbj).trans b3, ?_⟩)
 refine TAL.nil ?_
 repeat (first | refine AWp.ret ?_)
 exact ⟨_, ResV.cellA rfl rfl rfl (Heap.set_at _ _ _) (Nat.le_refl _), { cmdV0 with k := u2 }, _, rfl, ⟨rfl, OS.low (OS.put o23 g3 (Nat.ne_of_beq_eq_false rfl) _) (by omega), rfl⟩, r3.put hj (by omega) _⟩
theorem askO {k t v w : Value} {a : AskM} (h1 : oneB k = true) (h2 : oneB t = true) (h3 : oneB v = true) (h4 : oneB w = true) : (askC ⟨k, t, v, w⟩ a).all oneB = true := by
 unfold askC
 simp only [List.all_cons, h1, h2, h3, h4]
 rfl
instance i_StD_api_Ask : StD Tryz.prog 29 [(0, 1), (1, 1), (2, 1), (3, 1), (4, 1), (5, 1), (6, 1)] := ⟨_, Tryz.underlying29, by kernel_rfl⟩
abbrev n0 : Value := .slice none 0 0
theorem ask1_c {h0 h : Heap} {i b : Nat} {s : Bytes} (r : Rdr h0 i s h) (hb : h.get b = some (pB i)) (_hib : b ≠ i) (hl : s.length ≤ 1000000000) : ACalls Tryz.prog 134 [ptr b] h fun u h' => ∃ q s', u = .agg (askC q { ask0 with kind := 1, key := (rawS s).1 }).toArray ∧ AskO h0.next h' q { ask0 with kind := 1, key := (rawS s).1 } ∧ Rdr h0 i s' h' := by
 refine ACalls.body Tryz.func134 rfl rfl ?_
 repeat (first | refine W.w ?_ | refine zz rfl (qaw ?_))
 refine AL.heap (h := h.alloc ⟨askC askV0 ask0, 29, true⟩) rfl ?_
 have hne : h.next ≠ i := fun e => by have := r.lt; have := r.nx; omega
 have hbj : b ≠ h.next := Nat.ne_of_lt (r.wf.lt hb)
 have g1 := Heap.alloc_new h ⟨askC askV0 ask0, 29, true⟩
 have x1 := r.wf.ext ⟨askC askV0 ask0, 29, true⟩
 have w1 := r.wf.alloc ⟨askC askV0 ask0, 29, true⟩
 have r1 := r.grow x1 w1 (Nat.le_succ _)
 have b1 := x1.c _ _ hb
 generalize h.alloc ⟨askC askV0 ask0, 29, true⟩ = H1 at g1 x1 w1 r1 b1 ⊢
 have hi := r.lt
 have hj := r.nx
 have l1 := qaW s
 have l2 := qaW (rawS s).2
 have l3 := qaW (rawS (rawS s).2).2
 have k1 : h.next < H1.next := w1.lt g1
 repeat (first | refine zz rfl (qaf rfl rfl b1 rfl ?_))
 refine zz rfl (qar (evs := [ptr i]) rfl rfl ((qbA r1 (by omega)).mono ?_))
 rintro u2 H2 ⟨o2, x2, r2, n2⟩
 obtain ⟨a2, c2, hu2⟩ := RS.slice (OS.rs o2)
 have g2 := x2.c _ _ ((Heap.set_other hne).trans g1)
 repeat (first | refine W.w ?_ | refine zz rfl (qax (out := askC ⟨u2, n0, n0, n0⟩ { ask0 with kind := 1, key := (rawS s).1 }) (by rw [hu2]; rfl) (by rw [hu2]; rfl) ?_) | refine AL.eff rfl (qan (vs := askC ⟨u2, n0, n0, n0⟩ { ask0 with kind := 1, key := (rawS s).1 }) rfl rfl rfl (askO (OS.rs o2).one.1 rfl rfl rfl) g2 rfl ?_))
 exact ⟨_, ResV.cellA rfl rfl rfl (Heap.set_at _ _ _) (Nat.le_refl _), ⟨u2, n0, n0, n0⟩, _, rfl, ⟨(OS.low (OS.put o2 g2 (Nat.ne_of_beq_eq_false rfl) _) (by omega)), OS.nil _ _ _, OS.nil _ _ _, OS.nil _ _ _⟩, r2.put hj (by omega) _⟩
theorem ask2_c {h0 h : Heap} {i b : Nat} {s : Bytes} (r : Rdr h0 i s h) (hb : h.get b = some (pB i)) (_hib : b ≠ i) (hl : s.length ≤ 1000000000) : ACalls Tryz.prog 135 [ptr b] h fun u h' => ∃ q s', u = .agg (askC q { ask0 with kind := 3, key := (rawS s).1 }).toArray ∧ AskO h0.next h' q { ask0 with kind := 3, key := (rawS s).1 } ∧ Rdr h0 i s' h' := by
 refine ACalls.body Tryz.func135 rfl rfl ?_
 repeat (first | refine W.w ?_ | refine zz rfl (qaw ?_))
 refine AL.heap (h := h.alloc ⟨askC askV0 ask0, 29, true⟩) rfl ?_
 have hne : h.next ≠ i := fun e => by have := r.lt; have := r.nx; omega
 have hbj : b ≠ h.next := Nat.ne_of_lt (r.wf.lt hb)
 have g1 := Heap.alloc_new h ⟨askC askV0 ask0, 29, true⟩
 have x1 := r.wf.ext ⟨askC askV0 ask0, 29, true⟩
 have w1 := r.wf.alloc ⟨askC askV0 ask0, 29, true⟩
 have r1 := r.grow x1 w1 (Nat.le_succ _)
 have b1 := x1.c _ _ hb
 generalize h.alloc ⟨askC askV0 ask0, 29, true⟩ = H1 at g1 x1 w1 r1 b1 ⊢
 have hi := r.lt
 have hj := r.nx
 have l1 := qaW s
 have l2 := qaW (rawS s).2
 have l3 := qaW (rawS (rawS s).2).2
 have k1 : h.next < H1.next := w1.lt g1
 repeat (first | refine zz rfl (qaf rfl rfl b1 rfl ?_))
 refine zz rfl (qar (evs := [ptr i]) rfl rfl ((qbA r1 (by omega)).mono ?_))
 rintro u2 H2 ⟨o2, x2, r2, n2⟩
 obtain ⟨a2, c2, hu2⟩ := RS.slice (OS.rs o2)
 have g2 := x2.c _ _ ((Heap.set_other hne).trans g1)
 repeat (first | refine W.w ?_ | refine zz rfl (qax (out := askC ⟨u2, n0, n0, n0⟩ { ask0 with kind := 3, key := (rawS s).1 }) (by rw [hu2]; rfl) (by rw [hu2]; rfl) ?_) | refine AL.eff rfl (qan (vs := askC ⟨u2, n0, n0, n0⟩ { ask0 with kind := 3, key := (rawS s).1 }) rfl rfl rfl (askO (OS.rs o2).one.1 rfl rfl rfl) g2 rfl ?_))
 exact ⟨_, ResV.cellA rfl rfl rfl (Heap.set_at _ _ _) (Nat.le_refl _), ⟨u2, n0, n0, n0⟩, _, rfl, ⟨(OS.low (OS.put o2 g2 (Nat.ne_of_beq_eq_false rfl) _) (by omega)), OS.nil _ _ _, OS.nil _ _ _, OS.nil _ _ _⟩, r2.put hj (by omega) _⟩
theorem ask3_c {h0 h : Heap} {i b : Nat} {s : Bytes} (r : Rdr h0 i s h) (hb : h.get b = some (pB i)) (hib : b ≠ i) (hl : s.length ≤ 1000000000) : ACalls Tryz.prog 136 [ptr b] h fun u h' => ∃ q s', u = .agg (askC q { ask0 with kind := 2, key := (rawS s).1, value := (rawS (rawS s).2).1 }).toArray ∧ AskO h0.next h' q { ask0 with kind := 2, key := (rawS s).1, value := (rawS (rawS s).2).1 } ∧ Rdr h0 i s' h' := by
 refine ACalls.body Tryz.func136 rfl rfl ?_
 repeat (first | refine W.w ?_ | refine zz rfl (qaw ?_))
 refine AWp.heap (h := h.alloc ⟨askC askV0 ask0, 29, true⟩) rfl ?_
 have hne : h.next ≠ i := fun e => by have := r.lt; have := r.nx; omega
 have hbj : b ≠ h.next := Nat.ne_of_lt (r.wf.lt hb)
 have g1 := Heap.alloc_new h ⟨askC askV0 ask0, 29, true⟩
 have x1 := r.wf.ext ⟨askC askV0 ask0, 29, true⟩
 have w1 := r.wf.alloc ⟨askC askV0 ask0, 29, true⟩
 have r1 := r.grow x1 w1 (Nat.le_succ _)
 have b1 := x1.c _ _ hb
 generalize h.alloc ⟨askC askV0 ask0, 29, true⟩ = H1 at g1 x1 w1 r1 b1 ⊢
 have hi := r.lt
 have hj := r.nx
 have l1 := qaW s
 have l2 := qaW (rawS s).2
 have l3 := qaW (rawS (rawS s).2).2
 have k1 : h.next < H1.next := w1.lt g1
 refine AWp.treeJ (fun H => H.get b = some (pB i)) (fun _ _ a b => b.c _ _ a) (t := OT.seq [(0, .S), (2, .S), (1, .W), (3, .W), (4, .P), (5, .W)] .nil) mixed (by kernel_rfl) b1 ?_
 repeat (first | refine TAL.s rfl rfl rfl (fun h' hn hx => qaf rfl rfl hx rfl ⟨rfl, rfl⟩) ?_)
 refine TAL.wj rfl rfl rfl ?_
 refine qar (evs := [ptr i]) rfl rfl ((qbA r1 (by omega)).mono ?_)
 rintro u2 H2 ⟨o2, x2, r2, n2⟩
 obtain ⟨a2, c2, hu2⟩ := RS.slice (OS.rs o2)
 have g2 := x2.c _ _ ((Heap.set_other hne).trans g1)
 have b2 := x2.c _ _ ((Heap.set_other hib).trans b1)
 refine ⟨b2, ?_⟩
 skip
 refine TAL.wj rfl rfl rfl ?_
 refine qar (evs := [ptr i]) rfl rfl ((qbA r2 (by omega)).mono ?_)
 rintro u3 H3 ⟨o3, x3, r3, n3⟩
 obtain ⟨a3, c3, hu3⟩ := RS.slice (OS.rs o3)
 have g3 := x3.c _ _ ((Heap.set_other hne).trans g2)
 have b3 := x3.c _ _ ((Heap.set_other hib).trans b2)
 refine ⟨b3, ?_⟩
 repeat (first | refine TAL.p rfl rfl rfl (fun h' hn => qax (out := askC ⟨u2, n0, u3, n0⟩ { ask0 with kind := 2, key := (rawS s).1, value := (rawS (rawS s).2).1 }) (by rw [hu2, hu3]; rfl) (by rw [hu2, hu3]; rfl) ⟨rfl, rfl⟩) ?_)
 refine TAL.wj0 rfl rfl (qan (vs := askC ⟨u2, n0, u3, n0⟩ { ask0 with kind := 2, key := (rawS s).1, value := (rawS (rawS s).2).1 }) rfl rfl rfl (askO (OS.rs o2).one.1 rfl (OS.rs o3).one.1 rfl) g3 rfl ⟨(Heap.set_other hbj).trans b3, ?_⟩)
 refine TAL.nil ?_
 repeat (first | refine AWp.ret ?_)
 exact ⟨_, ResV.cellA rfl rfl rfl (Heap.set_at _ _ _) (Nat.le_refl _), ⟨u2, n0, u3, n0⟩, _, rfl, ⟨(OS.low (OS.put (OS.over o2 (by omega) x3) g3 (Nat.ne_of_beq_eq_false rfl) _) (by omega)), OS.nil _ _ _, (OS.low (OS.put o3 g3 (Nat.ne_of_beq_eq_false rfl) _) (by omega)), OS.nil _ _ _⟩, r3.put hj (by omega) _⟩
theorem ask4_c {h0 h : Heap} {i b : Nat} {s : Bytes} (r : Rdr h0 i s h) (hb : h.get b = some (pB i)) (hib : b ≠ i) (hl : s.length ≤ 1000000000) : ACalls Tryz.prog 137 [ptr b] h fun u h' => ∃ q s', u = .agg (askC q { ask0 with kind := 4, key := (rawS s).1, value := (rawS (rawS s).2).1, was := (rawS (rawS (rawS s).2).2).1 }).toArray ∧ AskO h0.next h' q { ask0 with kind := 4, key := (rawS s).1, value := (rawS (rawS s).2).1, was := (rawS (rawS (rawS s).2).2).1 } ∧ Rdr h0 i s' h' := by
 refine ACalls.body Tryz.func137 rfl rfl ?_
 repeat (first | refine W.w ?_ | refine zz rfl (qaw ?_))
 refine AWp.heap (h := h.alloc ⟨askC askV0 ask0, 29, true⟩) rfl ?_
 have hne : h.next ≠ i := fun e => by have := r.lt; have := r.nx; omega
 have hbj : b ≠ h.next := Nat.ne_of_lt (r.wf.lt hb)
 have g1 := Heap.alloc_new h ⟨askC askV0 ask0, 29, true⟩
 have x1 := r.wf.ext ⟨askC askV0 ask0, 29, true⟩
 have w1 := r.wf.alloc ⟨askC askV0 ask0, 29, true⟩
 have r1 := r.grow x1 w1 (Nat.le_succ _)
 have b1 := x1.c _ _ hb
 generalize h.alloc ⟨askC askV0 ask0, 29, true⟩ = H1 at g1 x1 w1 r1 b1 ⊢
 have hi := r.lt
 have hj := r.nx
 have l1 := qaW s
 have l2 := qaW (rawS s).2
 have l3 := qaW (rawS (rawS s).2).2
 have k1 : h.next < H1.next := w1.lt g1
 refine AWp.treeJ (fun H => H.get b = some (pB i)) (fun _ _ a b => b.c _ _ a) (t := OT.seq [(0, .S), (2, .S), (4, .S), (1, .W), (3, .W), (5, .W), (6, .P), (7, .W)] .nil) mixed (by kernel_rfl) b1 ?_
 repeat (first | refine TAL.s rfl rfl rfl (fun h' hn hx => qaf rfl rfl hx rfl ⟨rfl, rfl⟩) ?_)
 refine TAL.wj rfl rfl rfl ?_
 refine qar (evs := [ptr i]) rfl rfl ((qbA r1 (by omega)).mono ?_)
 rintro u2 H2 ⟨o2, x2, r2, n2⟩
 obtain ⟨a2, c2, hu2⟩ := RS.slice (OS.rs o2)
 have g2 := x2.c _ _ ((Heap.set_other hne).trans g1)
 have b2 := x2.c _ _ ((Heap.set_other hib).trans b1)
 refine ⟨b2, ?_⟩
 skip
 refine TAL.wj rfl rfl rfl ?_
 refine qar (evs := [ptr i]) rfl rfl ((qbA r2 (by omega)).mono ?_)
 rintro u3 H3 ⟨o3, x3, r3, n3⟩
 obtain ⟨a3, c3, hu3⟩ := RS.slice (OS.rs o3)
 have g3 := x3.c _ _ ((Heap.set_other hne).trans g2)
 have b3 := x3.c _ _ ((Heap.set_other hib).trans b2)
 refine ⟨b3, ?_⟩
 skip
 refine TAL.wj rfl rfl rfl ?_
 refine qar (evs := [ptr i]) rfl rfl ((qbA r3 (by omega)).mono ?_)
 rintro u4 H4 ⟨o4, x4, r4, n4⟩
 obtain ⟨a4, c4, hu4⟩ := RS.slice (OS.rs o4)
 have g4 := x4.c _ _ ((Heap.set_other hne).trans g3)
 have b4 := x4.c _ _ ((Heap.set_other hib).trans b3)
 refine ⟨b4, ?_⟩
 repeat (first | refine TAL.p rfl rfl rfl (fun h' hn => qax (out := askC ⟨u2, n0, u3, u4⟩ { ask0 with kind := 4, key := (rawS s).1, value := (rawS (rawS s).2).1, was := (rawS (rawS (rawS s).2).2).1 }) (by rw [hu2, hu3, hu4]; rfl) (by rw [hu2, hu3, hu4]; rfl) ⟨rfl, rfl⟩) ?_)
 refine TAL.wj0 rfl rfl (qan (vs := askC ⟨u2, n0, u3, u4⟩ { ask0 with kind := 4, key := (rawS s).1, value := (rawS (rawS s).2).1, was := (rawS (rawS (rawS s).2).2).1 }) rfl rfl rfl (askO (OS.rs o2).one.1 rfl (OS.rs o3).one.1 (OS.rs o4).one.1) g4 rfl ⟨(Heap.set_other hbj).trans b4, ?_⟩)
 refine TAL.nil ?_
 repeat (first | refine AWp.ret ?_)
 exact ⟨_, ResV.cellA rfl rfl rfl (Heap.set_at _ _ _) (Nat.le_refl _), ⟨u2, n0, u3, u4⟩, _, rfl, ⟨(OS.low (OS.put (OS.over (OS.over o2 (by omega) x3) (by omega) x4) g4 (Nat.ne_of_beq_eq_false rfl) _) (by omega)), OS.nil _ _ _, (OS.low (OS.put (OS.over o3 (by omega) x4) g4 (Nat.ne_of_beq_eq_false rfl) _) (by omega)), (OS.low (OS.put o4 g4 (Nat.ne_of_beq_eq_false rfl) _) (by omega))⟩, r4.put hj (by omega) _⟩
theorem ask5_c {h0 h : Heap} {i b : Nat} {s : Bytes} (r : Rdr h0 i s h) (hb : h.get b = some (pB i)) (hib : b ≠ i) (hl : s.length ≤ 1000000000) : ACalls Tryz.prog 138 [ptr b] h fun u h' => ∃ q s', u = .agg (askC q { ask0 with kind := 4, key := (rawS s).1, value := (rawS (rawS s).2).1, none := true }).toArray ∧ AskO h0.next h' q { ask0 with kind := 4, key := (rawS s).1, value := (rawS (rawS s).2).1, none := true } ∧ Rdr h0 i s' h' := by
 refine ACalls.body Tryz.func138 rfl rfl ?_
 repeat (first | refine W.w ?_ | refine zz rfl (qaw ?_))
 refine AWp.heap (h := h.alloc ⟨askC askV0 ask0, 29, true⟩) rfl ?_
 have hne : h.next ≠ i := fun e => by have := r.lt; have := r.nx; omega
 have hbj : b ≠ h.next := Nat.ne_of_lt (r.wf.lt hb)
 have g1 := Heap.alloc_new h ⟨askC askV0 ask0, 29, true⟩
 have x1 := r.wf.ext ⟨askC askV0 ask0, 29, true⟩
 have w1 := r.wf.alloc ⟨askC askV0 ask0, 29, true⟩
 have r1 := r.grow x1 w1 (Nat.le_succ _)
 have b1 := x1.c _ _ hb
 generalize h.alloc ⟨askC askV0 ask0, 29, true⟩ = H1 at g1 x1 w1 r1 b1 ⊢
 have hi := r.lt
 have hj := r.nx
 have l1 := qaW s
 have l2 := qaW (rawS s).2
 have l3 := qaW (rawS (rawS s).2).2
 have k1 : h.next < H1.next := w1.lt g1
 refine AWp.treeJ (fun H => H.get b = some (pB i)) (fun _ _ a b => b.c _ _ a) (t := OT.seq [(0, .S), (2, .S), (1, .W), (3, .W), (4, .P), (5, .W)] .nil) mixed (by kernel_rfl) b1 ?_
 repeat (first | refine TAL.s rfl rfl rfl (fun h' hn hx => qaf rfl rfl hx rfl ⟨rfl, rfl⟩) ?_)
 refine TAL.wj rfl rfl rfl ?_
 refine qar (evs := [ptr i]) rfl rfl ((qbA r1 (by omega)).mono ?_)
 rintro u2 H2 ⟨o2, x2, r2, n2⟩
 obtain ⟨a2, c2, hu2⟩ := RS.slice (OS.rs o2)
 have g2 := x2.c _ _ ((Heap.set_other hne).trans g1)
 have b2 := x2.c _ _ ((Heap.set_other hib).trans b1)
 refine ⟨b2, ?_⟩
 skip
 refine TAL.wj rfl rfl rfl ?_
 refine qar (evs := [ptr i]) rfl rfl ((qbA r2 (by omega)).mono ?_)
 rintro u3 H3 ⟨o3, x3, r3, n3⟩
 obtain ⟨a3, c3, hu3⟩ := RS.slice (OS.rs o3)
 have g3 := x3.c _ _ ((Heap.set_other hne).trans g2)
 have b3 := x3.c _ _ ((Heap.set_other hib).trans b2)
 refine ⟨b3, ?_⟩
 repeat (first | refine TAL.p rfl rfl rfl (fun h' hn => qax (out := askC ⟨u2, n0, u3, n0⟩ { ask0 with kind := 4, key := (rawS s).1, value := (rawS (rawS s).2).1, none := true }) (by rw [hu2, hu3]; rfl) (by rw [hu2, hu3]; rfl) ⟨rfl, rfl⟩) ?_)
 refine TAL.wj0 rfl rfl (qan (vs := askC ⟨u2, n0, u3, n0⟩ { ask0 with kind := 4, key := (rawS s).1, value := (rawS (rawS s).2).1, none := true }) rfl rfl rfl (askO (OS.rs o2).one.1 rfl (OS.rs o3).one.1 rfl) g3 rfl ⟨(Heap.set_other hbj).trans b3, ?_⟩)
 refine TAL.nil ?_
 repeat (first | refine AWp.ret ?_)
 exact ⟨_, ResV.cellA rfl rfl rfl (Heap.set_at _ _ _) (Nat.le_refl _), ⟨u2, n0, u3, n0⟩, _, rfl, ⟨(OS.low (OS.put (OS.over o2 (by omega) x3) g3 (Nat.ne_of_beq_eq_false rfl) _) (by omega)), OS.nil _ _ _, (OS.low (OS.put o3 g3 (Nat.ne_of_beq_eq_false rfl) _) (by omega)), OS.nil _ _ _⟩, r3.put hj (by omega) _⟩
theorem ask6_c {h0 h : Heap} {i b : Nat} {s : Bytes} (r : Rdr h0 i s h) (hb : h.get b = some (pB i)) (hib : b ≠ i) (hl : s.length ≤ 1000000000) : ACalls Tryz.prog 139 [ptr b] h fun u h' => ∃ q s', u = .agg (askC q { ask0 with kind := 5, key := (rawS s).1, «to» := (rawS (rawS s).2).1, most := (numS (rawS (rawS s).2).2).1 }).toArray ∧ AskO h0.next h' q { ask0 with kind := 5, key := (rawS s).1, «to» := (rawS (rawS s).2).1, most := (numS (rawS (rawS s).2).2).1 } ∧ Rdr h0 i s' h' := by
 refine ACalls.body Tryz.func139 rfl rfl ?_
 repeat (first | refine W.w ?_ | refine zz rfl (qaw ?_))
 refine AWp.heap (h := h.alloc ⟨askC askV0 ask0, 29, true⟩) rfl ?_
 have hne : h.next ≠ i := fun e => by have := r.lt; have := r.nx; omega
 have hbj : b ≠ h.next := Nat.ne_of_lt (r.wf.lt hb)
 have g1 := Heap.alloc_new h ⟨askC askV0 ask0, 29, true⟩
 have x1 := r.wf.ext ⟨askC askV0 ask0, 29, true⟩
 have w1 := r.wf.alloc ⟨askC askV0 ask0, 29, true⟩
 have r1 := r.grow x1 w1 (Nat.le_succ _)
 have b1 := x1.c _ _ hb
 generalize h.alloc ⟨askC askV0 ask0, 29, true⟩ = H1 at g1 x1 w1 r1 b1 ⊢
 have hi := r.lt
 have hj := r.nx
 have l1 := qaW s
 have l2 := qaW (rawS s).2
 have l3 := qaW (rawS (rawS s).2).2
 have k1 : h.next < H1.next := w1.lt g1
 refine AWp.treeJ (fun H => H.get b = some (pB i)) (fun _ _ a b => b.c _ _ a) (t := OT.seq [(0, .S), (2, .S), (4, .S), (1, .W), (3, .W), (5, .W), (6, .P), (7, .W)] .nil) mixed (by kernel_rfl) b1 ?_
 repeat (first | refine TAL.s rfl rfl rfl (fun h' hn hx => qaf rfl rfl hx rfl ⟨rfl, rfl⟩) ?_)
 refine TAL.wj rfl rfl rfl ?_
 refine qar (evs := [ptr i]) rfl rfl ((qbA r1 (by omega)).mono ?_)
 rintro u2 H2 ⟨o2, x2, r2, n2⟩
 obtain ⟨a2, c2, hu2⟩ := RS.slice (OS.rs o2)
 have g2 := x2.c _ _ ((Heap.set_other hne).trans g1)
 have b2 := x2.c _ _ ((Heap.set_other hib).trans b1)
 refine ⟨b2, ?_⟩
 skip
 refine TAL.wj rfl rfl rfl ?_
 refine qar (evs := [ptr i]) rfl rfl ((qbA r2 (by omega)).mono ?_)
 rintro u3 H3 ⟨o3, x3, r3, n3⟩
 obtain ⟨a3, c3, hu3⟩ := RS.slice (OS.rs o3)
 have g3 := x3.c _ _ ((Heap.set_other hne).trans g2)
 have b3 := x3.c _ _ ((Heap.set_other hib).trans b2)
 refine ⟨b3, ?_⟩
 skip
 refine TAL.wj rfl rfl rfl ?_
 refine qar (evs := [ptr i]) rfl rfl ((qbl r3 (by omega)).mono ?_)
 rintro _ _ ⟨rfl, rfl⟩
 generalize hH4 : H3.set i (rdB (numS (rawS (rawS s).2).2).2) = H4
 have x4 : Ext (H3.set i (rdB (numS (rawS (rawS s).2).2).2)) H4 := hH4 ▸ Ext.refl _
 have r4 : Rdr h0 i (numS (rawS (rawS s).2).2).2 H4 := hH4 ▸ r3.set _
 have n4 : H3.next ≤ H4.next := hH4 ▸ Nat.le_refl _
 have g4 := x4.c _ _ ((Heap.set_other hne).trans g3)
 have b4 := x4.c _ _ ((Heap.set_other hib).trans b3)
 refine ⟨b4, ?_⟩
 repeat (first | refine TAL.p rfl rfl rfl (fun h' hn => qax (out := askC ⟨u2, u3, n0, n0⟩ { ask0 with kind := 5, key := (rawS s).1, «to» := (rawS (rawS s).2).1, most := (numS (rawS (rawS s).2).2).1 }) (by rw [hu2, hu3]; rfl) (by rw [hu2, hu3]; rfl) ⟨rfl, rfl⟩) ?_)
 refine TAL.wj0 rfl rfl (qan (vs := askC ⟨u2, u3, n0, n0⟩ { ask0 with kind := 5, key := (rawS s).1, «to» := (rawS (rawS s).2).1, most := (numS (rawS (rawS s).2).2).1 }) rfl rfl rfl (askO (OS.rs o2).one.1 (OS.rs o3).one.1 rfl rfl) g4 rfl ⟨(Heap.set_other hbj).trans b4, ?_⟩)
 refine TAL.nil ?_
 repeat (first | refine AWp.ret ?_)
 exact ⟨_, ResV.cellA rfl rfl rfl (Heap.set_at _ _ _) (Nat.le_refl _), ⟨u2, u3, n0, n0⟩, _, rfl, ⟨(OS.low (OS.put (OS.over (OS.over o2 (by omega) x3) (by omega) x4) g4 (Nat.ne_of_beq_eq_false rfl) _) (by omega)), (OS.low (OS.put (OS.over o3 (by omega) x4) g4 (Nat.ne_of_beq_eq_false rfl) _) (by omega)), OS.nil _ _ _, OS.nil _ _ _⟩, r4.put hj (by omega) _⟩
end Go.Proofs.YtigmojilaadbhaaGreatDoor
/- . -/
namespace Go.Pln
open Go Go.Lib
theorem qee {nodes : Int} : ∀ (k : Nat) (l : List Int) (p q n : Int), l[k]? = some n → (k = 0 → q = p) → (∀ j, k = j + 1 → l[j]? = some q) → riseM nodes p (l.take (k + 1)) = (riseM nodes p (l.take k) && decide (q < n ∧ n < nodes))
 | 0, m :: l, p, q, n, hn, h0, _ => by
  have e : m = n := by simpa using hn
  rw [e, h0 rfl]
  show (decide (p < n ∧ n < nodes) && true) = (true && _)
  simp
 | k + 1, m :: l, p, q, n, hn, _, h1 => by
  have a0 : k = 0 → q = m := fun e => by
   subst e
   have := h1 0 rfl
   simpa using this.symm
  have a1 : ∀ j, k = j + 1 → l[j]? = some q := fun j e => by
   have := h1 (j + 1) (by omega)
   simpa using this
  have ih := qee (nodes := nodes) k l m q n (by simpa using hn) a0 a1
  show (decide (p < m ∧ m < nodes) && riseM nodes m (l.take (k + 1))) = ((decide (p < m ∧ m < nodes) && riseM nodes m (l.take k)) && _)
  rw [ih, Bool.and_assoc]
theorem qh9 {nodes : Int} : ∀ (k : Nat) (l : List Int) (p : Int), riseM nodes p l = true → riseM nodes p (l.take k) = true
 | 0, _, _, _ => rfl
 | _ + 1, [], _, _ => rfl
 | k + 1, m :: l, p, h => by
  unfold riseM at h
  rw [Bool.and_eq_true] at h
  show (decide (p < m ∧ m < nodes) && riseM nodes m (l.take k)) = true
  rw [h.1, qh9 k l m h.2]
  rfl
theorem qhd {nodes : Int} {k : Nat} {l : List Int} {p : Int} (h : riseM nodes p (l.take k) = false) : riseM nodes p l = false := by
 cases hr : riseM nodes p l with
 | false => rfl
 | true => rw [qh9 k l p hr] at h; cases h
theorem rise_first {nodes : Int} {l : List Int} {n : Int} (hn : l[0]? = some n) : riseM nodes (-1) (l.take 1) = decide (0 ≤ n ∧ n < nodes) := by
 rw [qee 0 l (-1) (-1) n hn (fun _ => rfl) (fun j e => by omega)]
 show (true && _) = _
 rw [Bool.true_and]
 exact decide_eq_decide.2 ⟨fun ⟨h1, h2⟩ => ⟨by omega, h2⟩, fun ⟨h1, h2⟩ => ⟨by omega, h2⟩⟩
theorem rise_next {nodes : Int} {k : Nat} {l : List Int} {q n : Int} (hg : riseM nodes (-1) (l.take (k + 1)) = true) (hq : l[k]? = some q) (hn : l[k + 1]? = some n) :
  riseM nodes (-1) (l.take (k + 2)) = decide ((0 ≤ n ∧ n < nodes) ∧ q < n) := by
 have h0 := qdi (by decide) hg q (List.mem_of_getElem? (i := k) (by rw [List.getElem?_take_of_lt (by omega)]; exact hq))
 have a1 : ∀ j, k + 1 = j + 1 → l[j]? = some q := fun j e => by
  obtain rfl : j = k := by omega
  exact hq
 rw [qee (k + 1) l (-1) q n hn (fun e => by omega) a1, hg, Bool.true_and]
 exact decide_eq_decide.2 ⟨fun ⟨h1, h2⟩ => ⟨⟨by omega, h2⟩, h1⟩, fun ⟨⟨h1, h2⟩, h3⟩ => ⟨h3, h2⟩⟩
end Go.Pln
/- . -/
namespace Go.Proofs.YtigmojilaadbhaaGreatDoor
open Go Go.Eng Go.Pln Go.Lib
attribute [local irreducible] AWp AL DAL AOp
abbrev iv64 (l : List Int) : List Value := l.map fun n => .int .i64 n
theorem iv64_at {l : List Int} {k : Nat} {n : Int} (hn : l[k]? = some n) {a : Int} (ha : a = (k : Nat)) : (iv64 l)[a.toNat]? = some (.int .i64 n) := by
 subst ha
 show (iv64 l)[k]? = _
 rw [List.getElem?_map, hn]
 rfl
theorem qeR (nodes : Int) (v : Value) (l : List Int) (h : Heap) (r : RS h v (iv64 l)) (hn : 1 ≤ nodes ∧ nodes ≤ 5) (hl : l.length ≤ 140737488351232) : ACalls Tryz.prog 73 [.int .i64 nodes, v] h fun u h' => u = .bool (mayGroup nodes l) ∧ h' = h := by
 refine ACalls.body Tryz.func73 rfl rfl ?_
 have hlen : (iv64 l).length = l.length := by simp
 repeat (first | refine W.w ?_ | (refine zz rfl ?_; first | refine qac rfl ?_ | refine qaa rfl ?_ | refine qaS r rfl ?_ | refine qal (by conv => lhs; whnf) ?_))
 refine AWp.loop (α := Nat) (fun k => [(0, .int .i64 nodes), (1, v), (7, v), (8, .int .i64 ((iv64 l).length : Nat)), (9, .int .i64 (k : Nat))]) (fun _ => h) (fun k => k ≤ l.length ∧ riseM nodes (-1) (l.take k) = true) (fun k => l.length - k) 0 ⟨Nat.zero_le _, rfl⟩ (Weak.same (EW.cons rfl (EW.cons rfl (EW.cons rfl (EW.cons rfl (EW.cons rfl EW.nil)))))) ?_
 rintro k ⟨hk, hg⟩
 by_cases hlt : k < l.length
 ·
  obtain ⟨n, hn1⟩ : ∃ n, l[k]? = some n := ⟨_, List.getElem?_eq_getElem hlt⟩
  have hx := iv64_at hn1 (a := (k : Nat)) rfl
  repeat (first | refine W.w ?_ | refine AWp.c8 rfl ?_ | (refine zz rfl ?_; first | refine qac rfl ?_ | refine qam rfl rfl rfl (by rw [hlen]; omega) ?_ | refine qbg r rfl rfl (by omega) hx ?_))
  intro p hp
  cases k with
  | zero =>
   have hf := rise_first (nodes := nodes) hn1
   by_cases c1 : 0 ≤ n ∧ n ≤ nodes - 1
   ·
    repeat (first | refine W.w ?_ | refine AL.skip rfl rfl ?_ | refine AWp.c9 rfl ?_ | (refine zz rfl ?_; first | refine qac rfl ?_ | refine qae rfl ?_ | refine qad rfl ?_ | refine qat hp rfl rfl ?_ | refine qab rfl rfl (qbr h c1) ?_ | refine qak rfl rfl rfl (by omega) ?_ | refine qah (v := .bool _) rfl rfl ?_ | refine qas rfl rfl (by omega) ?_ | refine qbU rfl rfl (by omega) ?_ | refine qaL rfl ?_))
    exact ⟨0 + 1, ⟨hlt, hf.trans (decide_eq_true (by omega))⟩, by omega, Weak.same (EW.cons rfl (EW.cons rfl (EW.cons rfl (EW.cons rfl (EW.cons rfl EW.nil)))))⟩
   ·
    repeat (first | refine W.w ?_ | refine AL.skip rfl rfl ?_ | refine AWp.c8 rfl ?_ | (refine zz rfl ?_; first | refine qac rfl ?_ | refine qae rfl ?_ | refine qad rfl ?_ | refine qaa rfl ?_ | refine qat hp rfl rfl ?_ | refine qab rfl rfl (qcb h c1) ?_ | refine qah (v := .bool _) rfl rfl ?_ | refine qbU rfl rfl (by omega) ?_ | refine qaL rfl ?_))
    refine ⟨_, ResV.tmp rfl, ?_, rfl⟩
    rw [Pln.mayGroup, qhd (hf.trans (decide_eq_false (by omega)))]
    rfl
  | succ k =>
   obtain ⟨q, hq⟩ : ∃ q, l[k]? = some q := ⟨_, List.getElem?_eq_getElem (by omega)⟩
   have hf := rise_next hg hq hn1
   have hx2 := iv64_at hq (a := ((k + 1 : Nat) : Int) - 1) (by omega)
   by_cases c1 : 0 ≤ n ∧ n ≤ nodes - 1
   ·
    by_cases c2 : q < n
    ·
     repeat (first | refine W.w ?_ | (refine zz rfl ?_; first | refine qac rfl ?_ | refine qae rfl ?_ | refine qad rfl ?_ | refine qat hp rfl rfl ?_ | refine qab rfl rfl (qbr h c1) ?_ | refine qam rfl rfl rfl (by omega) ?_ | refine qbg r rfl rfl (by omega) hx2 ?_ | refine qbU rfl rfl (by omega) ?_ | refine qaL rfl ?_ | refine qal (by conv => lhs; whnf) ?_))
     intro p2 hp2
     repeat (first | refine W.w ?_ | refine AWp.c9 rfl ?_ | (refine zz rfl ?_; first | refine qac rfl ?_ | refine qat hp2 rfl rfl ?_ | refine qak rfl rfl rfl (by omega) ?_ | refine qah (v := .bool _) rfl rfl ?_ | refine qas rfl rfl (by omega) ?_))
     exact ⟨k + 1 + 1, ⟨hlt, hf.trans (decide_eq_true (by omega))⟩, by omega, Weak.same (EW.cons rfl (EW.cons rfl (EW.cons rfl (EW.cons rfl (EW.cons rfl EW.nil)))))⟩
    ·
     repeat (first | refine W.w ?_ | (refine zz rfl ?_; first | refine qac rfl ?_ | refine qae rfl ?_ | refine qad rfl ?_ | refine qat hp rfl rfl ?_ | refine qab rfl rfl (qbr h c1) ?_ | refine qam rfl rfl rfl (by omega) ?_ | refine qbg r rfl rfl (by omega) hx2 ?_ | refine qbU rfl rfl (by omega) ?_ | refine qaL rfl ?_ | refine qal (by conv => lhs; whnf) ?_))
     intro p2 hp2
     repeat (first | refine W.w ?_ | refine AWp.c8 rfl ?_ | (refine zz rfl ?_; first | refine qac rfl ?_ | refine qaa rfl ?_ | refine qat hp2 rfl rfl ?_ | refine qam rfl rfl rfl (by omega) ?_ | refine qah (v := .bool _) rfl rfl ?_))
     refine ⟨_, ResV.tmp rfl, ?_, rfl⟩
     rw [Pln.mayGroup, qhd (hf.trans (decide_eq_false (by omega)))]
     rfl
   ·
    repeat (first | refine W.w ?_ | refine AL.skip rfl rfl ?_ | refine AWp.c8 rfl ?_ | (refine zz rfl ?_; first | refine qac rfl ?_ | refine qae rfl ?_ | refine qad rfl ?_ | refine qaa rfl ?_ | refine qat hp rfl rfl ?_ | refine qab rfl rfl (qcb h c1) ?_ | refine qah (v := .bool _) rfl rfl ?_ | refine qbU rfl rfl (by omega) ?_ | refine qaL rfl ?_))
    refine ⟨_, ResV.tmp rfl, ?_, rfl⟩
    rw [Pln.mayGroup, qhd (hf.trans (decide_eq_false (by omega)))]
    rfl
 ·
  obtain rfl : k = l.length := by omega
  rw [List.take_length] at hg
  have cw := qcx ((iv64 l).length : Nat) 1 3 h
  repeat (first | refine AL.nil ?_ | refine AWp.seq ?_ | refine AWp.r9 ?_ | refine AWp.c9 rfl ?_ | refine AWp.ret ?_ | refine AWp.exit ?_ | (refine zz rfl ?_; first | refine qaa rfl ?_ | refine qak rfl rfl rfl (by rw [hlen]; omega) ?_ | refine qaS r rfl ?_ | refine qab rfl rfl cw ?_ | refine qal (by conv => lhs; whnf) ?_))
  refine ⟨_, ResV.tmp rfl, ?_, rfl⟩
  show Value.bool _ = _
  rw [Pln.mayGroup, hg, Bool.true_and, hlen]
  exact congrArg Value.bool (decide_eq_decide.2 ⟨fun e => by omega, fun e => by omega⟩)
end Go.Proofs.YtigmojilaadbhaaGreatDoor
