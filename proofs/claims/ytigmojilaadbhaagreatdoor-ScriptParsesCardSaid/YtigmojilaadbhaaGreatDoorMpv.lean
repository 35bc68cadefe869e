/-
  Texts of one claim, merged: 5 parts.
-/
import Derived.Test.YtigmojilaadbhaaGreatDoorMpu
import Derived.Test.YtigmojilaadbhaaGreatDoorMpq
set_option maxHeartbeats 16000000
/- . -/
namespace Go.Proofs.YtigmojilaadbhaaGreatDoor
open Go Go.Eng Go.Pln Go.Lib Go.Proofs.Tryz
attribute [local irreducible] AWp AL DAL AOp TAL
instance i_rbare : FnC prog 155 := ⟨Tryz.f155, func155, by kernel_rfl, by kernel_rfl⟩
theorem rbare_c (p : CmdV) (m : CmdM) (h : Heap) (r : CmdR h p m) : ACalls prog 155 [.agg (cmdC p m).toArray] h fun u h' => ∃ q, u = .tuple #[.agg (cmdC q (namedC m)).toArray, .bool (okC m)] ∧ CmdR h' q (namedC m) ∧ Ext h h' := by
 refine aL fun wf => ?_
 refine aD func155 rfl rfl ?_
 repeat (first | refine W.w ?_ | refine zz rfl (qaS rfl (by intro e; cases e) ?_))
 generalize hH : h.alloc _ = H1
 have hg1 : H1.get h.next = some ⟨cmdC p m, 37, true⟩ := hH ▸ aB _ _
 have hx1 : Ext h H1 := hH ▸ wf.ext _
 have wf1 : WF H1 := hH ▸ wf.alloc _
 have n1 : h.next < H1.next := wf1.lt hg1
 clear hH
 repeat (first | refine W.w ?_ | refine zz rfl (qaa rfl ?_) | refine zz rfl (qax ?_))
 generalize hH : H1.alloc _ = H2
 have g2 : H2.get H1.next = some ⟨cmdC cmdV0 cmd0, 37, true⟩ := hH ▸ aB _ _
 have hx2 : Ext H1 H2 := hH ▸ wf1.ext _
 have wf2 : WF H2 := hH ▸ wf1.alloc _
 have n2 : H1.next < H2.next := wf2.lt g2
 have hg2 := hx2.c _ _ hg1
 clear hH
 repeat (first | refine W.w ?_ | refine aJ rfl (qaL (vs := cmdC cmdV0 { cmd0 with kind := m.kind }) rfl rfl rfl rfl rfl ?_) | (refine zz rfl ?_; first | refine qan rfl ?_ | refine qaf rfl rfl hg2 rfl ?_ | refine qay (out := cmdC cmdV0 { cmd0 with kind := m.kind }) rfl rfl ?_ | refine qax ?_))
 have gl := aB H2
 have hgx : ∀ b, (H2.alloc b).get h.next = some ⟨cmdC p m, 37, true⟩ := fun b => (wf2.ext b).c _ _ hg2
 have gj : ∀ b, (H2.alloc b).get H1.next = some ⟨cmdC cmdV0 cmd0, 37, true⟩ := fun b => (wf2.ext b).c _ _ g2
 have xl : ∀ b, Ext h (H2.alloc b) := fun b => hx1.trans (hx2.trans (wf2.ext b))
 have xf : ∀ b b', Ext h ((H2.alloc b).set H1.next b') := fun b b' => wf.ext_set (xl b) (Dy n1) _
 clear hg1 hg2 g2 hx1 hx2 wf1
 by_cases k1 : m.kind = 1
 ·
  have hn : namedC m = { cmd0 with kind := m.kind } := by unfold namedC; grind
  have ho : okC m = true := by unfold okC; grind
  have hq : ∀ h', Ext h h' → CmdR h' cmdV0 { cmd0 with kind := m.kind } := fun h' _ => ⟨(bQ h').r, (bQ h').m, cZ h', bR h', bR h'⟩
  repeat (first | refine W.w ?_ | refine aE rfl ?_ | refine aJ rfl (qaq (vs := cmdC cmdV0 { cmd0 with kind := m.kind }) rfl rfl rfl rfl (gj _) rfl ?_) | (refine zz rfl ?_; first | refine qaa rfl ?_ | refine qaf rfl rfl (hgx _) rfl ?_ | refine qam (sz := 20) rfl rfl (gl _) (Aa _) ?_ | refine qak rfl rfl rfl (by omega) ?_))
  exact ⟨_, aV rfl rfl rfl (aF _ _ _) (Aa _), cmdV0, by rw [hn, ho]; rfl, by rw [hn]; exact hq _ (xf _ _), xf _ _⟩
 by_cases k2 : m.kind = 2
 ·
  have hn : namedC m = { cmd0 with kind := m.kind, req := m.req } := by unfold namedC; grind
  have hq : ∀ h', Ext h h' → CmdR h' { cmdV0 with r := p.r } { cmd0 with kind := m.kind, req := m.req } := fun h' x => ⟨(r.ext x).r, (bQ h').m, cZ h', bR h', bR h'⟩
  have ho : okC m = reqOk m.req := by unfold okC; grind
  repeat (first | refine W.w ?_ | refine aE rfl ?_ | refine aG rfl ?_ | refine aJ rfl (qbp (vs := reqC p.r m.req) rfl rfl rfl (qiI r.r) rfl ?_) | (refine zz rfl ?_; first | refine qaa rfl ?_ | refine qan rfl ?_ | refine qaf rfl rfl (hgx _) rfl ?_ | refine qam (sz := 9) rfl rfl (hgx _) (Ab rfl) ?_ | refine qak rfl rfl rfl (by omega) ?_ | refine qai rfl rfl rfl (by omega) ?_))
  refine bJ (σ := [(0, .R), (1, .R), (2, .R), (3, .R), (4, .W), (5, .R)]) mixed (by kernel_rfl) ?_
  repeat (first | refine dr rfl rfl (fun _ hx _ => qan rfl ⟨rfl, rfl⟩) ?_ | refine dr rfl rfl (fun _ hx _ => qam (sz := 20) rfl rfl (hx.c _ _ (gl _)) (Aa _) ⟨rfl, rfl⟩) ?_ | refine dr rfl rfl (fun _ hx _ => qam (sz := 9) rfl rfl (hx.c _ _ (hgx _)) (Ab rfl) ⟨rfl, rfl⟩) ?_ | refine dr rfl rfl (fun h' hx _ => qab rfl rfl (rmayReq_c p.r m.req h' (r.r.ext ((xl _).trans hx))) ⟨rfl, rfl⟩) ?_)
  refine DAL.w0 rfl rfl (qaq (vs := cmdC { cmdV0 with r := p.r } { cmd0 with kind := m.kind, req := m.req }) rfl rfl rfl (qa4 (hq h (aU h))) (gj _) rfl ?_)
  repeat (first | refine dr rfl rfl (fun _ hx _ => qaa rfl ⟨rfl, rfl⟩) ?_)
  refine aX ?_
  repeat (first | refine aM ?_)
  exact ⟨_, aV rfl rfl rfl (aF _ _ _) (Aa _), { cmdV0 with r := p.r }, by rw [hn, ho]; rfl, by rw [hn]; exact hq _ (xf _ _), xf _ _⟩
 by_cases k3 : m.kind = 3 ∨ m.kind = 5 ∨ m.kind = 9 ∨ m.kind = 10
 ·
  have hn : namedC m = { cmd0 with kind := m.kind, move := m.move } := by unfold namedC; grind
  have hq : ∀ h', Ext h h' → CmdR h' { cmdV0 with m := p.m } { cmd0 with kind := m.kind, move := m.move } := fun h' x => ⟨(bQ h').r, (r.ext x).m, cZ h', bR h', bR h'⟩
  have ho : okC m = moveOk m.move := by unfold okC; grind
  rcases k3 with k | k | k | k <;>
  ·
   repeat (first | refine W.w ?_ | refine aE rfl ?_ | refine aG rfl ?_ | refine aJ rfl (qbp (vs := moveC p.m m.move) rfl rfl rfl (qdd r.m) rfl ?_) | (refine zz rfl ?_; first | refine qaa rfl ?_ | refine qan rfl ?_ | refine qaf rfl rfl (hgx _) rfl ?_ | refine qam (sz := 6) rfl rfl (hgx _) (Ab rfl) ?_ | refine qak rfl rfl rfl (by omega) ?_ | refine qai rfl rfl rfl (by omega) ?_))
   refine bJ (σ := [(0, .R), (1, .R), (2, .R), (3, .R), (4, .W), (5, .R)]) mixed (by kernel_rfl) ?_
   repeat (first | refine dr rfl rfl (fun _ hx _ => qan rfl ⟨rfl, rfl⟩) ?_ | refine dr rfl rfl (fun _ hx _ => qam (sz := 20) rfl rfl (hx.c _ _ (gl _)) (Aa _) ⟨rfl, rfl⟩) ?_ | refine dr rfl rfl (fun _ hx _ => qam (sz := 6) rfl rfl (hx.c _ _ (hgx _)) (Ab rfl) ⟨rfl, rfl⟩) ?_ | refine dr rfl rfl (fun h' hx _ => qab rfl rfl (qe8 p.m m.move h' (r.m.ext ((xl _).trans hx))) ⟨rfl, rfl⟩) ?_)
   refine DAL.w0 rfl rfl (qaq (vs := cmdC { cmdV0 with m := p.m } { cmd0 with kind := m.kind, move := m.move }) rfl rfl rfl (qa4 (hq h (aU h))) (gj _) rfl ?_)
   repeat (first | refine dr rfl rfl (fun _ hx _ => qaa rfl ⟨rfl, rfl⟩) ?_)
   refine aX ?_
   repeat (first | refine aM ?_)
   exact ⟨_, aV rfl rfl rfl (aF _ _ _) (Aa _), { cmdV0 with m := p.m }, by rw [hn, ho]; rfl, by rw [hn]; exact hq _ (xf _ _), xf _ _⟩
 by_cases k4 : m.kind = 4
 ·
  have hn : namedC m = { cmd0 with kind := m.kind, move := m.move, entries := m.entries, answers := m.answers } := by unfold namedC; grind
  have hq : ∀ h', Ext h h' → CmdR h' { cmdV0 with m := p.m, e := p.e, n := p.n } { cmd0 with kind := m.kind, move := m.move, entries := m.entries, answers := m.answers } := fun h' x => ⟨(bQ h').r, (r.ext x).m, (r.ext x).e, (r.ext x).n, bR h'⟩
  obtain ⟨ro, s1, s2, s3⟩ := r.e.ex
  have hel := r.e.len
  obtain ⟨ea, ec, hev⟩ := s1.slice
  obtain ⟨na, nc, hnv⟩ := bC r.n
  rw [qaE] at hnv
  repeat (first | refine W.w ?_ | refine aE rfl ?_ | refine aG rfl ?_ | (refine zz rfl ?_; first | refine qaa rfl ?_ | refine qaf rfl rfl (hgx _) rfl ?_ | refine qak rfl rfl rfl (by omega) ?_ | refine qai rfl rfl rfl (by omega) ?_))
  refine bO (fun H => H.get h.next = some ⟨cmdC p m, 37, true⟩) (fun _ _ a b => b.c _ _ a) (t := OT.seq [(0, .P), (1, .S), (2, .P), (3, .S), (4, .P), (5, .S), (6, .P), (7, .W), (8, .P), (9, .W), (10, .P), (11, .W)] .nil) mixed (by kernel_rfl) (hgx _) ?_
  repeat (first | refine tp rfl rfl (fun h' hn => qan rfl ⟨rfl, rfl⟩) ?_ | refine cJ rfl rfl rfl (fun h' hn hx => qaf rfl rfl hx rfl ⟨rfl, rfl⟩) ?_ | refine cJ rfl rfl rfl (fun h' hn hx => qam (sz := 6) rfl rfl hx (Ab rfl) ⟨rfl, rfl⟩) ?_)
  refine bH rfl rfl (qbp (vs := moveC p.m m.move) rfl rfl rfl (qdd r.m) rfl ⟨hgx _, ?_⟩)
  repeat (first | refine tp rfl rfl (fun h' hn => qan rfl ⟨rfl, rfl⟩) ?_)
  refine bH rfl rfl (qaI (v := p.e) rfl rfl r.e.one rfl ⟨hgx _, ?_⟩)
  repeat (first | refine tp rfl rfl (fun h' hn => qan rfl ⟨rfl, rfl⟩) ?_)
  refine bH rfl rfl (qaI (v := p.n) rfl rfl r.n.one.1 rfl ⟨hgx _, ?_⟩)
  refine bD ?_
  repeat (first | refine aR ?_)
  have gb : ∀ b, (H2.alloc b).get h.next = some ⟨cmdC p m, 37, true⟩ := hgx
  refine bO (fun H => H.get h.next = some ⟨cmdC p m, 37, true⟩) (fun _ _ a b => b.c _ _ a) (t := OT.seq [(0, .R), (1, .R), (2, .R), (3, .R), (4, .R), (5, .R), (6, .R), (7, .R), (8, .R), (9, .R), (10, .R), (11, .R), (12, .R), (13, .R), (14, .R), (15, .R), (16, .P), (17, .S), (18, .P), (19, .P), (20, .P), (21, .W), (22, .R)] .nil) mixed (by kernel_rfl) (hgx _) ?_
  repeat' (first | refine cY rfl rfl rfl ?_ | refine tr rfl rfl (fun _ hx _ => qae rfl ⟨rfl, rfl⟩) ?_ | refine TAL.rB rfl rfl rfl (fun h' hx hn => qab rfl rfl (qe8 p.m m.move h' (r.m.ext ((xl _).trans hx))) ⟨rfl, rfl⟩) (fun c => ?_) (fun c => ?_) | refine TAL.rB rfl rfl rfl (fun h' hx hn => qab rfl rfl (rrising_c p.e m.entries h' (r.e.ext ((xl _).trans hx))) ⟨rfl, rfl⟩) (fun c => ?_) (fun c => ?_) | refine tr rfl rfl (fun _ hx _ => qan rfl ⟨rfl, rfl⟩) ?_ | refine tr rfl rfl (fun _ hx _ => qaf rfl rfl (hx.c _ _ (hgx _)) rfl ⟨rfl, rfl⟩) ?_ | refine tr rfl rfl (fun _ hx _ => qam (sz := 20) rfl rfl (hx.c _ _ (gl _)) (Aa _) ⟨rfl, rfl⟩) ?_ | refine tr rfl rfl (fun _ hx _ => qam (sz := 6) rfl rfl (hx.c _ _ (hgx _)) (Ab rfl) ⟨rfl, rfl⟩) ?_ | refine tr rfl rfl (fun _ hx _ => qch hev ⟨rfl, rfl⟩) ?_ | refine tp rfl rfl (fun h' hn => qan rfl ⟨rfl, rfl⟩) ?_ | refine tp rfl rfl (fun h' hn => qch hnv ⟨rfl, rfl⟩) ?_ | refine cJ rfl rfl rfl (fun h' hn hx => qaf rfl rfl hx rfl ⟨rfl, rfl⟩) ?_ | refine TAL.rP rfl rfl rfl (fun h' hx hn => qaZ rfl rfl rfl ⟨rfl, rfl⟩) (fun c => ?_) (fun c => ?_) | refine TAL.pP rfl rfl rfl (fun h' hn => qaZ rfl rfl rfl ⟨rfl, rfl⟩) (fun c => ?_) (fun c => ?_) | refine tr rfl rfl (fun _ hx _ => qag (v := .bool _) rfl rfl ⟨rfl, rfl⟩) ?_ | refine tp rfl rfl (fun h' hn => qag (v := .bool _) rfl rfl ⟨rfl, rfl⟩) ?_)
  all_goals refine bH rfl rfl (qaq (vs := cmdC { cmdV0 with m := p.m, e := p.e, n := p.n } { cmd0 with kind := m.kind, move := m.move, entries := m.entries, answers := m.answers }) rfl rfl rfl (qa4 (hq h (aU h))) (gj _) rfl ⟨(aH (Cj n1)).trans (hgx _), ?_⟩)
  repeat' (first | refine bD ?_ | refine tr rfl rfl (fun _ hx _ => qaa rfl ⟨rfl, rfl⟩) ?_)
  repeat' (first | refine aM ?_)
  all_goals (
   exact ⟨_, aV rfl rfl rfl (aF _ _ _) (Aa _), { cmdV0 with m := p.m, e := p.e, n := p.n }, (by rw [hn]; first | (rw [show okC m = true by (unfold okC; grind)]; rfl) | (rw [show okC m = false by (unfold okC; grind)]; rfl)), by rw [hn]; exact hq _ (xf _ _), xf _ _⟩
   )
 by_cases k6 : m.kind = 6 ∨ m.kind = 7
 ·
  have hn : namedC m = { cmd0 with kind := m.kind, key := m.key } := by unfold namedC; grind
  have hq : ∀ h', Ext h h' → CmdR h' { cmdV0 with k := p.k } { cmd0 with kind := m.kind, key := m.key } := fun h' x => ⟨(bQ h').r, (bQ h').m, cZ h', bR h', (r.ext x).k⟩
  have ho : okC m = keyOk m.key := by unfold okC; grind
  rcases k6 with k | k <;>
  ·
   repeat (first | refine W.w ?_ | refine aE rfl ?_ | refine aG rfl ?_ | refine aJ rfl (qaI (v := p.k) rfl rfl r.k.one.1 rfl ?_) | (refine zz rfl ?_; first | refine qaa rfl ?_ | refine qan rfl ?_ | refine qaf rfl rfl (hgx _) rfl ?_ | refine qak rfl rfl rfl (by omega) ?_ | refine qai rfl rfl rfl (by omega) ?_))
   refine bJ (σ := [(0, .R), (1, .R), (2, .R), (3, .R), (4, .W), (5, .R)]) mixed (by kernel_rfl) ?_
   repeat (first | refine dr rfl rfl (fun _ hx _ => qan rfl ⟨rfl, rfl⟩) ?_ | refine dr rfl rfl (fun _ hx _ => qaf rfl rfl (hx.c _ _ (hgx _)) rfl ⟨rfl, rfl⟩) ?_ | refine dr rfl rfl (fun _ hx _ => qam (sz := 20) rfl rfl (hx.c _ _ (gl _)) (Aa _) ⟨rfl, rfl⟩) ?_ | refine dr rfl rfl (fun h' hx _ => qab rfl rfl (rkey_c p.k m.key h' (r.k.ext ((xl _).trans hx))) ⟨rfl, rfl⟩) ?_)
   refine DAL.w0 rfl rfl (qaq (vs := cmdC { cmdV0 with k := p.k } { cmd0 with kind := m.kind, key := m.key }) rfl rfl rfl (qa4 (hq h (aU h))) (gj _) rfl ?_)
   repeat (first | refine dr rfl rfl (fun _ hx _ => qaa rfl ⟨rfl, rfl⟩) ?_)
   refine aX ?_
   repeat (first | refine aM ?_)
   exact ⟨_, aV rfl rfl rfl (aF _ _ _) (Aa _), { cmdV0 with k := p.k }, by rw [hn, ho]; rfl, by rw [hn]; exact hq _ (xf _ _), xf _ _⟩
 by_cases k8 : m.kind = 8
 ·
  have hn : namedC m = { cmd0 with kind := m.kind, key := m.key, group := m.group } := by unfold namedC; grind
  have hq : ∀ h', Ext h h' → CmdR h' { cmdV0 with k := p.k } { cmd0 with kind := m.kind, key := m.key, group := m.group } := fun h' x => ⟨(bQ h').r, (bQ h').m, cZ h', bR h', (r.ext x).k⟩
  repeat (first | refine W.w ?_ | refine aE rfl ?_ | refine aG rfl ?_ | (refine zz rfl ?_; first | refine qaa rfl ?_ | refine qaf rfl rfl (hgx _) rfl ?_ | refine qak rfl rfl rfl (by omega) ?_ | refine qai rfl rfl rfl (by omega) ?_))
  refine bO (fun H => H.get h.next = some ⟨cmdC p m, 37, true⟩) (fun _ _ a b => b.c _ _ a) (t := OT.seq [(0, .P), (1, .S), (2, .P), (3, .S), (4, .P), (5, .W), (6, .P), (7, .W)] .nil) mixed (by kernel_rfl) (hgx _) ?_
  repeat (first | refine tp rfl rfl (fun h' hn => qan rfl ⟨rfl, rfl⟩) ?_ | refine cJ rfl rfl rfl (fun h' hn hx => qaf rfl rfl hx rfl ⟨rfl, rfl⟩) ?_)
  refine bH rfl rfl (qaI (v := p.k) rfl rfl r.k.one.1 rfl ⟨hgx _, ?_⟩)
  repeat (first | refine tp rfl rfl (fun h' hn => qan rfl ⟨rfl, rfl⟩) ?_)
  refine bH rfl rfl (qaI (v := .int .i64 m.group) rfl rfl rfl rfl ⟨hgx _, ?_⟩)
  refine bD ?_
  repeat (first | refine aR ?_)
  refine cD (t := OT.seq [(0, .R), (1, .R), (2, .R), (3, .R), (4, .R), (5, .R), (6, .R), (7, .R), (8, .R), (9, .P), (10, .W), (11, .R)] .nil) mixed (by kernel_rfl) ?_
  repeat' (first | refine cY rfl rfl rfl ?_ | refine tr rfl rfl (fun _ hx _ => qae rfl ⟨rfl, rfl⟩) ?_ | refine TAL.rB rfl rfl rfl (fun h' hx hn => qab rfl rfl (qgP m.group h') ⟨rfl, rfl⟩) (fun c => ?_) (fun c => ?_) | refine tr rfl rfl (fun _ hx _ => qan rfl ⟨rfl, rfl⟩) ?_ | refine tr rfl rfl (fun _ hx _ => qaf rfl rfl (hx.c _ _ (hgx _)) rfl ⟨rfl, rfl⟩) ?_ | refine tr rfl rfl (fun _ hx _ => qam (sz := 20) rfl rfl (hx.c _ _ (gl _)) (Aa _) ⟨rfl, rfl⟩) ?_ | refine tr rfl rfl (fun _ hx _ => qaJ (r.k.ext ((xl _).trans hx)) rfl ⟨rfl, rfl⟩) ?_ | refine TAL.rP rfl rfl rfl (fun h' hx hn => qaZ rfl rfl rfl ⟨rfl, rfl⟩) (fun c => ?_) (fun c => ?_) | refine tp rfl rfl (fun h' hn => qag (v := .bool _) rfl rfl ⟨rfl, rfl⟩) ?_)
  all_goals refine dG rfl rfl (qaq (vs := cmdC { cmdV0 with k := p.k } { cmd0 with kind := m.kind, key := m.key, group := m.group }) rfl rfl rfl (qa4 (hq h (aU h))) (gj _) rfl ?_)
  repeat' (first | refine bD ?_ | refine tr rfl rfl (fun _ hx _ => qaa rfl ⟨rfl, rfl⟩) ?_)
  repeat' (first | refine aM ?_)
  all_goals (
   exact ⟨_, aV rfl rfl rfl (aF _ _ _) (Aa _), { cmdV0 with k := p.k }, (by rw [hn]; first | (rw [show okC m = true by (unfold okC; grind)]; rfl) | (rw [show okC m = false by (unfold okC; grind)]; rfl)), by rw [hn]; exact hq _ (xf _ _), xf _ _⟩
   )
 ·
  have hn : namedC m = { cmd0 with kind := m.kind } := by unfold namedC; grind
  have ho : okC m = false := by unfold okC; grind
  have hq : ∀ h', Ext h h' → CmdR h' cmdV0 { cmd0 with kind := m.kind } := fun h' _ => ⟨(bQ h').r, (bQ h').m, cZ h', bR h', bR h'⟩
  repeat (first | refine W.w ?_ | refine aG rfl ?_ | refine aJ rfl (qaq (vs := cmdC cmdV0 { cmd0 with kind := m.kind }) rfl rfl rfl rfl (gj _) rfl ?_) | (refine zz rfl ?_; first | refine qaa rfl ?_ | refine qaf rfl rfl (hgx _) rfl ?_ | refine qam (sz := 20) rfl rfl (gl _) (Aa _) ?_ | refine qai rfl rfl rfl (by omega) ?_))
  exact ⟨_, aV rfl rfl rfl (aF _ _ _) (Aa _), cmdV0, by rw [hn, ho]; rfl, by rw [hn]; exact hq _ (xf _ _), xf _ _⟩
instance i_rkeep : FnC prog 123 := ⟨Tryz.f123, func123, by kernel_rfl, by kernel_rfl⟩
theorem rkeep_c (v : Value) (l : List (Bytes × Int)) (h : Heap) (r : RK h v l) : ACalls prog 123 [v] h fun u h' => u = .bool (kp l) ∧ h' = h := by
 refine aD func123 rfl rfl ?_
 obtain ⟨va, vc, hv⟩ := r.rn.slice
 have hml : (l.map keptR).length = l.length := Ap _
 by_cases hlen : 128 < l.length
 ·
  repeat (first | refine W.w ?_ | refine aE rfl ?_ | (refine zz rfl ?_; first | refine qaa rfl ?_ | refine qal (v := v) rfl ?_ | refine qaA r.rn rfl ?_ | refine qak rfl rfl rfl (by omega) ?_))
  refine ⟨_, aC rfl, congrArg Value.bool ?_, rfl⟩
  unfold kp
  rw [Af (by omega), Bool.and_false]
 have hkp : kp l = keepOk l := by unfold kp; rw [Al (by omega), Df]
 rw [hkp]
 repeat (first | refine W.w ?_ | refine aG rfl ?_ | (refine zz rfl ?_; first | refine qad rfl ?_ | refine qaa rfl ?_ | refine qal (v := v) rfl ?_ | refine qaA r.rn rfl ?_ | refine qai rfl rfl rfl (by omega) ?_))
 refine bB (α := Nat) (fun k => [(0, v), (3, .int .i64 (k : Nat))]) (fun _ => h) (fun k => k ≤ l.length ∧ keepOk (l.take k) = true) (fun k => l.length - k) 0 ⟨Ao _, rfl⟩ (aI (aA rfl (aA rfl aN))) ?_
 rintro k ⟨hk, hkk⟩
 by_cases hlt : k < l.length
 ·
  obtain ⟨x, hxl⟩ := gX (l := l) (k := k) hlt
  have hx2 : (l.map keptR)[((k : Nat) : Int).toNat]? = some (keptR x) := by simp [hxl]
  have px := r.rn.elt hx2
  have hst := qem hxl hkk
  have hno : ¬ KAt (l.take k) x → keepOk l = false := fun g => qcX (k := k + 1) fun e => g (hst.1 e)
  have cn := rmayName_c x.1 h
  cases hn : nameOk x.1 with
  | false =>
   rw [hn] at cn
   repeat (first | refine W.w ?_ | refine aK rfl rfl ?_ | refine aE rfl ?_ | (refine zz rfl ?_; first | refine qac rfl ?_ | refine qae rfl ?_ | refine qaa rfl ?_ | refine qal (v := v) rfl ?_ | refine qaA r.rn rfl ?_ | refine qak rfl rfl rfl (by omega) ?_ | refine qaD r.rn rfl rfl (by omega) hx2 ?_ | refine qdw px rfl ?_ | refine qbM px rfl rfl rfl ?_ | refine qab rfl rfl cn ?_ | refine qag (v := .bool _) rfl rfl ?_ | refine qaF rfl ?_))
   exact ⟨_, aC rfl, congrArg Value.bool (hno fun g => by have := g.1; rw [hn] at this; cases this).symm, rfl⟩
  | true =>
   rw [hn] at cn
   by_cases hb : 0 ≤ x.2 ∧ x.2 ≤ 2147483647
   ·
    repeat (first | refine W.w ?_ | refine aE rfl ?_ | refine aG rfl ?_ | (refine zz rfl ?_; first | refine qac rfl ?_ | refine qae rfl ?_ | refine qad rfl ?_ | refine qal (v := v) rfl ?_ | refine qaA r.rn rfl ?_ | refine qak rfl rfl rfl (by omega) ?_ | refine qai rfl rfl rfl (by omega) ?_ | refine qaD r.rn rfl rfl (by omega) hx2 ?_ | refine qdw px rfl ?_ | refine qbM px rfl rfl rfl ?_ | refine qab rfl rfl cn ?_ | refine qag (v := .bool _) rfl rfl ?_ | refine qaF rfl ?_))
    refine bB (α := Nat) (fun j => [(0, v), (3, .int .i64 (k : Nat)), (4, .int .i64 (j : Nat))]) (fun _ => h) (fun j => j ≤ k ∧ ∀ y ∈ l.take j, y.1 ≠ x.1) (fun j => k - j) 0 ⟨Ao _, fun y hy => by simp at hy⟩ (aI (aA rfl (aA rfl (aA rfl aN)))) ?_
    rintro j ⟨hj, hjj⟩
    by_cases hjl : j < k
    ·
     obtain ⟨y, hyl⟩ := gX (l := l) (k := j) (by omega)
     have hy2 : (l.map keptR)[((j : Nat) : Int).toNat]? = some (keptR y) := by simp [hyl]
     have py := r.rn.elt hy2
     by_cases he : y.1 = x.1
     ·
      repeat (first | refine W.w ?_ | refine aE rfl ?_ | refine zz rfl (qac rfl ?_) | refine zz rfl (qak rfl rfl rfl (by omega) ?_))
      refine bJ (σ := [(0, .R), (1, .R), (2, .R), (3, .R), (4, .R), (5, .R), (6, .R), (7, .R), (8, .R), (9, .R), (10, .R)]) mixed (by kernel_rfl) ?_
      repeat (first | refine dr rfl rfl (fun _ hx _ => qac rfl ⟨rfl, rfl⟩) ?_ | refine dr rfl rfl (fun _ hx _ => qal (v := v) rfl ⟨rfl, rfl⟩) ?_ | refine dr rfl rfl (fun _ hx _ => qaD (r.rn.ext hx) rfl rfl (by omega) hx2 ⟨rfl, rfl⟩) ?_ | refine dr rfl rfl (fun _ hx _ => qaD (r.rn.ext hx) rfl rfl (by omega) hy2 ⟨rfl, rfl⟩) ?_ | refine dr rfl rfl (fun _ hx _ => qdw (px.ext hx) rfl ⟨rfl, rfl⟩) ?_ | refine dr rfl rfl (fun _ hx _ => qbM (px.ext hx) rfl rfl rfl ⟨rfl, rfl⟩) ?_ | refine dr rfl rfl (fun _ hx _ => qdw (py.ext hx) rfl ⟨rfl, rfl⟩) ?_ | refine dr rfl rfl (fun _ hx _ => qbM (py.ext hx) rfl rfl rfl ⟨rfl, rfl⟩) ?_ | refine dr rfl rfl (fun _ hx _ => qaP rfl rfl he ⟨rfl, rfl⟩) ?_)
      refine aX ?_
      repeat (first | refine W.w ?_ | refine aE rfl ?_ | refine zz rfl (qaa rfl ?_))
      refine ⟨_, aC rfl, congrArg Value.bool (hno fun g => g.2.2 y ?_ he).symm, rfl⟩
      exact Aw (show (l.take k)[j]? = some y by rw [List.getElem?_take, Ah hjl]; exact hyl)
     ·
      repeat (first | refine W.w ?_ | refine aE rfl ?_ | refine zz rfl (qac rfl ?_) | refine zz rfl (qak rfl rfl rfl (by omega) ?_))
      refine bJ (σ := [(0, .R), (1, .R), (2, .R), (3, .R), (4, .R), (5, .R), (6, .R), (7, .R), (8, .R), (9, .R), (10, .R)]) mixed (by kernel_rfl) ?_
      repeat (first | refine dr rfl rfl (fun _ hx _ => qac rfl ⟨rfl, rfl⟩) ?_ | refine dr rfl rfl (fun _ hx _ => qal (v := v) rfl ⟨rfl, rfl⟩) ?_ | refine dr rfl rfl (fun _ hx _ => qaD (r.rn.ext hx) rfl rfl (by omega) hx2 ⟨rfl, rfl⟩) ?_ | refine dr rfl rfl (fun _ hx _ => qaD (r.rn.ext hx) rfl rfl (by omega) hy2 ⟨rfl, rfl⟩) ?_ | refine dr rfl rfl (fun _ hx _ => qdw (px.ext hx) rfl ⟨rfl, rfl⟩) ?_ | refine dr rfl rfl (fun _ hx _ => qbM (px.ext hx) rfl rfl rfl ⟨rfl, rfl⟩) ?_ | refine dr rfl rfl (fun _ hx _ => qdw (py.ext hx) rfl ⟨rfl, rfl⟩) ?_ | refine dr rfl rfl (fun _ hx _ => qbM (py.ext hx) rfl rfl rfl ⟨rfl, rfl⟩) ?_ | refine dr rfl rfl (fun _ hx _ => qaM rfl rfl he ⟨rfl, rfl⟩) ?_)
      refine aX ?_
      repeat (first | refine W.w ?_ | refine aG rfl ?_ | (refine zz rfl ?_; first | refine qac rfl ?_ | refine qad rfl ?_ | refine qau rfl rfl (by omega) ?_))
      refine ⟨j + 1, ⟨hjl, fun z hz => ?_⟩, by omega, aI (aA rfl (aA rfl (aA rfl aN)))⟩
      rw [Bf, hyl, Bh] at hz
      rcases hz with hz | hz
      ·
       exact hjj z hz
      ·
       simp at hz; subst hz; exact he
    ·
     obtain rfl : j = k := by omega
     repeat (first | refine aW ?_ | refine aR ?_ | refine aY ?_ | refine aG rfl ?_ | refine aP ?_ | (refine zz rfl ?_; first | refine qac rfl ?_ | refine qad rfl ?_ | refine qai rfl rfl rfl (by omega) ?_ | refine qau rfl rfl (by omega) ?_))
     exact ⟨j + 1, ⟨hlt, hst.2 ⟨hn, hb, hjj⟩⟩, by omega, aI (aA rfl (aA rfl aN))⟩
   ·
    repeat' (first | refine W.w ?_ | refine aK rfl rfl ?_ | refine aE rfl ?_ | (refine zz rfl ?_; first | refine qac rfl ?_ | refine qae rfl ?_ | refine qaa rfl ?_ | refine qal (v := v) rfl ?_ | refine qaA r.rn rfl ?_ | refine qak rfl rfl rfl (by omega) ?_ | refine qaD r.rn rfl rfl (by omega) hx2 ?_ | refine qdw px rfl ?_ | refine qbM px rfl rfl rfl ?_ | refine qab rfl rfl cn ?_ | refine qag (v := .bool _) rfl rfl ?_ | refine qaT rfl rfl rfl (fun c => ?_) (fun c => ?_) | refine qaF rfl ?_))
    all_goals first | (exfalso; omega) | exact ⟨_, aC rfl, congrArg Value.bool (hno fun g => hb g.2.1).symm, rfl⟩
 ·
  obtain rfl : k = l.length := by omega
  rw [Au] at hkk
  repeat (first | refine aW ?_ | refine aR ?_ | refine aY ?_ | refine aG rfl ?_ | refine aM ?_ | refine aP ?_ | (refine zz rfl ?_; first | refine qac rfl ?_ | refine qaa rfl ?_ | refine qal (v := v) rfl ?_ | refine qaA r.rn rfl ?_ | refine qai rfl rfl rfl (by omega) ?_))
  exact ⟨_, aC rfl, congrArg Value.bool hkk.symm, rfl⟩
instance i_rcmay : FnC prog 121 := ⟨Tryz.f121, func121, by kernel_rfl, by kernel_rfl⟩
instance i_rabare : FnC prog 91 := ⟨Tryz.f91, func91, by kernel_rfl, by kernel_rfl⟩
instance i_rmay : FnC prog 41 := ⟨Tryz.f41, func41, by kernel_rfl, by kernel_rfl⟩
instance i_rmayAct : FnC prog 17 := ⟨Tryz.f17, func17, by kernel_rfl, by kernel_rfl⟩
instance i_rmayLine : FnC prog 19 := ⟨Tryz.f19, func19, by kernel_rfl, by kernel_rfl⟩
def mayC (m : CmdM) : Bool := okC m && decide (namedC m = m)
theorem rcmay_c (p : CmdV) (m : CmdM) (h : Heap) (r : CmdR h p m) : ACalls prog 121 [.agg (cmdC p m).toArray] h fun u h' => u = .bool (mayC m) ∧ h' = h := by
 refine aL fun wf => aO ?_
 refine aD func121 rfl rfl ?_
 repeat (first | refine W.w ?_ | refine zz rfl (qaa rfl ?_) | refine zz rfl (qaS rfl (by intro e; cases e) ?_))
 generalize hH : h.alloc _ = H
 have hg : H.get h.next = some ⟨cmdC p m, 37, true⟩ := hH ▸ aB _ _
 have hx : Ext h H := hH ▸ wf.ext _
 have wfH : WF H := hH ▸ wf.alloc _
 clear hH
 have rH := r.ext hx
 repeat (first | refine zz rfl (qam (sz := 20) rfl rfl hg (Aa _) ?_))
 refine zz rfl (qat (evs := [.agg (cmdC p m).toArray]) rfl rfl ((rbare_c p m H rH).wf_post.mono ?_))
 rintro _ H1 ⟨⟨q, rfl, rq, x1⟩, wf1, _⟩
 repeat (first | refine W.w ?_ | refine aJ rfl (qaL (vs := cmdC q (namedC m)) rfl rfl rfl rfl (qa4 rq) ?_) | (refine zz rfl ?_; first | refine qae rfl ?_ | refine qaC rfl ?_ | refine qaa rfl ?_ | refine qav rfl rfl ?_ | refine qax ?_))
 obtain ⟨H2, hQ, g2, x2, _, _⟩ := aq wf1 ⟨cmdC q (namedC m), 37, true⟩
 rw [hQ]
 have hxx := hx.trans (x1.trans x2)
 have cs := qff q p (namedC m) m H2 (rq.ext x2) (r.ext hxx)
 have hg2 := x2.c _ _ (x1.c _ _ hg)
 unfold mayC
 cases ho : okC m with
 | false =>
  repeat' (first | refine W.w ?_ | refine aK rfl rfl ?_ | refine zz rfl (qaa rfl ?_) | refine zz rfl (qag (v := .bool _) rfl rfl ?_))
  exact ⟨_, aC rfl, rfl, hxx, rfl, rfl⟩
 | true =>
  repeat (first | refine W.w ?_ | (refine zz rfl ?_; first | refine qaa rfl ?_ | refine qam (sz := 20) rfl rfl g2 (Aa _) ?_ | refine qam (sz := 20) rfl rfl hg2 (Aa _) ?_ | refine qab rfl rfl cs ?_ | refine qag (v := .bool _) rfl rfl ?_))
  exact ⟨_, aC rfl, rfl, hxx, rfl, rfl⟩
def nodeB (nodes : Int) (a : ActM) : Bool := decide (0 ≤ a.node ∧ a.node < nodes)
def groupB (groups : Int) (a : ActM) : Bool := decide (0 ≤ a.group ∧ a.group < groups)
def clientB (a : ActM) : Bool := decide (1 ≤ a.client ∧ a.client ≤ 4)
def rokA (nodes groups : Int) (a : ActM) : Bool :=
 if a.kind = 1 ∨ a.kind = 2 ∨ a.kind = 6 ∨ a.kind = 7 then nodeB nodes a && groupB groups a
 else if a.kind = 3 ∨ a.kind = 4 ∨ a.kind = 5 then decide (0 ≤ a.n ∧ a.n ≤ 2147483647)
 else if a.kind = 8 ∨ a.kind = 13 then nodeB nodes a
 else if a.kind = 9 then nodeB nodes a && mayC a.cmd && decide (a.cmd.kind = 6 ∨ a.cmd.kind = 7 ∨ a.cmd.kind = 8)
 else if a.kind = 10 then clientB a && nodeB nodes a && groupB groups a && mayAsk a.ask
 else if a.kind = 11 then clientB a && nodeB nodes a && groupB groups a
 else if a.kind = 12 then nodeB nodes a && kp a.keep
 else false
theorem may_d (nodes groups : Int) (a : ActM) : mayAct nodes groups a = (rokA nodes groups a && decide (namedA a = a)) := by
 have key : ∀ (p : Prop) (_ : Decidable p) (X : ActM) (b : Bool), (p ↔ (b = true ∧ a = X)) → decide p = (b && decide (X = a)) := by
  intro p _ X b hp
  rw [Dd, Aq, hp, Ae, Aq]
  exact ⟨fun g => ⟨g.1, g.2.symm⟩, fun g => ⟨g.1, g.2.symm⟩⟩
 have pe : ∀ c, mayPlan c = (mayC c && decide (c.kind = 6 ∨ c.kind = 7 ∨ c.kind = 8)) := fun c => by rw [qeO]; rfl
 unfold mayAct rokA nodeB groupB clientB
 by_cases k1 : a.kind = 1 ∨ a.kind = 2 ∨ a.kind = 6 ∨ a.kind = 7
 ·
  have hn : namedA a = { act0 with kind := a.kind, node := a.node, group := a.group } := by unfold namedA; grind
  rw [Ah k1, Ah k1, hn]
  refine key _ _ _ _ ?_
  generalize ({ act0 with kind := a.kind, node := a.node, group := a.group } : ActM) = X
  simp only [Ae, Aq]
  grind
 rw [Ac k1, Ac k1]
 by_cases k2 : a.kind = 3 ∨ a.kind = 4 ∨ a.kind = 5
 ·
  have hn : namedA a = { act0 with kind := a.kind, n := a.n } := by unfold namedA; grind
  rw [Ah k2, Ah k2, hn]
  refine key _ _ _ _ ?_
  generalize ({ act0 with kind := a.kind, n := a.n } : ActM) = X
  simp only [Aq]
  grind
 rw [Ac k2, Ac k2]
 by_cases k3 : a.kind = 8 ∨ a.kind = 13
 ·
  have hn : namedA a = { act0 with kind := a.kind, node := a.node } := by unfold namedA; grind
  rw [Ah k3, Ah k3, hn]
  refine key _ _ _ _ ?_
  generalize ({ act0 with kind := a.kind, node := a.node } : ActM) = X
  simp only [Aq]
  grind
 rw [Ac k3, Ac k3]
 by_cases k4 : a.kind = 9
 ·
  have hn : namedA a = { act0 with kind := a.kind, node := a.node, cmd := a.cmd } := by unfold namedA; grind
  rw [Ah k4, Ah k4, hn, pe]
  refine key _ _ _ _ ?_
  generalize ({ act0 with kind := a.kind, node := a.node, cmd := a.cmd } : ActM) = X
  simp only [Ae, Aq]
  grind
 rw [Ac k4, Ac k4]
 by_cases k5 : a.kind = 10
 ·
  have hn : namedA a = { act0 with kind := a.kind, node := a.node, group := a.group, client := a.client, ask := a.ask } := by unfold namedA; grind
  rw [Ah k5, Ah k5, hn]
  refine key _ _ _ _ ?_
  have e : ({ act0 with kind := a.kind, client := a.client, node := a.node, group := a.group, ask := a.ask } : ActM) = { act0 with kind := a.kind, node := a.node, group := a.group, client := a.client, ask := a.ask } := rfl
  rw [e]
  generalize ({ act0 with kind := a.kind, node := a.node, group := a.group, client := a.client, ask := a.ask } : ActM) = X
  simp only [Ae, Aq]
  grind
 rw [Ac k5, Ac k5]
 by_cases k6 : a.kind = 11
 ·
  have hn : namedA a = { act0 with kind := a.kind, node := a.node, group := a.group, client := a.client } := by unfold namedA; grind
  rw [Ah k6, Ah k6, hn]
  refine key _ _ _ _ ?_
  have e : ({ act0 with kind := a.kind, client := a.client, node := a.node, group := a.group } : ActM) = { act0 with kind := a.kind, node := a.node, group := a.group, client := a.client } := rfl
  rw [e]
  generalize ({ act0 with kind := a.kind, node := a.node, group := a.group, client := a.client } : ActM) = X
  simp only [Ae, Aq]
  grind
 rw [Ac k6, Ac k6]
 by_cases k7 : a.kind = 12
 ·
  have hn : namedA a = { act0 with kind := a.kind, node := a.node, keep := a.keep } := by unfold namedA; grind
  rw [Ah k7, Ah k7, hn]
  refine key _ _ _ _ ?_
  generalize ({ act0 with kind := a.kind, node := a.node, keep := a.keep } : ActM) = X
  unfold kp
  simp only [Ae, Aq]
  grind
 rw [Ac k7, Ac k7]
 rfl
theorem rabare_c (p : ActV) (a : ActM) (nodes groups : Int) (h : Heap) (r : ActR h p a) : ACalls prog 91 [.agg (actC p a).toArray, .int .i64 nodes, .int .i64 groups] h fun u h' => ∃ q, u = .tuple #[.agg (actC q (namedA a)).toArray, .bool (rokA nodes groups a)] ∧ ActR h' q (namedA a) ∧ Ext h h' := by
 refine aL fun wf => ?_
 refine aD func91 rfl rfl ?_
 repeat (first | refine W.w ?_ | refine zz rfl (qaS rfl (by intro e; cases e) ?_))
 generalize hH : h.alloc _ = H1
 have hg1 : H1.get h.next = some ⟨actC p a, 40, true⟩ := hH ▸ aB _ _
 have hx1 : Ext h H1 := hH ▸ wf.ext _
 have wf1 : WF H1 := hH ▸ wf.alloc _
 have n1 : h.next < H1.next := wf1.lt hg1
 clear hH
 repeat (first | refine W.w ?_ | refine zz rfl (qaa rfl ?_) | refine zz rfl (qax ?_))
 generalize hH : H1.alloc _ = H2
 have g2 : H2.get H1.next = some ⟨actC actV0 act0, 40, true⟩ := hH ▸ aB _ _
 have hx2 : Ext H1 H2 := hH ▸ wf1.ext _
 have wf2 : WF H2 := hH ▸ wf1.alloc _
 have n2 : H1.next < H2.next := wf2.lt g2
 have hg2 := hx2.c _ _ hg1
 clear hH
 repeat (first | refine W.w ?_ | refine aJ rfl (qaL (vs := actC actV0 { act0 with kind := a.kind }) rfl rfl rfl rfl rfl ?_) | (refine zz rfl ?_; first | refine qan rfl ?_ | refine qaf rfl rfl hg2 rfl ?_ | refine qay (out := actC actV0 { act0 with kind := a.kind }) rfl rfl ?_ | refine qax ?_))
 have gl := aB H2
 have hgx : ∀ b, (H2.alloc b).get h.next = some ⟨actC p a, 40, true⟩ := fun b => (wf2.ext b).c _ _ hg2
 have gj : ∀ b, (H2.alloc b).get H1.next = some ⟨actC actV0 act0, 40, true⟩ := fun b => (wf2.ext b).c _ _ g2
 have xl : ∀ b, Ext h (H2.alloc b) := fun b => hx1.trans (hx2.trans (wf2.ext b))
 have xf : ∀ b b', Ext h ((H2.alloc b).set H1.next b') := fun b b' => wf.ext_set (xl b) (Dy n1) _
 have hz : ∀ h', ActR h' actV0 act0 := fun h' => ActR.nil h'
 clear hg1 hg2 g2 hx1 hx2 wf1
 refine AWp.cutI (α := Unit) (fun _ => [(3, ptr h.next), (6, ptr H1.next), (8, ptr H2.next), (9, .bool (nodeB nodes a)), (10, .bool (groupB groups a))]) (fun _ => H2.alloc ⟨actC actV0 { act0 with kind := a.kind }, 40, true⟩) (fun _ => True) ?_ fun _ _ => ?_
 ·
  refine bN mixed (by kernel_rfl) ?_
  repeat' (first | refine bX rfl rfl rfl ?_ | refine aX ?_ | refine dr rfl rfl (fun _ hx _ => qac rfl ⟨rfl, rfl⟩) ?_ | refine dr rfl rfl (fun _ hx _ => qae rfl ⟨rfl, rfl⟩) ?_ | refine dr rfl rfl (fun _ hx _ => qaa rfl ⟨rfl, rfl⟩) ?_ | refine dr rfl rfl (fun _ hx _ => qan rfl ⟨rfl, rfl⟩) ?_ | refine dr rfl rfl (fun _ hx _ => qaf rfl rfl (hx.c _ _ (hgx _)) rfl ⟨rfl, rfl⟩) ?_ | refine dr rfl rfl (fun _ hx _ => qag (v := .bool _) rfl rfl ⟨rfl, rfl⟩) ?_ | refine DAL.rP rfl rfl rfl (fun h' hx hn => qaZ rfl rfl rfl ⟨rfl, rfl⟩) (fun c => ?_) (fun c => ?_))
  all_goals refine ⟨(), trivial, aI (aA rfl (aA rfl (aA rfl (aA (congrArg Value.bool ?_) (aA (congrArg Value.bool ?_) aN)))))⟩
  all_goals clear hz xf xl gj hgx gl n2 wf2 n1 wf r
  all_goals grind [nodeB, groupB]
 refine AWp.seqI (α := Unit) (fun _ => [(3, ptr h.next), (6, ptr H1.next), (8, ptr H2.next), (9, .bool (nodeB nodes a)), (10, .bool (groupB groups a)), (11, .bool (clientB a))]) (fun _ => H2.alloc ⟨actC actV0 { act0 with kind := a.kind }, 40, true⟩) (fun _ => True) ?_ fun _ _ => ?_
 ·
  repeat' (first | refine W.w ?_ | refine aK rfl rfl ?_ | (refine zz rfl ?_; first | refine qae rfl ?_ | refine qaa rfl ?_ | refine qan rfl ?_ | refine qaf rfl rfl (hgx _) rfl ?_ | refine qag (v := .bool _) rfl rfl ?_ | refine qaT rfl rfl rfl (fun c => ?_) (fun c => ?_)))
  all_goals refine ⟨(), trivial, aI (aA rfl (aA rfl (aA rfl (aA rfl (aA rfl (aA (congrArg Value.bool ?_) aN))))))⟩
  all_goals clear hz xf xl gj hgx gl n2 wf2 n1 wf r
  all_goals grind [clientB]
 by_cases k1 : a.kind = 1 ∨ a.kind = 2 ∨ a.kind = 6 ∨ a.kind = 7
 ·
  have hn : namedA a = { act0 with kind := a.kind, node := a.node, group := a.group } := by unfold namedA; grind
  have ho : rokA nodes groups a = (nodeB nodes a && groupB groups a) := by unfold rokA; rw [Ah k1]
  have hq : ∀ h', Ext h h' → ActR h' actV0 { act0 with kind := a.kind, node := a.node, group := a.group } := fun h' x => ⟨(hz h').ra, (hz h').rc, (hz h').rk⟩
  rw [ho]
  rcases k1 with k | k | k | k <;>
  ·
   repeat (first | refine W.w ?_ | refine aE rfl ?_ | refine aG rfl ?_ | (refine zz rfl ?_; first | refine qaa rfl ?_ | refine qan rfl ?_ | refine qaf rfl rfl (hgx _) rfl ?_ | refine qak rfl rfl rfl (by omega) ?_ | refine qai rfl rfl rfl (by omega) ?_))
   refine bO (fun H => H.get h.next = some ⟨actC p a, 40, true⟩) (fun _ _ a b => b.c _ _ a) (t := OT.seq [(0, .P), (1, .S), (2, .P), (3, .S), (4, .P), (5, .W), (6, .P), (7, .W)] .nil) mixed (by kernel_rfl) (hgx _) ?_
   repeat (first | refine tp rfl rfl (fun h' hn => qan rfl ⟨rfl, rfl⟩) ?_ | refine cJ rfl rfl rfl (fun h' hn hx => qaf rfl rfl hx rfl ⟨rfl, rfl⟩) ?_)
   refine bH rfl rfl (qaI (v := .int .i64 a.node) rfl rfl rfl rfl ⟨hgx _, ?_⟩)
   repeat (first | refine tp rfl rfl (fun h' hn => qan rfl ⟨rfl, rfl⟩) ?_)
   refine bH rfl rfl (qaI (v := .int .i64 a.group) rfl rfl rfl rfl ⟨hgx _, ?_⟩)
   refine bD ?_
   cases nodeB nodes a <;> cases groupB groups a <;>
   ·
    repeat (first | refine W.w ?_ | refine aK rfl rfl ?_ | refine aJ rfl (qaq (vs := actC actV0 (namedA a)) rfl (by rw [hn]; rfl) rfl (by rw [hn]; exact qaO (hq h (aU h))) (gj _) rfl ?_) | (refine zz rfl ?_; first | refine qae rfl ?_ | refine qaa rfl ?_ | refine qam (sz := 33) rfl rfl (gl _) (Aa _) ?_ | refine qag (v := .bool _) rfl rfl ?_))
    exact ⟨_, aV rfl rfl rfl (aF _ _ _) (Aa _), actV0, rfl, by rw [hn]; exact hq _ (xf _ _), xf _ _⟩
 by_cases k2 : a.kind = 3 ∨ a.kind = 4 ∨ a.kind = 5
 ·
  have hn : namedA a = { act0 with kind := a.kind, n := a.n } := by unfold namedA; grind
  have ho : rokA nodes groups a = decide (0 ≤ a.n ∧ a.n ≤ 2147483647) := by unfold rokA; rw [Ac k1, Ah k2]
  have hq : ∀ h', Ext h h' → ActR h' actV0 { act0 with kind := a.kind, n := a.n } := fun h' x => ⟨(hz h').ra, (hz h').rc, (hz h').rk⟩
  rw [ho]
  rcases k2 with k | k | k <;>
  ·
   repeat (first | refine W.w ?_ | refine aE rfl ?_ | refine aG rfl ?_ | refine aJ rfl (qaI (v := .int .i64 a.n) rfl rfl rfl rfl ?_) | (refine zz rfl ?_; first | refine qaa rfl ?_ | refine qan rfl ?_ | refine qaf rfl rfl (hgx _) rfl ?_ | refine qak rfl rfl rfl (by omega) ?_ | refine qai rfl rfl rfl (by omega) ?_))
   refine bO (fun H => H.get h.next = some ⟨actC p a, 40, true⟩) (fun _ _ a b => b.c _ _ a) (t := OT.seq [(0, .R), (1, .R), (2, .R), (3, .R), (4, .R), (5, .P), (6, .S), (7, .P), (8, .P), (9, .W), (10, .R)] .nil) mixed (by kernel_rfl) (hgx _) ?_
   repeat' (first | refine cY rfl rfl rfl ?_ | refine tr rfl rfl (fun _ hx _ => qae rfl ⟨rfl, rfl⟩) ?_ | refine tr rfl rfl (fun _ hx _ => qan rfl ⟨rfl, rfl⟩) ?_ | refine tr rfl rfl (fun _ hx _ => qaf rfl rfl (hx.c _ _ (hgx _)) rfl ⟨rfl, rfl⟩) ?_ | refine tr rfl rfl (fun _ hx _ => qam (sz := 33) rfl rfl (hx.c _ _ (gl _)) (Aa _) ⟨rfl, rfl⟩) ?_ | refine tp rfl rfl (fun h' hn => qan rfl ⟨rfl, rfl⟩) ?_ | refine tp rfl rfl (fun h' hn => qag (v := .bool _) rfl rfl ⟨rfl, rfl⟩) ?_ | refine cJ rfl rfl rfl (fun h' hn hx => qaf rfl rfl hx rfl ⟨rfl, rfl⟩) ?_ | refine TAL.rP rfl rfl rfl (fun h' hx hn => qaZ rfl rfl rfl ⟨rfl, rfl⟩) (fun c => ?_) (fun c => ?_) | refine TAL.pP rfl rfl rfl (fun h' hn => qaZ rfl rfl rfl ⟨rfl, rfl⟩) (fun c => ?_) (fun c => ?_))
   all_goals refine bH rfl rfl (qaq (vs := actC actV0 (namedA a)) rfl (by rw [hn]; rfl) rfl (by rw [hn]; exact qaO (hq h (aU h))) (gj _) rfl ⟨(aH (Cj n1)).trans (hgx _), ?_⟩)
   repeat' (first | refine bD ?_ | refine tr rfl rfl (fun _ hx _ => qaa rfl ⟨rfl, rfl⟩) ?_)
   repeat' (first | refine aM ?_)
   all_goals refine ⟨_, aV rfl rfl rfl (aF _ _ _) (Aa _), actV0, congrArg (fun b => Value.tuple #[.agg (actC actV0 (namedA a)).toArray, .bool b]) ?_, by rw [hn]; exact hq _ (xf _ _), xf _ _⟩
   all_goals clear hz xf xl gj hgx gl n2 wf2 n1 wf r hq hn ho
   all_goals grind
 by_cases k3 : a.kind = 8 ∨ a.kind = 13
 ·
  have hn : namedA a = { act0 with kind := a.kind, node := a.node } := by unfold namedA; grind
  have ho : rokA nodes groups a = nodeB nodes a := by unfold rokA; rw [Ac k1, Ac k2, Ah k3]
  have hq : ∀ h', Ext h h' → ActR h' actV0 { act0 with kind := a.kind, node := a.node } := fun h' x => ⟨(hz h').ra, (hz h').rc, (hz h').rk⟩
  rw [ho]
  rcases k3 with k | k <;>
  ·
   repeat (first | refine W.w ?_ | refine aE rfl ?_ | refine aG rfl ?_ | refine aJ rfl (qaI (v := .int .i64 a.node) rfl rfl rfl rfl ?_) | refine aJ rfl (qaq (vs := actC actV0 (namedA a)) rfl (by rw [hn]; rfl) rfl (by rw [hn]; exact qaO (hq h (aU h))) (gj _) rfl ?_) | (refine zz rfl ?_; first | refine qae rfl ?_ | refine qaa rfl ?_ | refine qan rfl ?_ | refine qaf rfl rfl (hgx _) rfl ?_ | refine qam (sz := 33) rfl rfl (gl _) (Aa _) ?_ | refine qak rfl rfl rfl (by omega) ?_ | refine qai rfl rfl rfl (by omega) ?_))
   exact ⟨_, aV rfl rfl rfl (aF _ _ _) (Aa _), actV0, rfl, by rw [hn]; exact hq _ (xf _ _), xf _ _⟩
 by_cases k4 : a.kind = 9
 ·
  have hn : namedA a = { act0 with kind := a.kind, node := a.node, cmd := a.cmd } := by unfold namedA; grind
  have ho : rokA nodes groups a = (nodeB nodes a && mayC a.cmd && decide (a.cmd.kind = 6 ∨ a.cmd.kind = 7 ∨ a.cmd.kind = 8)) := by unfold rokA; rw [Ac k1, Ac k2, Ac k3, Ah k4]
  have hq : ∀ h', Ext h h' → ActR h' { actV0 with c := p.c } { act0 with kind := a.kind, node := a.node, cmd := a.cmd } := fun h' x => ⟨(hz h').ra, (r.ext x).rc, (hz h').rk⟩
  rw [ho]
  repeat (first | refine W.w ?_ | refine aE rfl ?_ | refine aG rfl ?_ | (refine zz rfl ?_; first | refine qaa rfl ?_ | refine qan rfl ?_ | refine qaf rfl rfl (hgx _) rfl ?_ | refine qak rfl rfl rfl (by omega) ?_ | refine qai rfl rfl rfl (by omega) ?_))
  refine bO (fun H => H.get h.next = some ⟨actC p a, 40, true⟩) (fun _ _ a b => b.c _ _ a) (t := OT.seq [(0, .P), (1, .S), (2, .P), (3, .S), (4, .P), (5, .W), (6, .P), (7, .W)] .nil) mixed (by kernel_rfl) (hgx _) ?_
  repeat (first | refine tp rfl rfl (fun h' hn => qan rfl ⟨rfl, rfl⟩) ?_ | refine cJ rfl rfl rfl (fun h' hn hx => qaf rfl rfl hx rfl ⟨rfl, rfl⟩) ?_ | refine cJ rfl rfl rfl (fun h' hn hx => qam (sz := 20) rfl rfl hx (Ab rfl) ⟨rfl, rfl⟩) ?_)
  refine bH rfl rfl (qaI (v := .int .i64 a.node) rfl rfl rfl rfl ⟨hgx _, ?_⟩)
  repeat (first | refine tp rfl rfl (fun h' hn => qan rfl ⟨rfl, rfl⟩) ?_)
  refine bH rfl rfl (qbp (vs := cmdC p.c a.cmd) rfl rfl rfl (qa4 r.rc) rfl ⟨hgx _, ?_⟩)
  refine bD ?_
  repeat (first | refine W.w ?_ | (refine zz rfl ?_; first | refine qad rfl ?_ | refine qan rfl ?_ | refine qaf rfl rfl (hgx _) rfl ?_))
  cases nodeB nodes a <;>
  ·
   refine bO (fun H => H.get h.next = some ⟨actC p a, 40, true⟩) (fun _ _ a b => b.c _ _ a) (t := OT.seq [(0, .R), (1, .R), (2, .R), (3, .R), (4, .R), (5, .R), (6, .R), (7, .R), (8, .R), (9, .R), (10, .R), (11, .R), (12, .R), (13, .R), (14, .R), (15, .P), (16, .P), (17, .P), (18, .P), (19, .W), (20, .R)] .nil) mixed (by kernel_rfl) (hgx _) ?_
   repeat' (first | refine cY rfl rfl rfl ?_ | refine tr rfl rfl (fun _ hx _ => qac rfl ⟨rfl, rfl⟩) ?_ | refine tr rfl rfl (fun _ hx _ => qae rfl ⟨rfl, rfl⟩) ?_ | refine tp rfl rfl (fun h' hn => qac rfl ⟨rfl, rfl⟩) ?_ | refine TAL.rB rfl rfl rfl (fun h' hx hn => qab rfl rfl (rcmay_c p.c a.cmd h' (r.rc.ext ((xl _).trans hx))) ⟨rfl, rfl⟩) (fun c => ?_) (fun c => ?_) | refine tr rfl rfl (fun _ hx _ => qan rfl ⟨rfl, rfl⟩) ?_ | refine tr rfl rfl (fun _ hx _ => qam (sz := 33) rfl rfl (hx.c _ _ (gl _)) (Aa _) ⟨rfl, rfl⟩) ?_ | refine tr rfl rfl (fun _ hx _ => qam (sz := 20) rfl rfl (hx.c _ _ (hgx _)) (Ab rfl) ⟨rfl, rfl⟩) ?_ | refine tr rfl rfl (fun _ hx _ => qag (v := .bool _) rfl rfl ⟨rfl, rfl⟩) ?_ | refine tp rfl rfl (fun h' hn => qag (v := .bool _) rfl rfl ⟨rfl, rfl⟩) ?_ | refine TAL.rP rfl rfl rfl (fun h' hx hn => qaZ rfl rfl rfl ⟨rfl, rfl⟩) (fun c => ?_) (fun c => ?_) | refine TAL.pP rfl rfl rfl (fun h' hn => qaZ rfl rfl rfl ⟨rfl, rfl⟩) (fun c => ?_) (fun c => ?_))
   all_goals refine bH rfl rfl (qaq (vs := actC { actV0 with c := p.c } (namedA a)) rfl (by rw [hn]; rfl) rfl (by rw [hn]; exact qaO (hq h (aU h))) (gj _) rfl ⟨(aH (Cj n1)).trans (hgx _), ?_⟩)
   repeat' (first | refine bD ?_ | refine tr rfl rfl (fun _ hx _ => qaa rfl ⟨rfl, rfl⟩) ?_)
   repeat' (first | refine aM ?_)
   all_goals refine ⟨_, aV rfl rfl rfl (aF _ _ _) (Aa _), { actV0 with c := p.c }, congrArg (fun b => Value.tuple #[.agg (actC { actV0 with c := p.c } (namedA a)).toArray, .bool b]) ?_, by rw [hn]; exact hq _ (xf _ _), xf _ _⟩
   all_goals clear hz xf xl gj hgx gl n2 wf2 n1 wf r hq hn ho
   all_goals grind
 by_cases k5 : a.kind = 10
 ·
  have hn : namedA a = { act0 with kind := a.kind, node := a.node, group := a.group, client := a.client, ask := a.ask } := by unfold namedA; grind
  have ho : rokA nodes groups a = (clientB a && nodeB nodes a && groupB groups a && mayAsk a.ask) := by unfold rokA; rw [Ac k1, Ac k2, Ac k3, Ac k4, Ah k5]
  have hq : ∀ h', Ext h h' → ActR h' { actV0 with q := p.q } { act0 with kind := a.kind, node := a.node, group := a.group, client := a.client, ask := a.ask } := fun h' x => ⟨(r.ext x).ra, (hz h').rc, (hz h').rk⟩
  rw [ho]
  repeat (first | refine W.w ?_ | refine aE rfl ?_ | refine aG rfl ?_ | (refine zz rfl ?_; first | refine qaa rfl ?_ | refine qan rfl ?_ | refine qaf rfl rfl (hgx _) rfl ?_ | refine qak rfl rfl rfl (by omega) ?_ | refine qai rfl rfl rfl (by omega) ?_))
  refine bO (fun H => H.get h.next = some ⟨actC p a, 40, true⟩) (fun _ _ a b => b.c _ _ a) (t := OT.seq [(0, .P), (1, .S), (2, .P), (3, .S), (4, .P), (5, .S), (6, .P), (7, .S), (8, .P), (9, .W), (10, .P), (11, .W), (12, .P), (13, .W), (14, .P), (15, .W)] .nil) mixed (by kernel_rfl) (hgx _) ?_
  repeat (first | refine tp rfl rfl (fun h' hn => qan rfl ⟨rfl, rfl⟩) ?_ | refine cJ rfl rfl rfl (fun h' hn hx => qaf rfl rfl hx rfl ⟨rfl, rfl⟩) ?_ | refine cJ rfl rfl rfl (fun h' hn hx => qam (sz := 7) rfl rfl hx (Ab rfl) ⟨rfl, rfl⟩) ?_)
  refine bH rfl rfl (qaI (v := .int .i64 a.client) rfl rfl rfl rfl ⟨hgx _, ?_⟩)
  repeat (first | refine tp rfl rfl (fun h' hn => qan rfl ⟨rfl, rfl⟩) ?_)
  refine bH rfl rfl (qaI (v := .int .i64 a.node) rfl rfl rfl rfl ⟨hgx _, ?_⟩)
  repeat (first | refine tp rfl rfl (fun h' hn => qan rfl ⟨rfl, rfl⟩) ?_)
  refine bH rfl rfl (qaI (v := .int .i64 a.group) rfl rfl rfl rfl ⟨hgx _, ?_⟩)
  repeat (first | refine tp rfl rfl (fun h' hn => qan rfl ⟨rfl, rfl⟩) ?_)
  refine bH rfl rfl (qbp (vs := askC p.q a.ask) rfl rfl rfl (qde r.ra) rfl ⟨hgx _, ?_⟩)
  refine bD ?_
  cases clientB a <;> cases nodeB nodes a <;> cases groupB groups a <;>
  ·
   repeat (first | refine aR ?_)
   refine bO (fun H => H.get h.next = some ⟨actC p a, 40, true⟩) (fun _ _ a b => b.c _ _ a) (t := OT.seq [(0, .R), (1, .R), (2, .R), (3, .R), (4, .R), (5, .R), (6, .R), (7, .R), (8, .R), (9, .R), (10, .R), (11, .R), (12, .P), (13, .W), (14, .R)] .nil) mixed (by kernel_rfl) (hgx _) ?_
   repeat' (first | refine cY rfl rfl rfl ?_ | refine tr rfl rfl (fun _ hx _ => qae rfl ⟨rfl, rfl⟩) ?_ | refine TAL.rB rfl rfl rfl (fun h' hx hn => qab rfl rfl (qgF p.q a.ask h' (r.ra.ext ((xl _).trans hx))) ⟨rfl, rfl⟩) (fun c => ?_) (fun c => ?_) | refine tr rfl rfl (fun _ hx _ => qan rfl ⟨rfl, rfl⟩) ?_ | refine tr rfl rfl (fun _ hx _ => qam (sz := 33) rfl rfl (hx.c _ _ (gl _)) (Aa _) ⟨rfl, rfl⟩) ?_ | refine tr rfl rfl (fun _ hx _ => qam (sz := 7) rfl rfl (hx.c _ _ (hgx _)) (Ab rfl) ⟨rfl, rfl⟩) ?_ | refine tr rfl rfl (fun _ hx _ => qag (v := .bool _) rfl rfl ⟨rfl, rfl⟩) ?_ | refine tp rfl rfl (fun h' hn => qag (v := .bool _) rfl rfl ⟨rfl, rfl⟩) ?_)
   all_goals refine bH rfl rfl (qaq (vs := actC { actV0 with q := p.q } (namedA a)) rfl (by rw [hn]; rfl) rfl (by rw [hn]; exact qaO (hq h (aU h))) (gj _) rfl ⟨(aH (Cj n1)).trans (hgx _), ?_⟩)
   repeat' (first | refine bD ?_ | refine tr rfl rfl (fun _ hx _ => qaa rfl ⟨rfl, rfl⟩) ?_)
   repeat' (first | refine aM ?_)
   all_goals refine ⟨_, aV rfl rfl rfl (aF _ _ _) (Aa _), { actV0 with q := p.q }, congrArg (fun b => Value.tuple #[.agg (actC { actV0 with q := p.q } (namedA a)).toArray, .bool b]) ?_, by rw [hn]; exact hq _ (xf _ _), xf _ _⟩
   all_goals clear hz xf xl gj hgx gl n2 wf2 n1 wf r hq hn ho
   all_goals grind
 by_cases k6 : a.kind = 11
 ·
  have hn : namedA a = { act0 with kind := a.kind, node := a.node, group := a.group, client := a.client } := by unfold namedA; grind
  have ho : rokA nodes groups a = (clientB a && nodeB nodes a && groupB groups a) := by unfold rokA; rw [Ac k1, Ac k2, Ac k3, Ac k4, Ac k5, Ah k6]
  have hq : ∀ h', Ext h h' → ActR h' actV0 { act0 with kind := a.kind, node := a.node, group := a.group, client := a.client } := fun h' x => ⟨(hz h').ra, (hz h').rc, (hz h').rk⟩
  rw [ho]
  repeat (first | refine W.w ?_ | refine aE rfl ?_ | refine aG rfl ?_ | (refine zz rfl ?_; first | refine qaa rfl ?_ | refine qan rfl ?_ | refine qaf rfl rfl (hgx _) rfl ?_ | refine qak rfl rfl rfl (by omega) ?_ | refine qai rfl rfl rfl (by omega) ?_))
  refine bO (fun H => H.get h.next = some ⟨actC p a, 40, true⟩) (fun _ _ a b => b.c _ _ a) (t := OT.seq [(0, .P), (1, .S), (2, .P), (3, .S), (4, .P), (5, .S), (6, .P), (7, .W), (8, .P), (9, .W), (10, .P), (11, .W)] .nil) mixed (by kernel_rfl) (hgx _) ?_
  repeat (first | refine tp rfl rfl (fun h' hn => qan rfl ⟨rfl, rfl⟩) ?_ | refine cJ rfl rfl rfl (fun h' hn hx => qaf rfl rfl hx rfl ⟨rfl, rfl⟩) ?_)
  refine bH rfl rfl (qaI (v := .int .i64 a.client) rfl rfl rfl rfl ⟨hgx _, ?_⟩)
  repeat (first | refine tp rfl rfl (fun h' hn => qan rfl ⟨rfl, rfl⟩) ?_)
  refine bH rfl rfl (qaI (v := .int .i64 a.node) rfl rfl rfl rfl ⟨hgx _, ?_⟩)
  repeat (first | refine tp rfl rfl (fun h' hn => qan rfl ⟨rfl, rfl⟩) ?_)
  refine bH rfl rfl (qaI (v := .int .i64 a.group) rfl rfl rfl rfl ⟨hgx _, ?_⟩)
  refine bD ?_
  cases clientB a <;> cases nodeB nodes a <;> cases groupB groups a <;>
  ·
   repeat (first | refine W.w ?_ | refine aK rfl rfl ?_ | refine aJ rfl (qaq (vs := actC actV0 (namedA a)) rfl (by rw [hn]; rfl) rfl (by rw [hn]; exact qaO (hq h (aU h))) (gj _) rfl ?_) | (refine zz rfl ?_; first | refine qae rfl ?_ | refine qaa rfl ?_ | refine qam (sz := 33) rfl rfl (gl _) (Aa _) ?_ | refine qag (v := .bool _) rfl rfl ?_))
   exact ⟨_, aV rfl rfl rfl (aF _ _ _) (Aa _), actV0, rfl, by rw [hn]; exact hq _ (xf _ _), xf _ _⟩
 by_cases k7 : a.kind = 12
 ·
  have hn : namedA a = { act0 with kind := a.kind, node := a.node, keep := a.keep } := by unfold namedA; grind
  have ho : rokA nodes groups a = (nodeB nodes a && kp a.keep) := by unfold rokA; rw [Ac k1, Ac k2, Ac k3, Ac k4, Ac k5, Ac k6, Ah k7]
  have hq : ∀ h', Ext h h' → ActR h' { actV0 with k := p.k } { act0 with kind := a.kind, node := a.node, keep := a.keep } := fun h' x => ⟨(hz h').ra, (hz h').rc, (r.ext x).rk⟩
  rw [ho]
  repeat (first | refine W.w ?_ | refine aE rfl ?_ | refine aG rfl ?_ | (refine zz rfl ?_; first | refine qaa rfl ?_ | refine qan rfl ?_ | refine qaf rfl rfl (hgx _) rfl ?_ | refine qak rfl rfl rfl (by omega) ?_ | refine qai rfl rfl rfl (by omega) ?_))
  refine bO (fun H => H.get h.next = some ⟨actC p a, 40, true⟩) (fun _ _ a b => b.c _ _ a) (t := OT.seq [(0, .P), (1, .S), (2, .P), (3, .S), (4, .P), (5, .W), (6, .P), (7, .W)] .nil) mixed (by kernel_rfl) (hgx _) ?_
  repeat (first | refine tp rfl rfl (fun h' hn => qan rfl ⟨rfl, rfl⟩) ?_ | refine cJ rfl rfl rfl (fun h' hn hx => qaf rfl rfl hx rfl ⟨rfl, rfl⟩) ?_)
  refine bH rfl rfl (qaI (v := .int .i64 a.node) rfl rfl rfl rfl ⟨hgx _, ?_⟩)
  repeat (first | refine tp rfl rfl (fun h' hn => qan rfl ⟨rfl, rfl⟩) ?_)
  refine bH rfl rfl (qaI (v := p.k) rfl rfl r.rk.one rfl ⟨hgx _, ?_⟩)
  refine bD ?_
  cases nodeB nodes a <;>
  ·
   repeat (first | refine aR ?_)
   refine bO (fun H => H.get h.next = some ⟨actC p a, 40, true⟩) (fun _ _ a b => b.c _ _ a) (t := OT.seq [(0, .R), (1, .R), (2, .R), (3, .R), (4, .R), (5, .R), (6, .P), (7, .W), (8, .R)] .nil) mixed (by kernel_rfl) (hgx _) ?_
   repeat' (first | refine cY rfl rfl rfl ?_ | refine tr rfl rfl (fun _ hx _ => qae rfl ⟨rfl, rfl⟩) ?_ | refine TAL.rB rfl rfl rfl (fun h' hx hn => qab rfl rfl (rkeep_c p.k a.keep h' (r.rk.ext ((xl _).trans hx))) ⟨rfl, rfl⟩) (fun c => ?_) (fun c => ?_) | refine tr rfl rfl (fun _ hx _ => qan rfl ⟨rfl, rfl⟩) ?_ | refine tr rfl rfl (fun _ hx _ => qaf rfl rfl (hx.c _ _ (hgx _)) rfl ⟨rfl, rfl⟩) ?_ | refine tr rfl rfl (fun _ hx _ => qam (sz := 33) rfl rfl (hx.c _ _ (gl _)) (Aa _) ⟨rfl, rfl⟩) ?_ | refine tp rfl rfl (fun h' hn => qag (v := .bool _) rfl rfl ⟨rfl, rfl⟩) ?_)
   all_goals refine bH rfl rfl (qaq (vs := actC { actV0 with k := p.k } (namedA a)) rfl (by rw [hn]; rfl) rfl (by rw [hn]; exact qaO (hq h (aU h))) (gj _) rfl ⟨(aH (Cj n1)).trans (hgx _), ?_⟩)
   repeat' (first | refine bD ?_ | refine tr rfl rfl (fun _ hx _ => qaa rfl ⟨rfl, rfl⟩) ?_)
   repeat' (first | refine aM ?_)
   all_goals refine ⟨_, aV rfl rfl rfl (aF _ _ _) (Aa _), { actV0 with k := p.k }, congrArg (fun b => Value.tuple #[.agg (actC { actV0 with k := p.k } (namedA a)).toArray, .bool b]) ?_, by rw [hn]; exact hq _ (xf _ _), xf _ _⟩
   all_goals clear hz xf xl gj hgx gl n2 wf2 n1 wf r hq hn ho
   all_goals grind
 ·
  have hn : namedA a = { act0 with kind := a.kind } := by unfold namedA; grind
  have ho : rokA nodes groups a = false := by unfold rokA; rw [Ac k1, Ac k2, Ac k3, Ac k4, Ac k5, Ac k6, Ac k7]
  have hq : ∀ h', Ext h h' → ActR h' actV0 { act0 with kind := a.kind } := fun h' x => ⟨(hz h').ra, (hz h').rc, (hz h').rk⟩
  rw [ho]
  repeat (first | refine W.w ?_ | refine aG rfl ?_ | refine aJ rfl (qaq (vs := actC actV0 (namedA a)) rfl (by rw [hn]; rfl) rfl (by rw [hn]; exact qaO (hq h (aU h))) (gj _) rfl ?_) | (refine zz rfl ?_; first | refine qaa rfl ?_ | refine qan rfl ?_ | refine qaf rfl rfl (hgx _) rfl ?_ | refine qam (sz := 33) rfl rfl (gl _) (Aa _) ?_ | refine qai rfl rfl rfl (by omega) ?_))
  exact ⟨_, aV rfl rfl rfl (aF _ _ _) (Aa _), actV0, rfl, by rw [hn]; exact hq _ (xf _ _), xf _ _⟩
instance i_rmaySet : FnC prog 32 := ⟨Tryz.f32, func32, by kernel_rfl, by kernel_rfl⟩
theorem rmay_c (p : ActV) (a : ActM) (nodes groups : Int) (h : Heap) (r : ActR h p a) : ACalls prog 41 [.agg (actC p a).toArray, .int .i64 nodes, .int .i64 groups] h fun u h' => u = .bool (mayAct nodes groups a) ∧ h' = h := by
 refine aL fun wf => aO ?_
 refine aD func41 rfl rfl ?_
 repeat (first | refine W.w ?_ | refine zz rfl (qaa rfl ?_) | refine zz rfl (qaS rfl (by intro e; cases e) ?_))
 generalize hH : h.alloc _ = H
 have hg : H.get h.next = some ⟨actC p a, 40, true⟩ := hH ▸ aB _ _
 have hx : Ext h H := hH ▸ wf.ext _
 have wfH : WF H := hH ▸ wf.alloc _
 clear hH
 rw [may_d]
 have rH := r.ext hx
 repeat (first | refine zz rfl (qac rfl ?_) | refine zz rfl (qam (sz := 33) rfl rfl hg (Aa _) ?_))
 refine zz rfl (qat (evs := [.agg (actC p a).toArray, .int .i64 nodes, .int .i64 groups]) rfl rfl ((rabare_c p a nodes groups H rH).wf_post.mono ?_))
 rintro _ H1 ⟨⟨q, rfl, rq, x1⟩, wf1, _⟩
 repeat (first | refine W.w ?_ | refine aJ rfl (qaL (vs := actC q (namedA a)) rfl rfl rfl rfl (qaO rq) ?_) | (refine zz rfl ?_; first | refine qae rfl ?_ | refine qaC rfl ?_ | refine qaa rfl ?_ | refine qav rfl rfl ?_ | refine qax ?_))
 obtain ⟨H2, hQ, g2, x2, _, _⟩ := aq wf1 ⟨actC q (namedA a), 40, true⟩
 rw [hQ]
 have hxx := hx.trans (x1.trans x2)
 have cs := qdr q p (namedA a) a H2 (rq.ext x2) (r.ext hxx)
 have hg2 := x2.c _ _ (x1.c _ _ hg)
 cases ho : rokA nodes groups a with
 | false =>
  repeat' (first | refine W.w ?_ | refine aK rfl rfl ?_ | refine zz rfl (qaa rfl ?_) | refine zz rfl (qag (v := .bool _) rfl rfl ?_))
  exact ⟨_, aC rfl, rfl, hxx, rfl, rfl⟩
 | true =>
  repeat (first | refine W.w ?_ | (refine zz rfl ?_; first | refine qaa rfl ?_ | refine qam (sz := 33) rfl rfl g2 (Aa _) ?_ | refine qam (sz := 33) rfl rfl hg2 (Aa _) ?_ | refine qab rfl rfl cs ?_ | refine qag (v := .bool _) rfl rfl ?_))
  exact ⟨_, aC rfl, rfl, hxx, rfl, rfl⟩
theorem rmayLine_c (p : ActV) (a : ActM) (h : Heap) (r : ActR h p a) : ACalls prog 19 [.agg (actC p a).toArray] h fun u h' => u = .bool (mayAct 5 5 a) ∧ h' = h := by
 refine aL fun wf => aO ?_
 refine aD func19 rfl rfl ?_
 repeat (first | refine W.w ?_ | refine zz rfl (qaa rfl ?_) | refine zz rfl (qaS rfl (by intro e; cases e) ?_))
 generalize hH : h.alloc _ = H
 have hg : H.get h.next = some ⟨actC p a, 40, true⟩ := hH ▸ aB _ _
 have hx : Ext h H := hH ▸ wf.ext _
 have wfH : WF H := hH ▸ wf.alloc _
 clear hH
 repeat (first | refine W.w ?_ | (refine zz rfl ?_; first | refine qaa rfl ?_ | refine qam (sz := 33) rfl rfl hg (Aa _) ?_ | refine qab rfl rfl (rmay_c p a 5 5 H (r.ext hx)) ?_))
 exact ⟨_, aC rfl, rfl, hx, rfl, rfl⟩
theorem rmayIn_c (x : SetM) (vg : Value) (p : ActV) (a : ActM) (h : Heap) (rg : RG h vg x.groups) (r : ActR h p a) : ACalls prog 17 [.agg (setC vg x).toArray, .agg (actC p a).toArray] h fun u h' => u = .bool (mayIn x a) ∧ h' = h := by
 refine aL fun wf => aO ?_
 refine aD func17 rfl rfl ?_
 repeat (first | refine W.w ?_ | refine zz rfl (qaa rfl ?_) | refine zz rfl (qaS rfl (by intro e; cases e) ?_))
 generalize hH : h.alloc _ = H1
 have hg0 : H1.get h.next = some ⟨setC vg x, 24, true⟩ := hH ▸ aB _ _
 have hx1 : Ext h H1 := hH ▸ wf.ext _
 have wf1 : WF H1 := hH ▸ wf.alloc _
 skip
 generalize hH2 : H1.alloc _ = H
 have hg2 : H.get H1.next = some ⟨actC p a, 40, true⟩ := hH2 ▸ aB _ _
 have hx2 : Ext H1 H := hH2 ▸ wf1.ext _
 have hg1 : H.get h.next = some ⟨setC vg x, 24, true⟩ := hx2.c _ _ hg0
 have hx : Ext h H := hx1.trans hx2
 clear hH hH2
 have cs := rmaySet_c x vg H (rg.ext hx)
 have cm := rmay_c p a x.nodes x.groups.length H (r.ext hx)
 obtain ⟨vs, gg1, gg2, _⟩ := rg.ext hx
 rw [← gg2] at cm
 unfold mayIn
 cases hs : maySet x with
 | false =>
  rw [hs] at cs
  repeat (first | refine W.w ?_ | refine aK rfl rfl ?_ | (refine zz rfl ?_; first | refine qae rfl ?_ | refine qaa rfl ?_ | refine qam (sz := 5) rfl rfl hg1 (Aa _) ?_ | refine qab rfl rfl cs ?_ | refine qag (v := .bool _) rfl rfl ?_))
  exact ⟨_, aC rfl, rfl, hx, rfl, rfl⟩
 | true =>
  rw [hs] at cs
  repeat (first | refine W.w ?_ | (refine zz rfl ?_; first | refine qae rfl ?_ | refine qaa rfl ?_ | refine qam (sz := 5) rfl rfl hg1 (Aa _) ?_ | refine qab rfl rfl cs ?_ | refine qam (sz := 33) rfl rfl hg2 (Aa _) ?_ | refine qan rfl ?_ | refine qaf rfl rfl hg1 rfl ?_ | refine qaz gg1 rfl ?_ | refine qab rfl rfl cm ?_ | refine qag (v := .bool _) rfl rfl ?_))
  exact ⟨_, aC rfl, rfl, hx, by rw [gg2]; rfl, rfl⟩
end Go.Proofs.YtigmojilaadbhaaGreatDoor
