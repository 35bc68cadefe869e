/-
  Texts of one claim, merged: 4 parts.
-/
import Derived.Test.YtigmojilaadbhaaGreatDoorMpl
import Derived.Test.YtigmojilaadbhaaGreatDoorMpj
import Derived.Test.YtigmojilaadbhaaGreatDoorMpe
set_option maxHeartbeats 16000000
/- . -/
namespace Go.Proofs.YtigmojilaadbhaaGreatDoor
open Go Go.Eng Go.Pln Go.Lib Go.Proofs.Tryz
attribute [local irreducible] AWp AL DAL AOp TAL
instance qeN : FnC prog 116 := ⟨Tryz.f116, func116, by kernel_rfl, by kernel_rfl⟩
instance qe1 : FnC prog 87 := ⟨Tryz.f87, func87, by kernel_rfl, by kernel_rfl⟩
def namedC (c : CmdM) : CmdM :=
 if c.kind = 2 then { cmd0 with kind := c.kind, req := c.req }
 else if c.kind = 3 ∨ c.kind = 5 ∨ c.kind = 9 ∨ c.kind = 10 then { cmd0 with kind := c.kind, move := c.move }
 else if c.kind = 4 then { cmd0 with kind := c.kind, move := c.move, entries := c.entries, answers := c.answers }
 else if c.kind = 6 ∨ c.kind = 7 then { cmd0 with kind := c.kind, key := c.key }
 else if c.kind = 8 then { cmd0 with kind := c.kind, key := c.key, group := c.group }
 else { cmd0 with kind := c.kind }
def keyOk (b : Bytes) : Bool := decide (1 ≤ b.length ∧ b.length ≤ 24)
def okC (c : CmdM) : Bool :=
 if c.kind = 1 then true else if c.kind = 2 then reqOk c.req
 else if c.kind = 3 ∨ c.kind = 5 ∨ c.kind = 9 ∨ c.kind = 10 then moveOk c.move
 else if c.kind = 4 then moveOk c.move && risingM c.entries && decide (c.entries.length ≤ 65536) && decide (c.answers.length ≤ 524288)
 else if c.kind = 6 ∨ c.kind = 7 then keyOk c.key
 else if c.kind = 8 then decide (c.key.length ≤ 24 ∧ 1 ≤ c.group ∧ c.group < 5)
 else false
theorem RE.one {h : Heap} {v : Value} {l : List EntM} (r : RE h v l) : oneB v = true := by
 obtain ⟨ro, r1, _⟩ := r.ex
 exact r1.one
theorem RK.one {h : Heap} {v : Value} {l : List (Bytes × Int)} (r : RK h v l) : oneB v = true := r.rn.one
theorem qdd {h : Heap} {p : MoveV} {m : MoveM} (r : MoveR h p m) : (moveC p m).all oneB = true := by
 unfold moveC
 simp only [Bc, r.f.one.1, r.t.one.1]
 rfl
theorem qde {h : Heap} {p : AskV} {m : AskM} (r : AskR h p m) : (askC p m).all oneB = true := by
 unfold askC
 simp only [Bc, r.k.one.1, r.t.one.1, r.v.one.1, r.w.one.1]
 rfl
theorem qiI {h : Heap} {p : AskV} {m : ReqM} (r : AskR h p m.ask) : (reqC p m).all oneB = true := by
 unfold reqC
 simp only [Bc, r.k.one.1, r.t.one.1, r.v.one.1, r.w.one.1]
 rfl
theorem qa4 {h : Heap} {p : CmdV} {m : CmdM} (r : CmdR h p m) : (cmdC p m).all oneB = true := by
 unfold cmdC
 simp only [Bc, r.r.k.one.1, r.r.t.one.1, r.r.v.one.1, r.r.w.one.1, r.m.f.one.1, r.m.t.one.1, r.e.one, r.n.one.1, r.k.one.1]
 rfl
theorem keyOk_c (v : Value) (b : Bytes) (h : Heap) (r : RB h v b) : ACalls prog 151 [v] h fun u h' => u = .bool (keyOk b) ∧ h' = h := key_c v b h r
theorem cnamed_c (p : CmdV) (m : CmdM) (h : Heap) (r : CmdR h p m) : ACalls prog 116 [.agg (cmdC p m).toArray] h fun u h' => ∃ q, u = .tuple #[.agg (cmdC q (namedC m)).toArray, .bool (okC m)] ∧ CmdR h' q (namedC m) ∧ Ext h h' := by
 refine aL fun wf => ?_
 refine aD func116 rfl rfl ?_
 repeat (first | refine W.w ?_ | refine zz rfl (qaS rfl (by intro e; cases e) ?_))
 generalize hH : h.alloc _ = H1
 have hg1 : H1.get h.next = some ⟨cmdC p m, 37, true⟩ := hH ▸ aB _ _
 have hx1 : Ext h H1 := hH ▸ wf.ext _
 have wf1 : WF H1 := hH ▸ wf.alloc _
 have n1 : h.next < H1.next := wf1.lt hg1
 clear hH
 repeat (first | refine W.w ?_ | refine zz rfl (qaa rfl ?_) | refine zz rfl (qax ?_))
 generalize hH : H1.alloc _ = H2
 have g2 : H2.get H1.next = some ⟨cmdC cmdV0 cmd0, 37, true⟩ := hH ▸ aB _ _
 have hx2 : Ext H1 H2 := hH ▸ wf1.ext _
 have wf2 : WF H2 := hH ▸ wf1.alloc _
 have n2 : H1.next < H2.next := wf2.lt g2
 have hg2 := hx2.c _ _ hg1
 clear hH
 repeat (first | refine W.w ?_ | refine aJ rfl (qaL (vs := cmdC cmdV0 { cmd0 with kind := m.kind }) rfl rfl rfl rfl rfl ?_) | (refine zz rfl ?_; first | refine qan rfl ?_ | refine qaf rfl rfl hg2 rfl ?_ | refine qay (out := cmdC cmdV0 { cmd0 with kind := m.kind }) rfl rfl ?_ | refine qax ?_))
 have gl := aB H2
 have hgx : ∀ b, (H2.alloc b).get h.next = some ⟨cmdC p m, 37, true⟩ := fun b => (wf2.ext b).c _ _ hg2
 have gj : ∀ b, (H2.alloc b).get H1.next = some ⟨cmdC cmdV0 cmd0, 37, true⟩ := fun b => (wf2.ext b).c _ _ g2
 have xl : ∀ b, Ext h (H2.alloc b) := fun b => hx1.trans (hx2.trans (wf2.ext b))
 have xf : ∀ b b', Ext h ((H2.alloc b).set H1.next b') := fun b b' => wf.ext_set (xl b) (Dy n1) _
 clear hg1 hg2 g2 hx1 hx2 wf1
 by_cases k1 : m.kind = 1
 ·
  have hn : namedC m = { cmd0 with kind := m.kind } := by unfold namedC; grind
  have ho : okC m = true := by unfold okC; grind
  have hq : ∀ h', Ext h h' → CmdR h' cmdV0 { cmd0 with kind := m.kind } := fun h' _ => ⟨(bQ h').r, (bQ h').m, cZ h', bR h', bR h'⟩
  repeat (first | refine W.w ?_ | refine aE rfl ?_ | refine aJ rfl (qaq (vs := cmdC cmdV0 { cmd0 with kind := m.kind }) rfl rfl rfl rfl (gj _) rfl ?_) | (refine zz rfl ?_; first | refine qaa rfl ?_ | refine qaf rfl rfl (hgx _) rfl ?_ | refine qam (sz := 20) rfl rfl (gl _) (Aa _) ?_ | refine qak rfl rfl rfl (by omega) ?_))
  exact ⟨_, aV rfl rfl rfl (aF _ _ _) (Aa _), cmdV0, by rw [hn, ho]; rfl, by rw [hn]; exact hq _ (xf _ _), xf _ _⟩
 by_cases k2 : m.kind = 2
 ·
  have hn : namedC m = { cmd0 with kind := m.kind, req := m.req } := by unfold namedC; grind
  have hq : ∀ h', Ext h h' → CmdR h' { cmdV0 with r := p.r } { cmd0 with kind := m.kind, req := m.req } := fun h' x => ⟨(r.ext x).r, (bQ h').m, cZ h', bR h', bR h'⟩
  have ho : okC m = reqOk m.req := by unfold okC; grind
  repeat (first | refine W.w ?_ | refine aE rfl ?_ | refine aG rfl ?_ | refine aJ rfl (qbp (vs := reqC p.r m.req) rfl rfl rfl (qiI r.r) rfl ?_) | (refine zz rfl ?_; first | refine qaa rfl ?_ | refine qan rfl ?_ | refine qaf rfl rfl (hgx _) rfl ?_ | refine qam (sz := 9) rfl rfl (hgx _) (Ab rfl) ?_ | refine qak rfl rfl rfl (by omega) ?_ | refine qai rfl rfl rfl (by omega) ?_))
  refine bJ (σ := [(0, .R), (1, .R), (2, .R), (3, .R), (4, .W), (5, .R)]) mixed (by kernel_rfl) ?_
  repeat (first | refine dr rfl rfl (fun _ hx _ => qan rfl ⟨rfl, rfl⟩) ?_ | refine dr rfl rfl (fun _ hx _ => qam (sz := 20) rfl rfl (hx.c _ _ (gl _)) (Aa _) ⟨rfl, rfl⟩) ?_ | refine dr rfl rfl (fun _ hx _ => qam (sz := 9) rfl rfl (hx.c _ _ (hgx _)) (Ab rfl) ⟨rfl, rfl⟩) ?_ | refine dr rfl rfl (fun h' hx _ => qab rfl rfl (mayReq_c p.r m.req h' (r.r.ext ((xl _).trans hx))) ⟨rfl, rfl⟩) ?_)
  refine DAL.w0 rfl rfl (qaq (vs := cmdC { cmdV0 with r := p.r } { cmd0 with kind := m.kind, req := m.req }) rfl rfl rfl (qa4 (hq h (aU h))) (gj _) rfl ?_)
  repeat (first | refine dr rfl rfl (fun _ hx _ => qaa rfl ⟨rfl, rfl⟩) ?_)
  refine aX ?_
  repeat (first | refine aM ?_)
  exact ⟨_, aV rfl rfl rfl (aF _ _ _) (Aa _), { cmdV0 with r := p.r }, by rw [hn, ho]; rfl, by rw [hn]; exact hq _ (xf _ _), xf _ _⟩
 by_cases k3 : m.kind = 3 ∨ m.kind = 5 ∨ m.kind = 9 ∨ m.kind = 10
 ·
  have hn : namedC m = { cmd0 with kind := m.kind, move := m.move } := by unfold namedC; grind
  have hq : ∀ h', Ext h h' → CmdR h' { cmdV0 with m := p.m } { cmd0 with kind := m.kind, move := m.move } := fun h' x => ⟨(bQ h').r, (r.ext x).m, cZ h', bR h', bR h'⟩
  have ho : okC m = moveOk m.move := by unfold okC; grind
  rcases k3 with k | k | k | k <;>
  ·
   repeat (first | refine W.w ?_ | refine aE rfl ?_ | refine aG rfl ?_ | refine aJ rfl (qbp (vs := moveC p.m m.move) rfl rfl rfl (qdd r.m) rfl ?_) | (refine zz rfl ?_; first | refine qaa rfl ?_ | refine qan rfl ?_ | refine qaf rfl rfl (hgx _) rfl ?_ | refine qam (sz := 6) rfl rfl (hgx _) (Ab rfl) ?_ | refine qak rfl rfl rfl (by omega) ?_ | refine qai rfl rfl rfl (by omega) ?_))
   refine bJ (σ := [(0, .R), (1, .R), (2, .R), (3, .R), (4, .W), (5, .R)]) mixed (by kernel_rfl) ?_
   repeat (first | refine dr rfl rfl (fun _ hx _ => qan rfl ⟨rfl, rfl⟩) ?_ | refine dr rfl rfl (fun _ hx _ => qam (sz := 20) rfl rfl (hx.c _ _ (gl _)) (Aa _) ⟨rfl, rfl⟩) ?_ | refine dr rfl rfl (fun _ hx _ => qam (sz := 6) rfl rfl (hx.c _ _ (hgx _)) (Ab rfl) ⟨rfl, rfl⟩) ?_ | refine dr rfl rfl (fun h' hx _ => qab rfl rfl (qgM p.m m.move h' (r.m.ext ((xl _).trans hx))) ⟨rfl, rfl⟩) ?_)
   refine DAL.w0 rfl rfl (qaq (vs := cmdC { cmdV0 with m := p.m } { cmd0 with kind := m.kind, move := m.move }) rfl rfl rfl (qa4 (hq h (aU h))) (gj _) rfl ?_)
   repeat (first | refine dr rfl rfl (fun _ hx _ => qaa rfl ⟨rfl, rfl⟩) ?_)
   refine aX ?_
   repeat (first | refine aM ?_)
   exact ⟨_, aV rfl rfl rfl (aF _ _ _) (Aa _), { cmdV0 with m := p.m }, by rw [hn, ho]; rfl, by rw [hn]; exact hq _ (xf _ _), xf _ _⟩
 by_cases k4 : m.kind = 4
 ·
  have hn : namedC m = { cmd0 with kind := m.kind, move := m.move, entries := m.entries, answers := m.answers } := by unfold namedC; grind
  have hq : ∀ h', Ext h h' → CmdR h' { cmdV0 with m := p.m, e := p.e, n := p.n } { cmd0 with kind := m.kind, move := m.move, entries := m.entries, answers := m.answers } := fun h' x => ⟨(bQ h').r, (r.ext x).m, (r.ext x).e, (r.ext x).n, bR h'⟩
  obtain ⟨ro, s1, s2, s3⟩ := r.e.ex
  have hel := r.e.len
  obtain ⟨ea, ec, hev⟩ := s1.slice
  obtain ⟨na, nc, hnv⟩ := bC r.n
  rw [qaE] at hnv
  repeat (first | refine W.w ?_ | refine aE rfl ?_ | refine aG rfl ?_ | (refine zz rfl ?_; first | refine qaa rfl ?_ | refine qaf rfl rfl (hgx _) rfl ?_ | refine qak rfl rfl rfl (by omega) ?_ | refine qai rfl rfl rfl (by omega) ?_))
  refine bO (fun H => H.get h.next = some ⟨cmdC p m, 37, true⟩) (fun _ _ a b => b.c _ _ a) (t := OT.seq [(0, .P), (1, .S), (2, .P), (3, .S), (4, .P), (5, .S), (6, .P), (7, .W), (8, .P), (9, .W), (10, .P), (11, .W)] .nil) mixed (by kernel_rfl) (hgx _) ?_
  repeat (first | refine tp rfl rfl (fun h' hn => qan rfl ⟨rfl, rfl⟩) ?_ | refine cJ rfl rfl rfl (fun h' hn hx => qaf rfl rfl hx rfl ⟨rfl, rfl⟩) ?_ | refine cJ rfl rfl rfl (fun h' hn hx => qam (sz := 6) rfl rfl hx (Ab rfl) ⟨rfl, rfl⟩) ?_)
  refine bH rfl rfl (qbp (vs := moveC p.m m.move) rfl rfl rfl (qdd r.m) rfl ⟨hgx _, ?_⟩)
  repeat (first | refine tp rfl rfl (fun h' hn => qan rfl ⟨rfl, rfl⟩) ?_)
  refine bH rfl rfl (qaI (v := p.e) rfl rfl r.e.one rfl ⟨hgx _, ?_⟩)
  repeat (first | refine tp rfl rfl (fun h' hn => qan rfl ⟨rfl, rfl⟩) ?_)
  refine bH rfl rfl (qaI (v := p.n) rfl rfl r.n.one.1 rfl ⟨hgx _, ?_⟩)
  refine bD ?_
  repeat (first | refine aR ?_)
  have gb : ∀ b, (H2.alloc b).get h.next = some ⟨cmdC p m, 37, true⟩ := hgx
  refine bO (fun H => H.get h.next = some ⟨cmdC p m, 37, true⟩) (fun _ _ a b => b.c _ _ a) (t := OT.seq [(0, .R), (1, .R), (2, .R), (3, .R), (4, .R), (5, .R), (6, .R), (7, .R), (8, .R), (9, .R), (10, .R), (11, .R), (12, .R), (13, .R), (14, .R), (15, .R), (16, .P), (17, .S), (18, .P), (19, .P), (20, .P), (21, .W), (22, .R)] .nil) mixed (by kernel_rfl) (hgx _) ?_
  repeat' (first | refine cY rfl rfl rfl ?_ | refine tr rfl rfl (fun _ hx _ => qae rfl ⟨rfl, rfl⟩) ?_ | refine TAL.rB rfl rfl rfl (fun h' hx hn => qab rfl rfl (qgM p.m m.move h' (r.m.ext ((xl _).trans hx))) ⟨rfl, rfl⟩) (fun c => ?_) (fun c => ?_) | refine TAL.rB rfl rfl rfl (fun h' hx hn => qab rfl rfl (rising_c p.e m.entries h' (r.e.ext ((xl _).trans hx))) ⟨rfl, rfl⟩) (fun c => ?_) (fun c => ?_) | refine tr rfl rfl (fun _ hx _ => qan rfl ⟨rfl, rfl⟩) ?_ | refine tr rfl rfl (fun _ hx _ => qaf rfl rfl (hx.c _ _ (hgx _)) rfl ⟨rfl, rfl⟩) ?_ | refine tr rfl rfl (fun _ hx _ => qam (sz := 20) rfl rfl (hx.c _ _ (gl _)) (Aa _) ⟨rfl, rfl⟩) ?_ | refine tr rfl rfl (fun _ hx _ => qam (sz := 6) rfl rfl (hx.c _ _ (hgx _)) (Ab rfl) ⟨rfl, rfl⟩) ?_ | refine tr rfl rfl (fun _ hx _ => qch hev ⟨rfl, rfl⟩) ?_ | refine tp rfl rfl (fun h' hn => qan rfl ⟨rfl, rfl⟩) ?_ | refine tp rfl rfl (fun h' hn => qch hnv ⟨rfl, rfl⟩) ?_ | refine cJ rfl rfl rfl (fun h' hn hx => qaf rfl rfl hx rfl ⟨rfl, rfl⟩) ?_ | refine TAL.rP rfl rfl rfl (fun h' hx hn => qaZ rfl rfl rfl ⟨rfl, rfl⟩) (fun c => ?_) (fun c => ?_) | refine TAL.pP rfl rfl rfl (fun h' hn => qaZ rfl rfl rfl ⟨rfl, rfl⟩) (fun c => ?_) (fun c => ?_) | refine tr rfl rfl (fun _ hx _ => qag (v := .bool _) rfl rfl ⟨rfl, rfl⟩) ?_ | refine tp rfl rfl (fun h' hn => qag (v := .bool _) rfl rfl ⟨rfl, rfl⟩) ?_)
  all_goals refine bH rfl rfl (qaq (vs := cmdC { cmdV0 with m := p.m, e := p.e, n := p.n } { cmd0 with kind := m.kind, move := m.move, entries := m.entries, answers := m.answers }) rfl rfl rfl (qa4 (hq h (aU h))) (gj _) rfl ⟨(aH (Cj n1)).trans (hgx _), ?_⟩)
  repeat' (first | refine bD ?_ | refine tr rfl rfl (fun _ hx _ => qaa rfl ⟨rfl, rfl⟩) ?_)
  repeat' (first | refine aM ?_)
  all_goals (
   exact ⟨_, aV rfl rfl rfl (aF _ _ _) (Aa _), { cmdV0 with m := p.m, e := p.e, n := p.n }, (by rw [hn]; first | (rw [show okC m = true by (unfold okC; grind)]; rfl) | (rw [show okC m = false by (unfold okC; grind)]; rfl)), by rw [hn]; exact hq _ (xf _ _), xf _ _⟩
   )
 by_cases k6 : m.kind = 6 ∨ m.kind = 7
 ·
  have hn : namedC m = { cmd0 with kind := m.kind, key := m.key } := by unfold namedC; grind
  have hq : ∀ h', Ext h h' → CmdR h' { cmdV0 with k := p.k } { cmd0 with kind := m.kind, key := m.key } := fun h' x => ⟨(bQ h').r, (bQ h').m, cZ h', bR h', (r.ext x).k⟩
  have ho : okC m = keyOk m.key := by unfold okC; grind
  rcases k6 with k | k <;>
  ·
   repeat (first | refine W.w ?_ | refine aE rfl ?_ | refine aG rfl ?_ | refine aJ rfl (qaI (v := p.k) rfl rfl r.k.one.1 rfl ?_) | (refine zz rfl ?_; first | refine qaa rfl ?_ | refine qan rfl ?_ | refine qaf rfl rfl (hgx _) rfl ?_ | refine qak rfl rfl rfl (by omega) ?_ | refine qai rfl rfl rfl (by omega) ?_))
   refine bJ (σ := [(0, .R), (1, .R), (2, .R), (3, .R), (4, .W), (5, .R)]) mixed (by kernel_rfl) ?_
   repeat (first | refine dr rfl rfl (fun _ hx _ => qan rfl ⟨rfl, rfl⟩) ?_ | refine dr rfl rfl (fun _ hx _ => qaf rfl rfl (hx.c _ _ (hgx _)) rfl ⟨rfl, rfl⟩) ?_ | refine dr rfl rfl (fun _ hx _ => qam (sz := 20) rfl rfl (hx.c _ _ (gl _)) (Aa _) ⟨rfl, rfl⟩) ?_ | refine dr rfl rfl (fun h' hx _ => qab rfl rfl (keyOk_c p.k m.key h' (r.k.ext ((xl _).trans hx))) ⟨rfl, rfl⟩) ?_)
   refine DAL.w0 rfl rfl (qaq (vs := cmdC { cmdV0 with k := p.k } { cmd0 with kind := m.kind, key := m.key }) rfl rfl rfl (qa4 (hq h (aU h))) (gj _) rfl ?_)
   repeat (first | refine dr rfl rfl (fun _ hx _ => qaa rfl ⟨rfl, rfl⟩) ?_)
   refine aX ?_
   repeat (first | refine aM ?_)
   exact ⟨_, aV rfl rfl rfl (aF _ _ _) (Aa _), { cmdV0 with k := p.k }, by rw [hn, ho]; rfl, by rw [hn]; exact hq _ (xf _ _), xf _ _⟩
 by_cases k8 : m.kind = 8
 ·
  have hn : namedC m = { cmd0 with kind := m.kind, key := m.key, group := m.group } := by unfold namedC; grind
  have hq : ∀ h', Ext h h' → CmdR h' { cmdV0 with k := p.k } { cmd0 with kind := m.kind, key := m.key, group := m.group } := fun h' x => ⟨(bQ h').r, (bQ h').m, cZ h', bR h', (r.ext x).k⟩
  repeat (first | refine W.w ?_ | refine aE rfl ?_ | refine aG rfl ?_ | (refine zz rfl ?_; first | refine qaa rfl ?_ | refine qaf rfl rfl (hgx _) rfl ?_ | refine qak rfl rfl rfl (by omega) ?_ | refine qai rfl rfl rfl (by omega) ?_))
  refine bO (fun H => H.get h.next = some ⟨cmdC p m, 37, true⟩) (fun _ _ a b => b.c _ _ a) (t := OT.seq [(0, .P), (1, .S), (2, .P), (3, .S), (4, .P), (5, .W), (6, .P), (7, .W)] .nil) mixed (by kernel_rfl) (hgx _) ?_
  repeat (first | refine tp rfl rfl (fun h' hn => qan rfl ⟨rfl, rfl⟩) ?_ | refine cJ rfl rfl rfl (fun h' hn hx => qaf rfl rfl hx rfl ⟨rfl, rfl⟩) ?_)
  refine bH rfl rfl (qaI (v := p.k) rfl rfl r.k.one.1 rfl ⟨hgx _, ?_⟩)
  repeat (first | refine tp rfl rfl (fun h' hn => qan rfl ⟨rfl, rfl⟩) ?_)
  refine bH rfl rfl (qaI (v := .int .i64 m.group) rfl rfl rfl rfl ⟨hgx _, ?_⟩)
  refine bD ?_
  repeat (first | refine aR ?_)
  refine cD (t := OT.seq [(0, .R), (1, .R), (2, .R), (3, .R), (4, .R), (5, .R), (6, .R), (7, .R), (8, .R), (9, .P), (10, .W), (11, .R)] .nil) mixed (by kernel_rfl) ?_
  repeat' (first | refine cY rfl rfl rfl ?_ | refine tr rfl rfl (fun _ hx _ => qae rfl ⟨rfl, rfl⟩) ?_ | refine TAL.rB rfl rfl rfl (fun h' hx hn => qab rfl rfl (qh6 m.group h') ⟨rfl, rfl⟩) (fun c => ?_) (fun c => ?_) | refine tr rfl rfl (fun _ hx _ => qan rfl ⟨rfl, rfl⟩) ?_ | refine tr rfl rfl (fun _ hx _ => qaf rfl rfl (hx.c _ _ (hgx _)) rfl ⟨rfl, rfl⟩) ?_ | refine tr rfl rfl (fun _ hx _ => qam (sz := 20) rfl rfl (hx.c _ _ (gl _)) (Aa _) ⟨rfl, rfl⟩) ?_ | refine tr rfl rfl (fun _ hx _ => qaJ (r.k.ext ((xl _).trans hx)) rfl ⟨rfl, rfl⟩) ?_ | refine TAL.rP rfl rfl rfl (fun h' hx hn => qaZ rfl rfl rfl ⟨rfl, rfl⟩) (fun c => ?_) (fun c => ?_) | refine tp rfl rfl (fun h' hn => qag (v := .bool _) rfl rfl ⟨rfl, rfl⟩) ?_)
  all_goals refine dG rfl rfl (qaq (vs := cmdC { cmdV0 with k := p.k } { cmd0 with kind := m.kind, key := m.key, group := m.group }) rfl rfl rfl (qa4 (hq h (aU h))) (gj _) rfl ?_)
  repeat' (first | refine bD ?_ | refine tr rfl rfl (fun _ hx _ => qaa rfl ⟨rfl, rfl⟩) ?_)
  repeat' (first | refine aM ?_)
  all_goals (
   exact ⟨_, aV rfl rfl rfl (aF _ _ _) (Aa _), { cmdV0 with k := p.k }, (by rw [hn]; first | (rw [show okC m = true by (unfold okC; grind)]; rfl) | (rw [show okC m = false by (unfold okC; grind)]; rfl)), by rw [hn]; exact hq _ (xf _ _), xf _ _⟩
   )
 ·
  have hn : namedC m = { cmd0 with kind := m.kind } := by unfold namedC; grind
  have ho : okC m = false := by unfold okC; grind
  have hq : ∀ h', Ext h h' → CmdR h' cmdV0 { cmd0 with kind := m.kind } := fun h' _ => ⟨(bQ h').r, (bQ h').m, cZ h', bR h', bR h'⟩
  repeat (first | refine W.w ?_ | refine aG rfl ?_ | refine aJ rfl (qaq (vs := cmdC cmdV0 { cmd0 with kind := m.kind }) rfl rfl rfl rfl (gj _) rfl ?_) | (refine zz rfl ?_; first | refine qaa rfl ?_ | refine qaf rfl rfl (hgx _) rfl ?_ | refine qam (sz := 20) rfl rfl (gl _) (Aa _) ?_ | refine qai rfl rfl rfl (by omega) ?_))
  exact ⟨_, aV rfl rfl rfl (aF _ _ _) (Aa _), cmdV0, by rw [hn, ho]; rfl, by rw [hn]; exact hq _ (xf _ _), xf _ _⟩
instance i_anamed : FnC prog 86 := ⟨Tryz.f86, func86, by kernel_rfl, by kernel_rfl⟩
def namedA (a : ActM) : ActM :=
 if a.kind = 10 then { act0 with kind := a.kind, node := a.node, group := a.group, client := a.client, ask := a.ask }
 else if a.kind = 11 then { act0 with kind := a.kind, node := a.node, group := a.group, client := a.client }
 else if a.kind = 1 ∨ a.kind = 2 ∨ a.kind = 6 ∨ a.kind = 7 then { act0 with kind := a.kind, node := a.node, group := a.group }
 else if a.kind = 3 ∨ a.kind = 4 ∨ a.kind = 5 then { act0 with kind := a.kind, n := a.n }
 else if a.kind = 8 ∨ a.kind = 13 then { act0 with kind := a.kind, node := a.node }
 else if a.kind = 9 then { act0 with kind := a.kind, node := a.node, cmd := a.cmd }
 else if a.kind = 12 then { act0 with kind := a.kind, node := a.node, keep := a.keep }
 else { act0 with kind := a.kind }
theorem qaO {h : Heap} {p : ActV} {a : ActM} (r : ActR h p a) : (actC p a).all oneB = true := by
 unfold actC
 have c := r.rc
 simp only [Bc, r.ra.k.one.1, r.ra.t.one.1, r.ra.v.one.1, r.ra.w.one.1, c.r.k.one.1, c.r.t.one.1, c.r.v.one.1, c.r.w.one.1, c.m.f.one.1, c.m.t.one.1, c.e.one, c.n.one.1, c.k.one.1, r.rk.one]
 rfl
theorem anamed_c (p : ActV) (a : ActM) (h : Heap) (r : ActR h p a) : ACalls prog 86 [.agg (actC p a).toArray] h fun u h' => ∃ q, u = .agg (actC q (namedA a)).toArray ∧ ActR h' q (namedA a) ∧ Ext h h' := by
 refine aL fun wf => ?_
 refine aD func86 rfl rfl ?_
 repeat (first | refine W.w ?_ | refine zz rfl (qaS rfl (by intro e; cases e) ?_))
 generalize hH : h.alloc _ = H1
 have hg1 : H1.get h.next = some ⟨actC p a, 40, true⟩ := hH ▸ aB _ _
 have hx1 : Ext h H1 := hH ▸ wf.ext _
 have wf1 : WF H1 := hH ▸ wf.alloc _
 have n1 : h.next < H1.next := wf1.lt hg1
 clear hH
 repeat (first | refine W.w ?_ | refine zz rfl (qax ?_))
 generalize hH : H1.alloc _ = H2
 have g2 : H2.get H1.next = some ⟨actC actV0 act0, 40, true⟩ := hH ▸ aB _ _
 have hx2 : Ext H1 H2 := hH ▸ wf1.ext _
 have wf2 : WF H2 := hH ▸ wf1.alloc _
 have n2 : H1.next < H2.next := wf2.lt g2
 have hg2 := hx2.c _ _ hg1
 clear hH
 repeat (first | refine W.w ?_ | refine aJ rfl (qaL (vs := actC actV0 { act0 with kind := a.kind }) rfl rfl rfl rfl rfl ?_) | (refine zz rfl ?_; first | refine qan rfl ?_ | refine qaf rfl rfl hg2 rfl ?_ | refine qay (out := actC actV0 { act0 with kind := a.kind }) rfl rfl ?_ | refine qax ?_))
 have gl := aB H2
 have hgx : ∀ b, (H2.alloc b).get h.next = some ⟨actC p a, 40, true⟩ := fun b => (wf2.ext b).c _ _ hg2
 have gj : ∀ b, (H2.alloc b).get H1.next = some ⟨actC actV0 act0, 40, true⟩ := fun b => (wf2.ext b).c _ _ g2
 have xl : ∀ b, Ext h (H2.alloc b) := fun b => hx1.trans (hx2.trans (wf2.ext b))
 have xf : ∀ b b', Ext h ((H2.alloc b).set H1.next b') := fun b b' => wf.ext_set (xl b) (Dy n1) _
 have hz : ∀ h', ActR h' actV0 act0 := fun h' => ActR.nil h'
 clear hg1 hg2 g2 hx1 hx2 wf1
 by_cases k1 : a.kind = 10
 ·
  have hn : namedA a = { act0 with kind := a.kind, node := a.node, group := a.group, client := a.client, ask := a.ask } := by unfold namedA; rw [Ah k1]
  have hq : ∀ h', Ext h h' → ActR h' { actV0 with q := p.q } { act0 with kind := a.kind, node := a.node, group := a.group, client := a.client, ask := a.ask } := fun h' x => ⟨(r.ext x).ra, (hz h').rc, (hz h').rk⟩
  repeat (first | refine aW ?_ | refine aR ?_ | refine aY ?_ | refine aE rfl ?_ | refine aP ?_ | refine AWp.b9 ?_ | refine aJ rfl (qbp (vs := askC p.q a.ask) rfl rfl rfl (qde r.ra) rfl ?_) | refine aJ rfl (qaI (v := .int .i64 a.client) rfl rfl rfl rfl ?_) | (refine zz rfl ?_; first | refine qaa rfl ?_ | refine qan rfl ?_ | refine qaf rfl rfl (hgx _) rfl ?_ | refine qam (sz := 7) rfl rfl (hgx _) (Ab rfl) ?_ | refine qak rfl rfl rfl (by omega) ?_))
  refine bO (fun H => H.get h.next = some ⟨actC p a, 40, true⟩) (fun _ _ a b => b.c _ _ a) (t := OT.seq [(0, .P), (1, .S), (2, .P), (3, .S), (4, .P), (5, .W), (6, .P), (7, .W)] .nil) mixed (by kernel_rfl) (hgx _) ?_
  repeat (first | refine tp rfl rfl (fun h' hn => qan rfl ⟨rfl, rfl⟩) ?_ | refine cJ rfl rfl rfl (fun h' hn hx => qaf rfl rfl hx rfl ⟨rfl, rfl⟩) ?_)
  refine bH rfl rfl (qaI (v := .int .i64 a.node) rfl rfl rfl rfl ⟨hgx _, ?_⟩)
  repeat (first | refine tp rfl rfl (fun h' hn => qan rfl ⟨rfl, rfl⟩) ?_)
  refine bH rfl rfl (qaI (v := .int .i64 a.group) rfl rfl rfl rfl ⟨hgx _, ?_⟩)
  refine bD ?_
  repeat (first | refine aW ?_ | refine aR ?_ | refine aY ?_ | refine aM ?_ | refine aP ?_ | refine zz rfl (qam (sz := 33) rfl rfl (gl _) (Aa _) ?_) | refine aJ rfl (qaq (vs := actC ({ actV0 with q := p.q }) (namedA a)) rfl (by rw [hn]; rfl) rfl (by rw [hn]; exact qaO (hq h (aU h))) (gj _) rfl ?_))
  exact ⟨_, bI rfl rfl rfl (aF _ _ _) (Aa _), { actV0 with q := p.q }, rfl, by rw [hn]; exact hq _ (xf _ _), xf _ _⟩
 by_cases k2 : a.kind = 11
 ·
  have hn : namedA a = { act0 with kind := a.kind, node := a.node, group := a.group, client := a.client } := by unfold namedA; grind
  have hq : ∀ h', Ext h h' → ActR h' actV0 { act0 with kind := a.kind, node := a.node, group := a.group, client := a.client } := fun h' x => ⟨(hz h').ra, (hz h').rc, (hz h').rk⟩
  repeat (first | refine aW ?_ | refine aR ?_ | refine aY ?_ | refine aE rfl ?_ | refine aG rfl ?_ | refine aP ?_ | refine AWp.b9 ?_ | refine dD ?_ | refine aJ rfl (qaI (v := .int .i64 a.client) rfl rfl rfl rfl ?_) | (refine zz rfl ?_; first | refine qaa rfl ?_ | refine qan rfl ?_ | refine qaf rfl rfl (hgx _) rfl ?_ | refine qak rfl rfl rfl (by omega) ?_ | refine qai rfl rfl rfl (by omega) ?_))
  refine bO (fun H => H.get h.next = some ⟨actC p a, 40, true⟩) (fun _ _ a b => b.c _ _ a) (t := OT.seq [(0, .P), (1, .S), (2, .P), (3, .S), (4, .P), (5, .W), (6, .P), (7, .W)] .nil) mixed (by kernel_rfl) (hgx _) ?_
  repeat (first | refine tp rfl rfl (fun h' hn => qan rfl ⟨rfl, rfl⟩) ?_ | refine cJ rfl rfl rfl (fun h' hn hx => qaf rfl rfl hx rfl ⟨rfl, rfl⟩) ?_)
  refine bH rfl rfl (qaI (v := .int .i64 a.node) rfl rfl rfl rfl ⟨hgx _, ?_⟩)
  repeat (first | refine tp rfl rfl (fun h' hn => qan rfl ⟨rfl, rfl⟩) ?_)
  refine bH rfl rfl (qaI (v := .int .i64 a.group) rfl rfl rfl rfl ⟨hgx _, ?_⟩)
  refine bD ?_
  repeat (first | refine aW ?_ | refine aR ?_ | refine aY ?_ | refine aM ?_ | refine aP ?_ | refine zz rfl (qam (sz := 33) rfl rfl (gl _) (Aa _) ?_) | refine aJ rfl (qaq (vs := actC (actV0) (namedA a)) rfl (by rw [hn]; rfl) rfl (by rw [hn]; exact qaO (hq h (aU h))) (gj _) rfl ?_))
  exact ⟨_, bI rfl rfl rfl (aF _ _ _) (Aa _), actV0, rfl, by rw [hn]; exact hq _ (xf _ _), xf _ _⟩
 by_cases k3 : a.kind = 1 ∨ a.kind = 2 ∨ a.kind = 6 ∨ a.kind = 7
 ·
  have hn : namedA a = { act0 with kind := a.kind, node := a.node, group := a.group } := by unfold namedA; grind
  have hq : ∀ h', Ext h h' → ActR h' actV0 { act0 with kind := a.kind, node := a.node, group := a.group } := fun h' x => ⟨(hz h').ra, (hz h').rc, (hz h').rk⟩
  rcases k3 with k | k | k | k <;>
  ·
   repeat (first | refine aW ?_ | refine aR ?_ | refine aY ?_ | refine aE rfl ?_ | refine aG rfl ?_ | refine aP ?_ | refine AWp.b9 ?_ | refine dD ?_ | (refine zz rfl ?_; first | refine qaa rfl ?_ | refine qaf rfl rfl (hgx _) rfl ?_ | refine qak rfl rfl rfl (by omega) ?_ | refine qai rfl rfl rfl (by omega) ?_))
   refine bO (fun H => H.get h.next = some ⟨actC p a, 40, true⟩) (fun _ _ a b => b.c _ _ a) (t := OT.seq [(0, .P), (1, .S), (2, .P), (3, .S), (4, .P), (5, .W), (6, .P), (7, .W)] .nil) mixed (by kernel_rfl) (hgx _) ?_
   repeat (first | refine tp rfl rfl (fun h' hn => qan rfl ⟨rfl, rfl⟩) ?_ | refine cJ rfl rfl rfl (fun h' hn hx => qaf rfl rfl hx rfl ⟨rfl, rfl⟩) ?_)
   refine bH rfl rfl (qaI (v := .int .i64 a.node) rfl rfl rfl rfl ⟨hgx _, ?_⟩)
   repeat (first | refine tp rfl rfl (fun h' hn => qan rfl ⟨rfl, rfl⟩) ?_)
   refine bH rfl rfl (qaI (v := .int .i64 a.group) rfl rfl rfl rfl ⟨hgx _, ?_⟩)
   refine bD ?_
   repeat (first | refine aW ?_ | refine aR ?_ | refine aY ?_ | refine aM ?_ | refine aP ?_ | refine zz rfl (qam (sz := 33) rfl rfl (gl _) (Aa _) ?_) | refine aJ rfl (qaq (vs := actC (actV0) (namedA a)) rfl (by rw [hn]; rfl) rfl (by rw [hn]; exact qaO (hq h (aU h))) (gj _) rfl ?_))
   exact ⟨_, bI rfl rfl rfl (aF _ _ _) (Aa _), actV0, rfl, by rw [hn]; exact hq _ (xf _ _), xf _ _⟩
 by_cases k4 : a.kind = 3 ∨ a.kind = 4 ∨ a.kind = 5
 ·
  have hn : namedA a = { act0 with kind := a.kind, n := a.n } := by unfold namedA; grind
  have hq : ∀ h', Ext h h' → ActR h' actV0 { act0 with kind := a.kind, n := a.n } := fun h' x => ⟨(hz h').ra, (hz h').rc, (hz h').rk⟩
  rcases k4 with k | k | k <;>
  ·
   repeat (first | refine aW ?_ | refine aR ?_ | refine aY ?_ | refine aE rfl ?_ | refine aG rfl ?_ | refine aP ?_ | refine AWp.b9 ?_ | refine dD ?_ | refine aJ rfl (qaI (v := .int .i64 a.n) rfl rfl rfl rfl ?_) | (refine zz rfl ?_; first | refine qaa rfl ?_ | refine qan rfl ?_ | refine qaf rfl rfl (hgx _) rfl ?_ | refine qam (sz := 33) rfl rfl (gl _) (Aa _) ?_ | refine qak rfl rfl rfl (by omega) ?_ | refine qai rfl rfl rfl (by omega) ?_))
   repeat (first | refine W.w ?_ | refine aJ rfl (qaq (vs := actC (actV0) (namedA a)) rfl (by rw [hn]; rfl) rfl (by rw [hn]; exact qaO (hq h (aU h))) (gj _) rfl ?_))
   exact ⟨_, bI rfl rfl rfl (aF _ _ _) (Aa _), actV0, rfl, by rw [hn]; exact hq _ (xf _ _), xf _ _⟩
 by_cases k5 : a.kind = 8 ∨ a.kind = 13
 ·
  have hn : namedA a = { act0 with kind := a.kind, node := a.node } := by unfold namedA; grind
  have hq : ∀ h', Ext h h' → ActR h' actV0 { act0 with kind := a.kind, node := a.node } := fun h' x => ⟨(hz h').ra, (hz h').rc, (hz h').rk⟩
  rcases k5 with k | k <;>
  ·
   repeat (first | refine aW ?_ | refine aR ?_ | refine aY ?_ | refine aE rfl ?_ | refine aG rfl ?_ | refine aP ?_ | refine AWp.b9 ?_ | refine dD ?_ | refine aJ rfl (qaI (v := .int .i64 a.node) rfl rfl rfl rfl ?_) | (refine zz rfl ?_; first | refine qaa rfl ?_ | refine qan rfl ?_ | refine qaf rfl rfl (hgx _) rfl ?_ | refine qam (sz := 33) rfl rfl (gl _) (Aa _) ?_ | refine qak rfl rfl rfl (by omega) ?_ | refine qai rfl rfl rfl (by omega) ?_))
   repeat (first | refine W.w ?_ | refine aJ rfl (qaq (vs := actC (actV0) (namedA a)) rfl (by rw [hn]; rfl) rfl (by rw [hn]; exact qaO (hq h (aU h))) (gj _) rfl ?_))
   exact ⟨_, bI rfl rfl rfl (aF _ _ _) (Aa _), actV0, rfl, by rw [hn]; exact hq _ (xf _ _), xf _ _⟩
 by_cases k6 : a.kind = 9
 ·
  have hn : namedA a = { act0 with kind := a.kind, node := a.node, cmd := a.cmd } := by unfold namedA; grind
  have hq : ∀ h', Ext h h' → ActR h' { actV0 with c := p.c } { act0 with kind := a.kind, node := a.node, cmd := a.cmd } := fun h' x => ⟨(hz h').ra, (r.ext x).rc, (hz h').rk⟩
  repeat (first | refine aW ?_ | refine aR ?_ | refine aY ?_ | refine aE rfl ?_ | refine aG rfl ?_ | refine aP ?_ | refine AWp.b9 ?_ | refine dD ?_ | (refine zz rfl ?_; first | refine qaa rfl ?_ | refine qaf rfl rfl (hgx _) rfl ?_ | refine qak rfl rfl rfl (by omega) ?_ | refine qai rfl rfl rfl (by omega) ?_))
  refine bO (fun H => H.get h.next = some ⟨actC p a, 40, true⟩) (fun _ _ a b => b.c _ _ a) (t := OT.seq [(0, .P), (1, .S), (2, .P), (3, .S), (4, .P), (5, .W), (6, .P), (7, .W)] .nil) mixed (by kernel_rfl) (hgx _) ?_
  repeat (first | refine tp rfl rfl (fun h' hn => qan rfl ⟨rfl, rfl⟩) ?_ | refine cJ rfl rfl rfl (fun h' hn hx => qaf rfl rfl hx rfl ⟨rfl, rfl⟩) ?_ | refine cJ rfl rfl rfl (fun h' hn hx => qam (sz := 20) rfl rfl hx (Ab rfl) ⟨rfl, rfl⟩) ?_)
  refine bH rfl rfl (qaI (v := .int .i64 a.node) rfl rfl rfl rfl ⟨hgx _, ?_⟩)
  repeat (first | refine tp rfl rfl (fun h' hn => qan rfl ⟨rfl, rfl⟩) ?_)
  refine bH rfl rfl (qbp (vs := cmdC p.c a.cmd) rfl rfl rfl (qa4 r.rc) rfl ⟨hgx _, ?_⟩)
  refine bD ?_
  repeat (first | refine aW ?_ | refine aR ?_ | refine aY ?_ | refine aM ?_ | refine aP ?_ | refine zz rfl (qam (sz := 33) rfl rfl (gl _) (Aa _) ?_) | refine aJ rfl (qaq (vs := actC ({ actV0 with c := p.c }) (namedA a)) rfl (by rw [hn]; rfl) rfl (by rw [hn]; exact qaO (hq h (aU h))) (gj _) rfl ?_))
  exact ⟨_, bI rfl rfl rfl (aF _ _ _) (Aa _), { actV0 with c := p.c }, rfl, by rw [hn]; exact hq _ (xf _ _), xf _ _⟩
 by_cases k7 : a.kind = 12
 ·
  have hn : namedA a = { act0 with kind := a.kind, node := a.node, keep := a.keep } := by unfold namedA; grind
  have hq : ∀ h', Ext h h' → ActR h' { actV0 with k := p.k } { act0 with kind := a.kind, node := a.node, keep := a.keep } := fun h' x => ⟨(hz h').ra, (hz h').rc, (r.ext x).rk⟩
  repeat (first | refine aW ?_ | refine aR ?_ | refine aY ?_ | refine aE rfl ?_ | refine aG rfl ?_ | refine aP ?_ | refine AWp.b9 ?_ | refine dD ?_ | (refine zz rfl ?_; first | refine qaa rfl ?_ | refine qaf rfl rfl (hgx _) rfl ?_ | refine qak rfl rfl rfl (by omega) ?_ | refine qai rfl rfl rfl (by omega) ?_))
  refine bO (fun H => H.get h.next = some ⟨actC p a, 40, true⟩) (fun _ _ a b => b.c _ _ a) (t := OT.seq [(0, .P), (1, .S), (2, .P), (3, .S), (4, .P), (5, .W), (6, .P), (7, .W)] .nil) mixed (by kernel_rfl) (hgx _) ?_
  repeat (first | refine tp rfl rfl (fun h' hn => qan rfl ⟨rfl, rfl⟩) ?_ | refine cJ rfl rfl rfl (fun h' hn hx => qaf rfl rfl hx rfl ⟨rfl, rfl⟩) ?_)
  refine bH rfl rfl (qaI (v := .int .i64 a.node) rfl rfl rfl rfl ⟨hgx _, ?_⟩)
  repeat (first | refine tp rfl rfl (fun h' hn => qan rfl ⟨rfl, rfl⟩) ?_)
  refine bH rfl rfl (qaI (v := p.k) rfl rfl r.rk.one rfl ⟨hgx _, ?_⟩)
  refine bD ?_
  repeat (first | refine aW ?_ | refine aR ?_ | refine aY ?_ | refine aM ?_ | refine aP ?_ | refine zz rfl (qam (sz := 33) rfl rfl (gl _) (Aa _) ?_) | refine aJ rfl (qaq (vs := actC ({ actV0 with k := p.k }) (namedA a)) rfl (by rw [hn]; rfl) rfl (by rw [hn]; exact qaO (hq h (aU h))) (gj _) rfl ?_))
  exact ⟨_, bI rfl rfl rfl (aF _ _ _) (Aa _), { actV0 with k := p.k }, rfl, by rw [hn]; exact hq _ (xf _ _), xf _ _⟩
 ·
  have hn : namedA a = { act0 with kind := a.kind } := by unfold namedA; grind
  have hq : ∀ h', Ext h h' → ActR h' actV0 { act0 with kind := a.kind } := fun h' x => ⟨(hz h').ra, (hz h').rc, (hz h').rk⟩
  repeat (first | refine aW ?_ | refine aR ?_ | refine aY ?_ | refine aG rfl ?_ | refine aP ?_ | refine AWp.b9 ?_ | refine dD ?_ | (refine zz rfl ?_; first | refine qaa rfl ?_ | refine qaf rfl rfl (hgx _) rfl ?_ | refine qam (sz := 33) rfl rfl (gl _) (Aa _) ?_ | refine qai rfl rfl rfl (by omega) ?_))
  repeat (first | refine W.w ?_ | refine aJ rfl (qaq (vs := actC (actV0) (namedA a)) rfl (by rw [hn]; rfl) rfl (by rw [hn]; exact qaO (hq h (aU h))) (gj _) rfl ?_))
  exact ⟨_, bI rfl rfl rfl (aF _ _ _) (Aa _), actV0, rfl, by rw [hn]; exact hq _ (xf _ _), xf _ _⟩
end Go.Proofs.YtigmojilaadbhaaGreatDoor
/- . -/
namespace Go.Eng
open Go
open Go.ChangeMaps (setBlock)
section
variable {P : Program} {ρ : Operand → Value} {h : Heap} {K : Value → Heap → Prop} {dst : Option Tmp} {ty : TypeId} {pos : String} {aft : Array Edge} {g : Option (Nat × Bool)}
theorem qbB {t kt et : TypeId} {x y v : Operand} {i clock : Nat} {u : Value} {s : List UInt8} {l : KV} [td : TyD P t (.map kt et)] [tk : TyD P kt .string] (hx : ρ x = .map (some i)) (hy : ρ y = .string (bstr s)) (hv : ρ v = u) (hi : h.obj i = some (.map (ents l) clock))
  (kk : K undef (h.setO i (.map (ents (putS l s u clock)) (if hasS l s then clock else clock + 1)))) : AOp P ⟨dst, .insert t x y v, ty, pos, aft, g⟩ ρ h K :=
 .of_skip fun φ ac w r => by
  obtain ⟨_, e1⟩ := (hx ▸ r.ev x (by simp [Op.operands])).map_inv
  have e2 := (hy ▸ r.ev y (by simp [Op.operands])).string_inv
  have hvr := hv ▸ r.ev v (by simp [Op.operands])
  obtain ⟨cs, q1, q2⟩ := mapOf r.sim hi
  have hlow := r.sim.lowO hi
  rcases qcs (s := s) q2 0 with ⟨h1, h2, h3, h4, h5⟩ | ⟨j, u', cv, h1, h2, h3, h4, h6, ⟨d, d1, d2⟩, h7, h8⟩
  ·
   rw [h5, h3] at kk
   obtain ⟨s1, s2⟩ := r.sim.setO hi (o' := .map (ents (l ++ [(s, u, clock)])) (clock + 1)) (.map (cs.push { key := .string (bstr s), val := ac.eval v, born := clock }) (clock + 1)) (w' := setBlock w (φ i).b (.map (cs.push { key := .string (bstr s), val := ac.eval v, born := clock }) (clock + 1)))
    (qbe hlow) (by simp [setBlock]) rfl rfl rfl (ORel.ofMap (cs := cs.push { key := .string (bstr s), val := ac.eval v, born := clock }) (by rw [qbe hlow, Ah rfl]) (by rw [Array.toList_push]; exact q2.push hvr))
   refine ⟨_, φ, _, ?_, kk, s1, s2⟩
   have hrun : (Instr.mapUpdate t (.map (some (φ i).b)) (.string (bstr s)) (ac.eval v)).run P w = .ok () (setBlock w (φ i).b (.map (cs.push { key := .string (bstr s), val := ac.eval v, born := clock }) (clock + 1))) := by
    simp [Instr.mapUpdate, td.run, qbK q1, qbr, qbw _ _ _ h1, qcj q1 (fun _ _ _ => by simp)]
   simp [execOp, e1, e2, hrun]
  ·
   rw [h4] at kk
   simp only [if_true] at kk
   have hcsj : cs[j]? = some d := by simpa using d1
   obtain ⟨s1, s2⟩ := r.sim.setO hi (o' := .map (ents (putS l s u clock)) clock) (.map (cs.modify j fun e => { e with key := .string (bstr s), val := ac.eval v }) clock) (w' := setBlock w (φ i).b (.map (cs.modify j fun e => { e with key := .string (bstr s), val := ac.eval v }) clock))
    (qbe hlow) (by simp [setBlock]) rfl rfl rfl (ORel.ofMap (cs := cs.modify j fun e => { e with key := .string (bstr s), val := ac.eval v }) (by rw [qbe hlow, Ah rfl]) (by rw [Array.toList_modify]; exact h8 u _ clock hvr))
   refine ⟨_, φ, _, ?_, kk, s1, s2⟩
   have hkey : (Instr.keyThatStays (.string (bstr s)) (.string (bstr s))).run P w = .ok (.string (bstr s)) w := by simp [Instr.keyThatStays, Instr.sameBits, qdT]
   have hrun : (Instr.mapUpdate t (.map (some (φ i).b)) (.string (bstr s)) (ac.eval v)).run P w = .ok () (setBlock w (φ i).b (.map (cs.modify j fun e => { e with key := .string (bstr s), val := ac.eval v }) clock)) := by
    simp [Instr.mapUpdate, td.run, qbK q1, qbr, qbw _ _ _ h1, qcj q1 (fun _ _ _ => by simp), hcsj, d2, hkey]
   simp [execOp, e1, e2, hrun]
theorem qcU {t t' : TypeId} {ps rs : Array TypeId} {vr : Bool} {x y : Operand} {fn : Fn} {f c : Array Value} [ti : TyD P t (.func ps rs vr)] (hx : ρ x = .func fn f c) (hy : ρ y = .nilFunc) (kk : K (.bool true) h) : AOp P ⟨dst, .binOp .neq t x y t', ty, pos, aft, g⟩ ρ h K :=
 .of_pure kk fun φ ac w r => by
  obtain ⟨f', c', e1, _⟩ := (hx ▸ r.ev x (by simp [Op.operands])).func_inv
  have e2 := (hy ▸ r.ev y (by simp [Op.operands])).nilFunc_inv
  have e3 : (Op.equal t (.func fn f' c') .nilFunc).run P w = .ok false w := qcO fn f' c' w 9999
  exact ⟨.bool true, by simp [execOp, e1, e2, eqGuard, binOp, e3], .bool _⟩
theorem qc8 {t : TypeId} {ps rs : Array TypeId} {vr : Bool} [ti : TyD P t (.func ps rs vr)] (w : World) (d : Nat) : (Op.equalIn (d + 1) t .nilFunc .nilFunc).run P w = .ok true w := by
 simp [Op.equalIn, ti.run]
theorem qcY {t t' : TypeId} {ps rs : Array TypeId} {vr : Bool} {x y : Operand} [ti : TyD P t (.func ps rs vr)] (hx : ρ x = .nilFunc) (hy : ρ y = .nilFunc) (kk : K (.bool false) h) : AOp P ⟨dst, .binOp .neq t x y t', ty, pos, aft, g⟩ ρ h K :=
 .of_pure kk fun φ ac w r => by
  have e1 := (hx ▸ r.ev x (by simp [Op.operands])).nilFunc_inv
  have e2 := (hy ▸ r.ev y (by simp [Op.operands])).nilFunc_inv
  have e3 : (Op.equal t .nilFunc .nilFunc).run P w = .ok true w := qc8 w 9999
  exact ⟨.bool false, by simp [execOp, e1, e2, eqGuard, binOp, e3], .bool _⟩
end
end Go.Eng
/- . -/
namespace Go.Proofs.YtigmojilaadbhaaGreatDoor
open Go Go.Eng Go.Pln Go.Lib Go.Proofs.Tryz
attribute [local irreducible] AWp AL DAL AOp TAL
instance i_plan1 : FnC prog 130 := ⟨Tryz.f130, func130, by kernel_rfl, by kernel_rfl⟩
instance i_plan2 : FnC prog 132 := ⟨Tryz.f132, func132, by kernel_rfl, by kernel_rfl⟩
instance i_plan3 : FnC prog 133 := ⟨Tryz.f133, func133, by kernel_rfl, by kernel_rfl⟩
instance i_ask1 : FnC prog 134 := ⟨Tryz.f134, func134, by kernel_rfl, by kernel_rfl⟩
instance i_ask2 : FnC prog 135 := ⟨Tryz.f135, func135, by kernel_rfl, by kernel_rfl⟩
instance i_ask3 : FnC prog 136 := ⟨Tryz.f136, func136, by kernel_rfl, by kernel_rfl⟩
instance i_ask4 : FnC prog 137 := ⟨Tryz.f137, func137, by kernel_rfl, by kernel_rfl⟩
instance i_ask5 : FnC prog 138 := ⟨Tryz.f138, func138, by kernel_rfl, by kernel_rfl⟩
instance i_ask6 : FnC prog 139 := ⟨Tryz.f139, func139, by kernel_rfl, by kernel_rfl⟩
instance i_rnum : FnC prog 97 := ⟨Tryz.f97, func97, by kernel_rfl, by kernel_rfl⟩
instance qgl : TyD prog 87 (.pointer 89) := ⟨underlying87⟩
instance qgW : TyI prog 87 1 8 (.pointer none) := ⟨qaV (by kernel_rfl), rfl, rfl⟩
structure Rdr (h0 : Heap) (i : Nat) (s : Bytes) (h : Heap) : Prop where
 ext : Ext (h0.set i (rdB s)) h
 wf : WF h
 wf0 : WF h0
 lt : i < h0.next
 ge : 8 ≤ i
 nx : h0.next ≤ h.next
 tab : Tabs h0
theorem Rdr.box {h0 h : Heap} {i : Nat} {s : Bytes} (r : Rdr h0 i s h) : h.get i = some (rdB s) := r.ext.c _ _ (aF _ _ _)
theorem Rdr.tabs {h0 h : Heap} {i : Nat} {s : Bytes} (r : Rdr h0 i s h) : Tabs h := (r.tab.set r.ge).ext r.ext
theorem ext_over {a b c : Heap} {i : Nat} {x y : Blk} (h1 : Ext (a.set i x) b) (h2 : Ext (b.set i y) c) : Ext (a.set i y) c := by
 refine ⟨fun j z hj => h2.c j z ?_, fun j z hj => h2.o j z (h1.o j z hj)⟩
 by_cases e : j = i
 ·
  subst e
  rw [aF] at hj ⊢
  exact hj
 ·
  rw [aH e] at hj ⊢
  exact h1.c j z (by rw [aH e]; exact hj)
theorem Rdr.next {h0 h h' : Heap} {i : Nat} {s s' : Bytes} (r : Rdr h0 i s h) (hx : Ext (h.set i (rdB s')) h') (wf : WF h') (hn : h.next ≤ h'.next) : Rdr h0 i s' h' := ⟨ext_over r.ext hx, wf, r.wf0, r.lt, r.ge, Bi r.nx hn, r.tab⟩
theorem Rdr.grow {h0 h h' : Heap} {i : Nat} {s : Bytes} (r : Rdr h0 i s h) (hx : Ext h h') (wf : WF h') (hn : h.next ≤ h'.next) : Rdr h0 i s h' := ⟨r.ext.trans hx, wf, r.wf0, r.lt, r.ge, Bi r.nx hn, r.tab⟩
theorem Rdr.set {h0 h : Heap} {i : Nat} {s : Bytes} (r : Rdr h0 i s h) (s' : Bytes) : Rdr h0 i s' (h.set i (rdB s')) := r.next (aU _) (r.wf.set (r.wf.lt r.box) _) (Aa _)
theorem Rdr.put {h0 h : Heap} {i j : Nat} {s : Bytes} (r : Rdr h0 i s h) (hj : h0.next ≤ j) (hl : j < h.next) (b : Blk) : Rdr h0 i s (h.set j b) := by
 refine ⟨(WF.set r.wf0 r.lt _).ext_set r.ext (by exact hj) b, r.wf.set hl b, r.wf0, r.lt, r.ge, r.nx, r.tab⟩
theorem OS.over {B : Nat} {h h' : Heap} {e : TypeId} {u : Value} {vs : List Value} {i : Nat} {b : Blk} (o : OS B h e u vs) (hi : i < B) (hx : Ext (h.set i b) h') : OS B h' e u vs := by
 rcases o with ⟨rfl, rfl⟩ | ⟨j, c, h1, rfl, h2⟩
 ·
  exact .inl ⟨rfl, rfl⟩
 ·
  exact .inr ⟨j, c, h1, rfl, hx.c _ _ ((aH (by omega)).trans h2)⟩
theorem OS.put {B : Nat} {h : Heap} {e : TypeId} {u : Value} {vs : List Value} {i : Nat} {x : Blk} (o : OS B h e u vs) (hb : h.get i = some x) (hx : x.elem ≠ e) (b : Blk) : OS B (h.set i b) e u vs := by
 rcases o with ⟨rfl, rfl⟩ | ⟨j, c, h1, rfl, h2⟩
 ·
  exact .inl ⟨rfl, rfl⟩
 ·
  refine .inr ⟨j, c, h1, rfl, (aH fun e2 => ?_).trans h2⟩
  subst e2
  rw [hb] at h2
  cases h2
  exact hx rfl
abbrev cL := @OS.put
theorem qbz {h0 h : Heap} {i : Nat} {s : Bytes} (r : Rdr h0 i s h) (hl : s.length ≤ 1000000000) : ACalls prog 131 [ptr i] h fun u h' => OS h.next h' 5 u (bv (rawS s).1) ∧ Ext (h.set i (rdB (rawS s).2)) h' ∧ Rdr h0 i (rawS s).2 h' ∧ h.next ≤ h'.next := by
 refine (raw_c i s h r.box hl r.tabs r.ge).wf_post.mono ?_
 rintro u h' ⟨⟨a, b⟩, c, d⟩
 exact ⟨a, b, r.next b c d, d⟩
theorem qbh {h0 h : Heap} {i : Nat} {s : Bytes} (r : Rdr h0 i s h) (hl : s.length ≤ 1000000000) : ACalls prog 97 [ptr i] h fun u h' => u = .int .i64 (numS s).1 ∧ h' = h.set i (rdB (numS s).2) := num_c i s h r.box hl r.tabs r.ge
theorem qaY (s : Bytes) : (rawS s).2.length ≤ s.length := (qbu s).2
theorem qcl (s : Bytes) : (numS s).2.length ≤ s.length := (qbu s).2
abbrev pB (i : Nat) : Blk := ⟨[ptr i], 87, true⟩
theorem OS.low {B B' : Nat} {h : Heap} {e : TypeId} {u : Value} {vs : List Value} (o : OS B h e u vs) (hb : B' ≤ B) : OS B' h e u vs := o.imp id fun ⟨j, c, h1, h2, h3⟩ => ⟨j, c, Bi hb h1, h2, h3⟩
abbrev cF := @OS.low
structure AskO (B : Nat) (h : Heap) (q : AskV) (a : AskM) : Prop where
 k : OS B h 5 q.k (bv a.key)
 t : OS B h 5 q.t (bv a.to)
 v : OS B h 5 q.v (bv a.value)
 w : OS B h 5 q.w (bv a.was)
structure CmdO (B : Nat) (h : Heap) (q : CmdV) (c : CmdM) : Prop where
 hq : q = { cmdV0 with k := q.k }
 hk : OS B h 5 q.k (bv c.key)
 hc : c = { cmd0 with kind := c.kind, key := c.key, group := c.group }
theorem cmdR_k {h : Heap} {u : Value} {c : CmdM} (hc : c = { cmd0 with kind := c.kind, key := c.key, group := c.group }) (hk : RB h u c.key) : CmdR h { cmdV0 with k := u } c := by
 rw [hc]
 exact ⟨(bQ h).r, (bQ h).m, cZ h, bR h, hk⟩
theorem cmdO {u : Value} {c : CmdM} (h : oneB u = true) : (cmdC { cmdV0 with k := u } c).all oneB = true := by
 unfold cmdC
 simp only [Bc, h]
 rfl
theorem plan1_c {h0 h : Heap} {i b : Nat} {s : Bytes} (r : Rdr h0 i s h) (hb : h.get b = some (pB i)) (_hib : b ≠ i) (hl : s.length ≤ 1000000000) : ACalls prog 130 [ptr b] h fun u h' => ∃ q s', u = .agg (cmdC q { cmd0 with kind := 6, key := (rawS s).1 }).toArray ∧ CmdO h0.next h' q { cmd0 with kind := 6, key := (rawS s).1 } ∧ Rdr h0 i s' h' := by
 refine aD func130 rfl rfl ?_
 repeat (first | refine W.w ?_ | refine zz rfl (qax ?_))
 refine aS (h := h.alloc ⟨cmdC cmdV0 cmd0, 37, true⟩) rfl ?_
 have hne : h.next ≠ i := fun e => by have := r.lt; have := r.nx; omega
 have hbj : b ≠ h.next := Cj (r.wf.lt hb)
 have g1 := aB h ⟨cmdC cmdV0 cmd0, 37, true⟩
 have x1 := r.wf.ext ⟨cmdC cmdV0 cmd0, 37, true⟩
 have w1 := r.wf.alloc ⟨cmdC cmdV0 cmd0, 37, true⟩
 have r1 := r.grow x1 w1 (Ci _)
 have b1 := x1.c _ _ hb
 generalize h.alloc ⟨cmdC cmdV0 cmd0, 37, true⟩ = H1 at g1 x1 w1 r1 b1 ⊢
 have hi := r.lt
 have hj := r.nx
 have l1 := qaY s
 have l2 := qaY (rawS s).2
 have l3 := qaY (rawS (rawS s).2).2
 have k1 : h.next < H1.next := w1.lt g1
 repeat (first | refine zz rfl (qaf rfl rfl b1 rfl ?_))
 refine zz rfl (qat (evs := [ptr i]) rfl rfl ((qbz r1 (by omega)).mono ?_))
 rintro u2 H2 ⟨o2, x2, r2, n2⟩
 obtain ⟨a2, c2, hu2⟩ := bC (bW o2)
 have g2 := x2.c _ _ ((aH hne).trans g1)
 repeat (first | refine W.w ?_ | refine zz rfl (qay (out := cmdC { cmdV0 with k := u2 } { cmd0 with kind := 6, key := (rawS s).1 }) (by rw [hu2]; rfl) (by rw [hu2]; rfl) ?_) | refine aJ rfl (qaq (vs := cmdC { cmdV0 with k := u2 } { cmd0 with kind := 6, key := (rawS s).1 }) rfl rfl rfl (cmdO (bW o2).one.1) g2 rfl ?_))
 exact ⟨_, bI rfl rfl rfl (aF _ _ _) (Aa _), { cmdV0 with k := u2 }, _, rfl, ⟨rfl, cF (cL o2 g2 (Aj rfl) _) (by omega), rfl⟩, r2.put hj (by omega) _⟩
theorem plan2_c {h0 h : Heap} {i b : Nat} {s : Bytes} (r : Rdr h0 i s h) (hb : h.get b = some (pB i)) (_hib : b ≠ i) (hl : s.length ≤ 1000000000) : ACalls prog 132 [ptr b] h fun u h' => ∃ q s', u = .agg (cmdC q { cmd0 with kind := 7, key := (rawS s).1 }).toArray ∧ CmdO h0.next h' q { cmd0 with kind := 7, key := (rawS s).1 } ∧ Rdr h0 i s' h' := by
 refine aD func132 rfl rfl ?_
 repeat (first | refine W.w ?_ | refine zz rfl (qax ?_))
 refine aS (h := h.alloc ⟨cmdC cmdV0 cmd0, 37, true⟩) rfl ?_
 have hne : h.next ≠ i := fun e => by have := r.lt; have := r.nx; omega
 have hbj : b ≠ h.next := Cj (r.wf.lt hb)
 have g1 := aB h ⟨cmdC cmdV0 cmd0, 37, true⟩
 have x1 := r.wf.ext ⟨cmdC cmdV0 cmd0, 37, true⟩
 have w1 := r.wf.alloc ⟨cmdC cmdV0 cmd0, 37, true⟩
 have r1 := r.grow x1 w1 (Ci _)
 have b1 := x1.c _ _ hb
 generalize h.alloc ⟨cmdC cmdV0 cmd0, 37, true⟩ = H1 at g1 x1 w1 r1 b1 ⊢
 have hi := r.lt
 have hj := r.nx
 have l1 := qaY s
 have l2 := qaY (rawS s).2
 have l3 := qaY (rawS (rawS s).2).2
 have k1 : h.next < H1.next := w1.lt g1
 repeat (first | refine zz rfl (qaf rfl rfl b1 rfl ?_))
 refine zz rfl (qat (evs := [ptr i]) rfl rfl ((qbz r1 (by omega)).mono ?_))
 rintro u2 H2 ⟨o2, x2, r2, n2⟩
 obtain ⟨a2, c2, hu2⟩ := bC (bW o2)
 have g2 := x2.c _ _ ((aH hne).trans g1)
 repeat (first | refine W.w ?_ | refine zz rfl (qay (out := cmdC { cmdV0 with k := u2 } { cmd0 with kind := 7, key := (rawS s).1 }) (by rw [hu2]; rfl) (by rw [hu2]; rfl) ?_) | refine aJ rfl (qaq (vs := cmdC { cmdV0 with k := u2 } { cmd0 with kind := 7, key := (rawS s).1 }) rfl rfl rfl (cmdO (bW o2).one.1) g2 rfl ?_))
 exact ⟨_, bI rfl rfl rfl (aF _ _ _) (Aa _), { cmdV0 with k := u2 }, _, rfl, ⟨rfl, cF (cL o2 g2 (Aj rfl) _) (by omega), rfl⟩, r2.put hj (by omega) _⟩
theorem plan3_c {h0 h : Heap} {i b : Nat} {s : Bytes} (r : Rdr h0 i s h) (hb : h.get b = some (pB i)) (hib : b ≠ i) (hl : s.length ≤ 1000000000) : ACalls prog 133 [ptr b] h fun u h' => ∃ q s', u = .agg (cmdC q { cmd0 with kind := 8, key := (rawS s).1, group := (numS (rawS s).2).1 }).toArray ∧ CmdO h0.next h' q { cmd0 with kind := 8, key := (rawS s).1, group := (numS (rawS s).2).1 } ∧ Rdr h0 i s' h' := by
 refine aD func133 rfl rfl ?_
 repeat (first | refine W.w ?_ | refine zz rfl (qax ?_))
 refine cX (h := h.alloc ⟨cmdC cmdV0 cmd0, 37, true⟩) rfl ?_
 have hne : h.next ≠ i := fun e => by have := r.lt; have := r.nx; omega
 have hbj : b ≠ h.next := Cj (r.wf.lt hb)
 have g1 := aB h ⟨cmdC cmdV0 cmd0, 37, true⟩
 have x1 := r.wf.ext ⟨cmdC cmdV0 cmd0, 37, true⟩
 have w1 := r.wf.alloc ⟨cmdC cmdV0 cmd0, 37, true⟩
 have r1 := r.grow x1 w1 (Ci _)
 have b1 := x1.c _ _ hb
 generalize h.alloc ⟨cmdC cmdV0 cmd0, 37, true⟩ = H1 at g1 x1 w1 r1 b1 ⊢
 have hi := r.lt
 have hj := r.nx
 have l1 := qaY s
 have l2 := qaY (rawS s).2
 have l3 := qaY (rawS (rawS s).2).2
 have k1 : h.next < H1.next := w1.lt g1
 refine bO (fun H => H.get b = some (pB i)) (fun _ _ a b => b.c _ _ a) (t := OT.seq [(0, .S), (2, .S), (1, .W), (3, .W), (4, .P), (5, .W)] .nil) mixed (by kernel_rfl) b1 ?_
 repeat (first | refine cJ rfl rfl rfl (fun h' hn hx => qaf rfl rfl hx rfl ⟨rfl, rfl⟩) ?_)
 refine TAL.wj rfl rfl rfl ?_
 refine qat (evs := [ptr i]) rfl rfl ((qbz r1 (by omega)).mono ?_)
 rintro u2 H2 ⟨o2, x2, r2, n2⟩
 obtain ⟨a2, c2, hu2⟩ := bC (bW o2)
 have g2 := x2.c _ _ ((aH hne).trans g1)
 have b2 := x2.c _ _ ((aH hib).trans b1)
 refine ⟨b2, ?_⟩
 skip
 refine TAL.wj rfl rfl rfl ?_
 refine qat (evs := [ptr i]) rfl rfl ((qbh r2 (by omega)).mono ?_)
 rintro _ _ ⟨rfl, rfl⟩
 generalize hH3 : H2.set i (rdB (numS (rawS s).2).2) = H3
 have x3 : Ext (H2.set i (rdB (numS (rawS s).2).2)) H3 := hH3 ▸ aU _
 have r3 : Rdr h0 i (numS (rawS s).2).2 H3 := hH3 ▸ r2.set _
 have n3 : H2.next ≤ H3.next := hH3 ▸ Aa _
 have g3 := x3.c _ _ ((aH hne).trans g2)
 have b3 := x3.c _ _ ((aH hib).trans b2)
 refine ⟨b3, ?_⟩
 have o23 := OS.over o2 (by omega) x3
 repeat (first | refine tp rfl rfl (fun h' hn => qay (out := cmdC { cmdV0 with k := u2 } { cmd0 with kind := 8, key := (rawS s).1, group := (numS (rawS s).2).1 }) (by rw [hu2]; rfl) (by rw [hu2]; rfl) ⟨rfl, rfl⟩) ?_)
 refine bH rfl rfl (qaq (vs := cmdC { cmdV0 with k := u2 } { cmd0 with kind := 8, key := (rawS s).1, group := (numS (rawS s).2).1 }) rfl rfl rfl (cmdO (bW o2).one.1) g3 rfl ⟨(aH hbj).trans b3, ?_⟩)
 refine bD ?_
 repeat (first | refine aM ?_)
 exact ⟨_, bI rfl rfl rfl (aF _ _ _) (Aa _), { cmdV0 with k := u2 }, _, rfl, ⟨rfl, cF (cL o23 g3 (Aj rfl) _) (by omega), rfl⟩, r3.put hj (by omega) _⟩
theorem askO {k t v w : Value} {a : AskM} (h1 : oneB k = true) (h2 : oneB t = true) (h3 : oneB v = true) (h4 : oneB w = true) : (askC ⟨k, t, v, w⟩ a).all oneB = true := by
 unfold askC
 simp only [Bc, h1, h2, h3, h4]
 rfl
instance i_StD_api_Ask : StD prog 29 [(0, 1), (1, 1), (2, 1), (3, 1), (4, 1), (5, 1), (6, 1)] := ⟨_, underlying29, by kernel_rfl⟩
abbrev n0 : Value := .slice none 0 0
theorem ask1_c {h0 h : Heap} {i b : Nat} {s : Bytes} (r : Rdr h0 i s h) (hb : h.get b = some (pB i)) (_hib : b ≠ i) (hl : s.length ≤ 1000000000) : ACalls prog 134 [ptr b] h fun u h' => ∃ q s', u = .agg (askC q { ask0 with kind := 1, key := (rawS s).1 }).toArray ∧ AskO h0.next h' q { ask0 with kind := 1, key := (rawS s).1 } ∧ Rdr h0 i s' h' := by
 refine aD func134 rfl rfl ?_
 repeat (first | refine W.w ?_ | refine zz rfl (qax ?_))
 refine aS (h := h.alloc ⟨askC askV0 ask0, 29, true⟩) rfl ?_
 have hne : h.next ≠ i := fun e => by have := r.lt; have := r.nx; omega
 have hbj : b ≠ h.next := Cj (r.wf.lt hb)
 have g1 := aB h ⟨askC askV0 ask0, 29, true⟩
 have x1 := r.wf.ext ⟨askC askV0 ask0, 29, true⟩
 have w1 := r.wf.alloc ⟨askC askV0 ask0, 29, true⟩
 have r1 := r.grow x1 w1 (Ci _)
 have b1 := x1.c _ _ hb
 generalize h.alloc ⟨askC askV0 ask0, 29, true⟩ = H1 at g1 x1 w1 r1 b1 ⊢
 have hi := r.lt
 have hj := r.nx
 have l1 := qaY s
 have l2 := qaY (rawS s).2
 have l3 := qaY (rawS (rawS s).2).2
 have k1 : h.next < H1.next := w1.lt g1
 repeat (first | refine zz rfl (qaf rfl rfl b1 rfl ?_))
 refine zz rfl (qat (evs := [ptr i]) rfl rfl ((qbz r1 (by omega)).mono ?_))
 rintro u2 H2 ⟨o2, x2, r2, n2⟩
 obtain ⟨a2, c2, hu2⟩ := bC (bW o2)
 have g2 := x2.c _ _ ((aH hne).trans g1)
 repeat (first | refine W.w ?_ | refine zz rfl (qay (out := askC ⟨u2, n0, n0, n0⟩ { ask0 with kind := 1, key := (rawS s).1 }) (by rw [hu2]; rfl) (by rw [hu2]; rfl) ?_) | refine aJ rfl (qaq (vs := askC ⟨u2, n0, n0, n0⟩ { ask0 with kind := 1, key := (rawS s).1 }) rfl rfl rfl (askO (bW o2).one.1 rfl rfl rfl) g2 rfl ?_))
 exact ⟨_, bI rfl rfl rfl (aF _ _ _) (Aa _), ⟨u2, n0, n0, n0⟩, _, rfl, ⟨(cF (cL o2 g2 (Aj rfl) _) (by omega)), bP _ _ _, bP _ _ _, bP _ _ _⟩, r2.put hj (by omega) _⟩
theorem ask2_c {h0 h : Heap} {i b : Nat} {s : Bytes} (r : Rdr h0 i s h) (hb : h.get b = some (pB i)) (_hib : b ≠ i) (hl : s.length ≤ 1000000000) : ACalls prog 135 [ptr b] h fun u h' => ∃ q s', u = .agg (askC q { ask0 with kind := 3, key := (rawS s).1 }).toArray ∧ AskO h0.next h' q { ask0 with kind := 3, key := (rawS s).1 } ∧ Rdr h0 i s' h' := by
 refine aD func135 rfl rfl ?_
 repeat (first | refine W.w ?_ | refine zz rfl (qax ?_))
 refine aS (h := h.alloc ⟨askC askV0 ask0, 29, true⟩) rfl ?_
 have hne : h.next ≠ i := fun e => by have := r.lt; have := r.nx; omega
 have hbj : b ≠ h.next := Cj (r.wf.lt hb)
 have g1 := aB h ⟨askC askV0 ask0, 29, true⟩
 have x1 := r.wf.ext ⟨askC askV0 ask0, 29, true⟩
 have w1 := r.wf.alloc ⟨askC askV0 ask0, 29, true⟩
 have r1 := r.grow x1 w1 (Ci _)
 have b1 := x1.c _ _ hb
 generalize h.alloc ⟨askC askV0 ask0, 29, true⟩ = H1 at g1 x1 w1 r1 b1 ⊢
 have hi := r.lt
 have hj := r.nx
 have l1 := qaY s
 have l2 := qaY (rawS s).2
 have l3 := qaY (rawS (rawS s).2).2
 have k1 : h.next < H1.next := w1.lt g1
 repeat (first | refine zz rfl (qaf rfl rfl b1 rfl ?_))
 refine zz rfl (qat (evs := [ptr i]) rfl rfl ((qbz r1 (by omega)).mono ?_))
 rintro u2 H2 ⟨o2, x2, r2, n2⟩
 obtain ⟨a2, c2, hu2⟩ := bC (bW o2)
 have g2 := x2.c _ _ ((aH hne).trans g1)
 repeat (first | refine W.w ?_ | refine zz rfl (qay (out := askC ⟨u2, n0, n0, n0⟩ { ask0 with kind := 3, key := (rawS s).1 }) (by rw [hu2]; rfl) (by rw [hu2]; rfl) ?_) | refine aJ rfl (qaq (vs := askC ⟨u2, n0, n0, n0⟩ { ask0 with kind := 3, key := (rawS s).1 }) rfl rfl rfl (askO (bW o2).one.1 rfl rfl rfl) g2 rfl ?_))
 exact ⟨_, bI rfl rfl rfl (aF _ _ _) (Aa _), ⟨u2, n0, n0, n0⟩, _, rfl, ⟨(cF (cL o2 g2 (Aj rfl) _) (by omega)), bP _ _ _, bP _ _ _, bP _ _ _⟩, r2.put hj (by omega) _⟩
theorem ask3_c {h0 h : Heap} {i b : Nat} {s : Bytes} (r : Rdr h0 i s h) (hb : h.get b = some (pB i)) (hib : b ≠ i) (hl : s.length ≤ 1000000000) : ACalls prog 136 [ptr b] h fun u h' => ∃ q s', u = .agg (askC q { ask0 with kind := 2, key := (rawS s).1, value := (rawS (rawS s).2).1 }).toArray ∧ AskO h0.next h' q { ask0 with kind := 2, key := (rawS s).1, value := (rawS (rawS s).2).1 } ∧ Rdr h0 i s' h' := by
 refine aD func136 rfl rfl ?_
 repeat (first | refine W.w ?_ | refine zz rfl (qax ?_))
 refine cX (h := h.alloc ⟨askC askV0 ask0, 29, true⟩) rfl ?_
 have hne : h.next ≠ i := fun e => by have := r.lt; have := r.nx; omega
 have hbj : b ≠ h.next := Cj (r.wf.lt hb)
 have g1 := aB h ⟨askC askV0 ask0, 29, true⟩
 have x1 := r.wf.ext ⟨askC askV0 ask0, 29, true⟩
 have w1 := r.wf.alloc ⟨askC askV0 ask0, 29, true⟩
 have r1 := r.grow x1 w1 (Ci _)
 have b1 := x1.c _ _ hb
 generalize h.alloc ⟨askC askV0 ask0, 29, true⟩ = H1 at g1 x1 w1 r1 b1 ⊢
 have hi := r.lt
 have hj := r.nx
 have l1 := qaY s
 have l2 := qaY (rawS s).2
 have l3 := qaY (rawS (rawS s).2).2
 have k1 : h.next < H1.next := w1.lt g1
 refine bO (fun H => H.get b = some (pB i)) (fun _ _ a b => b.c _ _ a) (t := OT.seq [(0, .S), (2, .S), (1, .W), (3, .W), (4, .P), (5, .W)] .nil) mixed (by kernel_rfl) b1 ?_
 repeat (first | refine cJ rfl rfl rfl (fun h' hn hx => qaf rfl rfl hx rfl ⟨rfl, rfl⟩) ?_)
 refine TAL.wj rfl rfl rfl ?_
 refine qat (evs := [ptr i]) rfl rfl ((qbz r1 (by omega)).mono ?_)
 rintro u2 H2 ⟨o2, x2, r2, n2⟩
 obtain ⟨a2, c2, hu2⟩ := bC (bW o2)
 have g2 := x2.c _ _ ((aH hne).trans g1)
 have b2 := x2.c _ _ ((aH hib).trans b1)
 refine ⟨b2, ?_⟩
 skip
 refine TAL.wj rfl rfl rfl ?_
 refine qat (evs := [ptr i]) rfl rfl ((qbz r2 (by omega)).mono ?_)
 rintro u3 H3 ⟨o3, x3, r3, n3⟩
 obtain ⟨a3, c3, hu3⟩ := bC (bW o3)
 have g3 := x3.c _ _ ((aH hne).trans g2)
 have b3 := x3.c _ _ ((aH hib).trans b2)
 refine ⟨b3, ?_⟩
 repeat (first | refine tp rfl rfl (fun h' hn => qay (out := askC ⟨u2, n0, u3, n0⟩ { ask0 with kind := 2, key := (rawS s).1, value := (rawS (rawS s).2).1 }) (by rw [hu2, hu3]; rfl) (by rw [hu2, hu3]; rfl) ⟨rfl, rfl⟩) ?_)
 refine bH rfl rfl (qaq (vs := askC ⟨u2, n0, u3, n0⟩ { ask0 with kind := 2, key := (rawS s).1, value := (rawS (rawS s).2).1 }) rfl rfl rfl (askO (bW o2).one.1 rfl (bW o3).one.1 rfl) g3 rfl ⟨(aH hbj).trans b3, ?_⟩)
 refine bD ?_
 repeat (first | refine aM ?_)
 exact ⟨_, bI rfl rfl rfl (aF _ _ _) (Aa _), ⟨u2, n0, u3, n0⟩, _, rfl, ⟨(cF (cL (OS.over o2 (by omega) x3) g3 (Aj rfl) _) (by omega)), bP _ _ _, (cF (cL o3 g3 (Aj rfl) _) (by omega)), bP _ _ _⟩, r3.put hj (by omega) _⟩
theorem ask4_c {h0 h : Heap} {i b : Nat} {s : Bytes} (r : Rdr h0 i s h) (hb : h.get b = some (pB i)) (hib : b ≠ i) (hl : s.length ≤ 1000000000) : ACalls prog 137 [ptr b] h fun u h' => ∃ q s', u = .agg (askC q { ask0 with kind := 4, key := (rawS s).1, value := (rawS (rawS s).2).1, was := (rawS (rawS (rawS s).2).2).1 }).toArray ∧ AskO h0.next h' q { ask0 with kind := 4, key := (rawS s).1, value := (rawS (rawS s).2).1, was := (rawS (rawS (rawS s).2).2).1 } ∧ Rdr h0 i s' h' := by
 refine aD func137 rfl rfl ?_
 repeat (first | refine W.w ?_ | refine zz rfl (qax ?_))
 refine cX (h := h.alloc ⟨askC askV0 ask0, 29, true⟩) rfl ?_
 have hne : h.next ≠ i := fun e => by have := r.lt; have := r.nx; omega
 have hbj : b ≠ h.next := Cj (r.wf.lt hb)
 have g1 := aB h ⟨askC askV0 ask0, 29, true⟩
 have x1 := r.wf.ext ⟨askC askV0 ask0, 29, true⟩
 have w1 := r.wf.alloc ⟨askC askV0 ask0, 29, true⟩
 have r1 := r.grow x1 w1 (Ci _)
 have b1 := x1.c _ _ hb
 generalize h.alloc ⟨askC askV0 ask0, 29, true⟩ = H1 at g1 x1 w1 r1 b1 ⊢
 have hi := r.lt
 have hj := r.nx
 have l1 := qaY s
 have l2 := qaY (rawS s).2
 have l3 := qaY (rawS (rawS s).2).2
 have k1 : h.next < H1.next := w1.lt g1
 refine bO (fun H => H.get b = some (pB i)) (fun _ _ a b => b.c _ _ a) (t := OT.seq [(0, .S), (2, .S), (4, .S), (1, .W), (3, .W), (5, .W), (6, .P), (7, .W)] .nil) mixed (by kernel_rfl) b1 ?_
 repeat (first | refine cJ rfl rfl rfl (fun h' hn hx => qaf rfl rfl hx rfl ⟨rfl, rfl⟩) ?_)
 refine TAL.wj rfl rfl rfl ?_
 refine qat (evs := [ptr i]) rfl rfl ((qbz r1 (by omega)).mono ?_)
 rintro u2 H2 ⟨o2, x2, r2, n2⟩
 obtain ⟨a2, c2, hu2⟩ := bC (bW o2)
 have g2 := x2.c _ _ ((aH hne).trans g1)
 have b2 := x2.c _ _ ((aH hib).trans b1)
 refine ⟨b2, ?_⟩
 skip
 refine TAL.wj rfl rfl rfl ?_
 refine qat (evs := [ptr i]) rfl rfl ((qbz r2 (by omega)).mono ?_)
 rintro u3 H3 ⟨o3, x3, r3, n3⟩
 obtain ⟨a3, c3, hu3⟩ := bC (bW o3)
 have g3 := x3.c _ _ ((aH hne).trans g2)
 have b3 := x3.c _ _ ((aH hib).trans b2)
 refine ⟨b3, ?_⟩
 skip
 refine TAL.wj rfl rfl rfl ?_
 refine qat (evs := [ptr i]) rfl rfl ((qbz r3 (by omega)).mono ?_)
 rintro u4 H4 ⟨o4, x4, r4, n4⟩
 obtain ⟨a4, c4, hu4⟩ := bC (bW o4)
 have g4 := x4.c _ _ ((aH hne).trans g3)
 have b4 := x4.c _ _ ((aH hib).trans b3)
 refine ⟨b4, ?_⟩
 repeat (first | refine tp rfl rfl (fun h' hn => qay (out := askC ⟨u2, n0, u3, u4⟩ { ask0 with kind := 4, key := (rawS s).1, value := (rawS (rawS s).2).1, was := (rawS (rawS (rawS s).2).2).1 }) (by rw [hu2, hu3, hu4]; rfl) (by rw [hu2, hu3, hu4]; rfl) ⟨rfl, rfl⟩) ?_)
 refine bH rfl rfl (qaq (vs := askC ⟨u2, n0, u3, u4⟩ { ask0 with kind := 4, key := (rawS s).1, value := (rawS (rawS s).2).1, was := (rawS (rawS (rawS s).2).2).1 }) rfl rfl rfl (askO (bW o2).one.1 rfl (bW o3).one.1 (bW o4).one.1) g4 rfl ⟨(aH hbj).trans b4, ?_⟩)
 refine bD ?_
 repeat (first | refine aM ?_)
 exact ⟨_, bI rfl rfl rfl (aF _ _ _) (Aa _), ⟨u2, n0, u3, u4⟩, _, rfl, ⟨(cF (cL (OS.over (OS.over o2 (by omega) x3) (by omega) x4) g4 (Aj rfl) _) (by omega)), bP _ _ _, (cF (cL (OS.over o3 (by omega) x4) g4 (Aj rfl) _) (by omega)), (cF (cL o4 g4 (Aj rfl) _) (by omega))⟩, r4.put hj (by omega) _⟩
theorem ask5_c {h0 h : Heap} {i b : Nat} {s : Bytes} (r : Rdr h0 i s h) (hb : h.get b = some (pB i)) (hib : b ≠ i) (hl : s.length ≤ 1000000000) : ACalls prog 138 [ptr b] h fun u h' => ∃ q s', u = .agg (askC q { ask0 with kind := 4, key := (rawS s).1, value := (rawS (rawS s).2).1, none := true }).toArray ∧ AskO h0.next h' q { ask0 with kind := 4, key := (rawS s).1, value := (rawS (rawS s).2).1, none := true } ∧ Rdr h0 i s' h' := by
 refine aD func138 rfl rfl ?_
 repeat (first | refine W.w ?_ | refine zz rfl (qax ?_))
 refine cX (h := h.alloc ⟨askC askV0 ask0, 29, true⟩) rfl ?_
 have hne : h.next ≠ i := fun e => by have := r.lt; have := r.nx; omega
 have hbj : b ≠ h.next := Cj (r.wf.lt hb)
 have g1 := aB h ⟨askC askV0 ask0, 29, true⟩
 have x1 := r.wf.ext ⟨askC askV0 ask0, 29, true⟩
 have w1 := r.wf.alloc ⟨askC askV0 ask0, 29, true⟩
 have r1 := r.grow x1 w1 (Ci _)
 have b1 := x1.c _ _ hb
 generalize h.alloc ⟨askC askV0 ask0, 29, true⟩ = H1 at g1 x1 w1 r1 b1 ⊢
 have hi := r.lt
 have hj := r.nx
 have l1 := qaY s
 have l2 := qaY (rawS s).2
 have l3 := qaY (rawS (rawS s).2).2
 have k1 : h.next < H1.next := w1.lt g1
 refine bO (fun H => H.get b = some (pB i)) (fun _ _ a b => b.c _ _ a) (t := OT.seq [(0, .S), (2, .S), (1, .W), (3, .W), (4, .P), (5, .W)] .nil) mixed (by kernel_rfl) b1 ?_
 repeat (first | refine cJ rfl rfl rfl (fun h' hn hx => qaf rfl rfl hx rfl ⟨rfl, rfl⟩) ?_)
 refine TAL.wj rfl rfl rfl ?_
 refine qat (evs := [ptr i]) rfl rfl ((qbz r1 (by omega)).mono ?_)
 rintro u2 H2 ⟨o2, x2, r2, n2⟩
 obtain ⟨a2, c2, hu2⟩ := bC (bW o2)
 have g2 := x2.c _ _ ((aH hne).trans g1)
 have b2 := x2.c _ _ ((aH hib).trans b1)
 refine ⟨b2, ?_⟩
 skip
 refine TAL.wj rfl rfl rfl ?_
 refine qat (evs := [ptr i]) rfl rfl ((qbz r2 (by omega)).mono ?_)
 rintro u3 H3 ⟨o3, x3, r3, n3⟩
 obtain ⟨a3, c3, hu3⟩ := bC (bW o3)
 have g3 := x3.c _ _ ((aH hne).trans g2)
 have b3 := x3.c _ _ ((aH hib).trans b2)
 refine ⟨b3, ?_⟩
 repeat (first | refine tp rfl rfl (fun h' hn => qay (out := askC ⟨u2, n0, u3, n0⟩ { ask0 with kind := 4, key := (rawS s).1, value := (rawS (rawS s).2).1, none := true }) (by rw [hu2, hu3]; rfl) (by rw [hu2, hu3]; rfl) ⟨rfl, rfl⟩) ?_)
 refine bH rfl rfl (qaq (vs := askC ⟨u2, n0, u3, n0⟩ { ask0 with kind := 4, key := (rawS s).1, value := (rawS (rawS s).2).1, none := true }) rfl rfl rfl (askO (bW o2).one.1 rfl (bW o3).one.1 rfl) g3 rfl ⟨(aH hbj).trans b3, ?_⟩)
 refine bD ?_
 repeat (first | refine aM ?_)
 exact ⟨_, bI rfl rfl rfl (aF _ _ _) (Aa _), ⟨u2, n0, u3, n0⟩, _, rfl, ⟨(cF (cL (OS.over o2 (by omega) x3) g3 (Aj rfl) _) (by omega)), bP _ _ _, (cF (cL o3 g3 (Aj rfl) _) (by omega)), bP _ _ _⟩, r3.put hj (by omega) _⟩
theorem ask6_c {h0 h : Heap} {i b : Nat} {s : Bytes} (r : Rdr h0 i s h) (hb : h.get b = some (pB i)) (hib : b ≠ i) (hl : s.length ≤ 1000000000) : ACalls prog 139 [ptr b] h fun u h' => ∃ q s', u = .agg (askC q { ask0 with kind := 5, key := (rawS s).1, «to» := (rawS (rawS s).2).1, most := (numS (rawS (rawS s).2).2).1 }).toArray ∧ AskO h0.next h' q { ask0 with kind := 5, key := (rawS s).1, «to» := (rawS (rawS s).2).1, most := (numS (rawS (rawS s).2).2).1 } ∧ Rdr h0 i s' h' := by
 refine aD func139 rfl rfl ?_
 repeat (first | refine W.w ?_ | refine zz rfl (qax ?_))
 refine cX (h := h.alloc ⟨askC askV0 ask0, 29, true⟩) rfl ?_
 have hne : h.next ≠ i := fun e => by have := r.lt; have := r.nx; omega
 have hbj : b ≠ h.next := Cj (r.wf.lt hb)
 have g1 := aB h ⟨askC askV0 ask0, 29, true⟩
 have x1 := r.wf.ext ⟨askC askV0 ask0, 29, true⟩
 have w1 := r.wf.alloc ⟨askC askV0 ask0, 29, true⟩
 have r1 := r.grow x1 w1 (Ci _)
 have b1 := x1.c _ _ hb
 generalize h.alloc ⟨askC askV0 ask0, 29, true⟩ = H1 at g1 x1 w1 r1 b1 ⊢
 have hi := r.lt
 have hj := r.nx
 have l1 := qaY s
 have l2 := qaY (rawS s).2
 have l3 := qaY (rawS (rawS s).2).2
 have k1 : h.next < H1.next := w1.lt g1
 refine bO (fun H => H.get b = some (pB i)) (fun _ _ a b => b.c _ _ a) (t := OT.seq [(0, .S), (2, .S), (4, .S), (1, .W), (3, .W), (5, .W), (6, .P), (7, .W)] .nil) mixed (by kernel_rfl) b1 ?_
 repeat (first | refine cJ rfl rfl rfl (fun h' hn hx => qaf rfl rfl hx rfl ⟨rfl, rfl⟩) ?_)
 refine TAL.wj rfl rfl rfl ?_
 refine qat (evs := [ptr i]) rfl rfl ((qbz r1 (by omega)).mono ?_)
 rintro u2 H2 ⟨o2, x2, r2, n2⟩
 obtain ⟨a2, c2, hu2⟩ := bC (bW o2)
 have g2 := x2.c _ _ ((aH hne).trans g1)
 have b2 := x2.c _ _ ((aH hib).trans b1)
 refine ⟨b2, ?_⟩
 skip
 refine TAL.wj rfl rfl rfl ?_
 refine qat (evs := [ptr i]) rfl rfl ((qbz r2 (by omega)).mono ?_)
 rintro u3 H3 ⟨o3, x3, r3, n3⟩
 obtain ⟨a3, c3, hu3⟩ := bC (bW o3)
 have g3 := x3.c _ _ ((aH hne).trans g2)
 have b3 := x3.c _ _ ((aH hib).trans b2)
 refine ⟨b3, ?_⟩
 skip
 refine TAL.wj rfl rfl rfl ?_
 refine qat (evs := [ptr i]) rfl rfl ((qbh r3 (by omega)).mono ?_)
 rintro _ _ ⟨rfl, rfl⟩
 generalize hH4 : H3.set i (rdB (numS (rawS (rawS s).2).2).2) = H4
 have x4 : Ext (H3.set i (rdB (numS (rawS (rawS s).2).2).2)) H4 := hH4 ▸ aU _
 have r4 : Rdr h0 i (numS (rawS (rawS s).2).2).2 H4 := hH4 ▸ r3.set _
 have n4 : H3.next ≤ H4.next := hH4 ▸ Aa _
 have g4 := x4.c _ _ ((aH hne).trans g3)
 have b4 := x4.c _ _ ((aH hib).trans b3)
 refine ⟨b4, ?_⟩
 repeat (first | refine tp rfl rfl (fun h' hn => qay (out := askC ⟨u2, u3, n0, n0⟩ { ask0 with kind := 5, key := (rawS s).1, «to» := (rawS (rawS s).2).1, most := (numS (rawS (rawS s).2).2).1 }) (by rw [hu2, hu3]; rfl) (by rw [hu2, hu3]; rfl) ⟨rfl, rfl⟩) ?_)
 refine bH rfl rfl (qaq (vs := askC ⟨u2, u3, n0, n0⟩ { ask0 with kind := 5, key := (rawS s).1, «to» := (rawS (rawS s).2).1, most := (numS (rawS (rawS s).2).2).1 }) rfl rfl rfl (askO (bW o2).one.1 (bW o3).one.1 rfl rfl) g4 rfl ⟨(aH hbj).trans b4, ?_⟩)
 refine bD ?_
 repeat (first | refine aM ?_)
 exact ⟨_, bI rfl rfl rfl (aF _ _ _) (Aa _), ⟨u2, u3, n0, n0⟩, _, rfl, ⟨(cF (cL (OS.over (OS.over o2 (by omega) x3) (by omega) x4) g4 (Aj rfl) _) (by omega)), (cF (cL (OS.over o3 (by omega) x4) g4 (Aj rfl) _) (by omega)), bP _ _ _, bP _ _ _⟩, r4.put hj (by omega) _⟩
end Go.Proofs.YtigmojilaadbhaaGreatDoor
