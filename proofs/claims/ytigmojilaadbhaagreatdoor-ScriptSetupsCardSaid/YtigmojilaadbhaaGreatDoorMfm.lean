/-
  Texts of one claim, merged: 4 parts.
-/
import Derived.Test.YtigmojilaadbhaaGreatDoorMfi
import Derived.Test.YtigmojilaadbhaaGreatDoorMfl
import Derived.Test.YtigmojilaadbhaaGreatDoorMfj
import Derived.Test.YtigmojilaadbhaaGreatDoorMfe
set_option maxHeartbeats 16000000
/- . -/
namespace Go.Eng
open Go
section
variable {P : Program} {ρ : Operand → Value} {h : Heap} {K : Value → Heap → Prop} {dst : Option Tmp} {ty : TypeId} {pos : String} {aft : Array Edge} {g : Option (Nat × Bool)}
theorem qaD {t e : TypeId} {x y : Operand} {H : Heap} {by_ o : Nat} {z v : Value} {s : Option Nat} {old : List Value} [ti : TyI P t 1 by_ z] (hx : ρ x = .pointer (some ⟨H.next, o, s⟩)) (hy : ρ y = v) (h1 : oneB v = true) (hl : Nat.blt o old.length = true)
  (kk : K undef (H.alloc ⟨old.set o v, e, true⟩)) : AOp P ⟨dst, .store t x y, ty, pos, aft, g⟩ ρ (H.alloc ⟨old, e, true⟩) K := by
 refine qaU (b := ⟨old, e, true⟩) hx hy h1 (Heap.alloc_new _ _) rfl (by simpa [Nat.blt_eq] using hl) ?_
 show K undef ((H.alloc ⟨old, e, true⟩).set H.next ⟨old.set o v, e, true⟩)
 rw [Heap.set_alloc]
 exact kk
theorem qbn {t e : TypeId} {x y : Operand} {H : Heap} {sz by_ o : Nat} {z : Value} {s : Option Nat} {old vs : List Value} [ti : TyI P t sz by_ z] (hx : ρ x = .pointer (some ⟨H.next, o, s⟩)) (hy : ρ y = .agg vs.toArray) (hsz : vs.length = sz) (h1 : vs.all oneB = true) (hl : Nat.ble (o + sz) old.length = true)
  (kk : K undef (H.alloc ⟨splice old o vs, e, true⟩)) : AOp P ⟨dst, .store t x y, ty, pos, aft, g⟩ ρ (H.alloc ⟨old, e, true⟩) K := by
 refine qbk (vs := vs.toArray) hx hy (by simpa using h1) (by simpa using hsz) (Heap.alloc_new _ _) rfl (Nat.le_of_ble_eq_true hl) ?_
 show K undef ((H.alloc ⟨old, e, true⟩).set H.next ⟨splice old o vs, e, true⟩)
 rw [Heap.set_alloc]
 exact kk
theorem qap {t e : TypeId} {x y : Operand} {i sz by_ : Nat} {z : Value} {s : Option Nat} {old vs : List Value} [ti : TyI P t sz by_ z] (hx : ρ x = .pointer (some ⟨i, 0, s⟩)) (hy : ρ y = .agg vs.toArray) (hsz : vs.length = sz) (h1 : vs.all oneB = true) (hi : h.get i = some ⟨old, e, true⟩) (ho : old.length = sz)
  (kk : K undef (h.set i ⟨vs, e, true⟩)) : AOp P ⟨dst, .store t x y, ty, pos, aft, g⟩ ρ h K := by
 refine qbk (vs := vs.toArray) hx hy (by simpa using h1) (by simpa using hsz) hi rfl (by show 0 + sz ≤ old.length; omega) ?_
 have e1 : splice old 0 vs = vs := by
  unfold splice
  rw [List.drop_of_length_le (by omega)]
  simp
 show K undef (h.set i ⟨splice old 0 vs, e, true⟩)
 rw [e1]
 exact kk
end
end Go.Eng
/- . -/
namespace Go.Proofs.YtigmojilaadbhaaGreatDoor
open Go Go.Eng Go.Pln Go.Lib
attribute [local irreducible] AWp AL DAL AOp TAL
instance qek : FnC Tryz.prog 116 := ⟨Tryz.f116, Tryz.func116, by kernel_rfl, by kernel_rfl⟩
instance qeH : FnC Tryz.prog 87 := ⟨Tryz.f87, Tryz.func87, by kernel_rfl, by kernel_rfl⟩
def namedC (c : CmdM) : CmdM :=
 if c.kind = 2 then { cmd0 with kind := c.kind, req := c.req }
 else if c.kind = 3 ∨ c.kind = 5 ∨ c.kind = 9 ∨ c.kind = 10 then { cmd0 with kind := c.kind, move := c.move }
 else if c.kind = 4 then { cmd0 with kind := c.kind, move := c.move, entries := c.entries, answers := c.answers }
 else if c.kind = 6 ∨ c.kind = 7 then { cmd0 with kind := c.kind, key := c.key }
 else if c.kind = 8 then { cmd0 with kind := c.kind, key := c.key, group := c.group }
 else { cmd0 with kind := c.kind }
def keyOk (b : Bytes) : Bool := decide (1 ≤ b.length ∧ b.length ≤ 24)
def okC (c : CmdM) : Bool :=
 if c.kind = 1 then true else if c.kind = 2 then reqOk c.req
 else if c.kind = 3 ∨ c.kind = 5 ∨ c.kind = 9 ∨ c.kind = 10 then moveOk c.move
 else if c.kind = 4 then moveOk c.move && risingM c.entries && decide (c.entries.length ≤ 65536) && decide (c.answers.length ≤ 524288)
 else if c.kind = 6 ∨ c.kind = 7 then keyOk c.key
 else if c.kind = 8 then decide (c.key.length ≤ 24 ∧ 1 ≤ c.group ∧ c.group < 5)
 else false
theorem RE.one {h : Heap} {v : Value} {l : List EntM} (r : RE h v l) : oneB v = true := by
 obtain ⟨ro, r1, _⟩ := r.ex
 exact r1.one
theorem RK.one {h : Heap} {v : Value} {l : List (Bytes × Int)} (r : RK h v l) : oneB v = true := r.rn.one
theorem qb9 {h : Heap} {p : MoveV} {m : MoveM} (r : MoveR h p m) : (moveC p m).all oneB = true := by
 unfold moveC
 simp only [List.all_cons, r.f.one.1, r.t.one.1]
 rfl
theorem qbO {h : Heap} {p : AskV} {m : AskM} (r : AskR h p m) : (askC p m).all oneB = true := by
 unfold askC
 simp only [List.all_cons, r.k.one.1, r.t.one.1, r.v.one.1, r.w.one.1]
 rfl
theorem qhZ {h : Heap} {p : AskV} {m : ReqM} (r : AskR h p m.ask) : (reqC p m).all oneB = true := by
 unfold reqC
 simp only [List.all_cons, r.k.one.1, r.t.one.1, r.v.one.1, r.w.one.1]
 rfl
theorem qbg {h : Heap} {p : CmdV} {m : CmdM} (r : CmdR h p m) : (cmdC p m).all oneB = true := by
 unfold cmdC
 simp only [List.all_cons, r.r.k.one.1, r.r.t.one.1, r.r.v.one.1, r.r.w.one.1, r.m.f.one.1, r.m.t.one.1, r.e.one, r.n.one.1, r.k.one.1]
 rfl
theorem keyOk_c (v : Value) (b : Bytes) (h : Heap) (r : RB h v b) : ACalls Tryz.prog 151 [v] h fun u h' => u = .bool (keyOk b) ∧ h' = h := key_c v b h r
theorem cnamed_c (p : CmdV) (m : CmdM) (h : Heap) (r : CmdR h p m) : ACalls Tryz.prog 116 [.agg (cmdC p m).toArray] h fun u h' => ∃ q, u = .tuple #[.agg (cmdC q (namedC m)).toArray, .bool (okC m)] ∧ CmdR h' q (namedC m) ∧ Ext h h' := by
 refine ACalls.wf fun wf => ?_
 refine ACalls.body Tryz.func116 rfl rfl ?_
 repeat (first | refine W.w ?_ | refine zz rfl (qaK rfl (by intro e; cases e) ?_))
 generalize hH : h.alloc _ = H1
 have hg1 : H1.get h.next = some ⟨cmdC p m, 37, true⟩ := hH ▸ Heap.alloc_new _ _
 have hx1 : Ext h H1 := hH ▸ wf.ext _
 have wf1 : WF H1 := hH ▸ wf.alloc _
 have n1 : h.next < H1.next := wf1.lt hg1
 clear hH
 repeat (first | refine W.w ?_ | refine zz rfl (qaa rfl ?_) | refine zz rfl (qat ?_))
 generalize hH : H1.alloc _ = H2
 have g2 : H2.get H1.next = some ⟨cmdC cmdV0 cmd0, 37, true⟩ := hH ▸ Heap.alloc_new _ _
 have hx2 : Ext H1 H2 := hH ▸ wf1.ext _
 have wf2 : WF H2 := hH ▸ wf1.alloc _
 have n2 : H1.next < H2.next := wf2.lt g2
 have hg2 := hx2.c _ _ hg1
 clear hH
 repeat (first | refine W.w ?_ | refine AL.eff rfl (qaI (vs := cmdC cmdV0 { cmd0 with kind := m.kind }) rfl rfl rfl rfl rfl ?_) | (refine zz rfl ?_; first | refine qan rfl ?_ | refine qae rfl rfl hg2 rfl ?_ | refine qay (out := cmdC cmdV0 { cmd0 with kind := m.kind }) rfl rfl ?_ | refine qat ?_))
 have gl := Heap.alloc_new H2
 have hgx : ∀ b, (H2.alloc b).get h.next = some ⟨cmdC p m, 37, true⟩ := fun b => (wf2.ext b).c _ _ hg2
 have gj : ∀ b, (H2.alloc b).get H1.next = some ⟨cmdC cmdV0 cmd0, 37, true⟩ := fun b => (wf2.ext b).c _ _ g2
 have xl : ∀ b, Ext h (H2.alloc b) := fun b => hx1.trans (hx2.trans (wf2.ext b))
 have xf : ∀ b b', Ext h ((H2.alloc b).set H1.next b') := fun b b' => wf.ext_set (xl b) (Nat.le_of_lt n1) _
 clear hg1 hg2 g2 hx1 hx2 wf1
 by_cases k1 : m.kind = 1
 ·
  have hn : namedC m = { cmd0 with kind := m.kind } := by unfold namedC; grind
  have ho : okC m = true := by unfold okC; grind
  have hq : ∀ h', Ext h h' → CmdR h' cmdV0 { cmd0 with kind := m.kind } := fun h' _ => ⟨(CmdR.nil h').r, (CmdR.nil h').m, RE.nil h', RB.nil h', RB.nil h'⟩
  repeat (first | refine W.w ?_ | refine AWp.c8 rfl ?_ | refine AL.eff rfl (qap (vs := cmdC cmdV0 { cmd0 with kind := m.kind }) rfl rfl rfl rfl (gj _) rfl ?_) | (refine zz rfl ?_; first | refine qaa rfl ?_ | refine qae rfl rfl (hgx _) rfl ?_ | refine qah (sz := 20) rfl rfl (gl _) (Nat.le_refl _) ?_ | refine qaj rfl rfl rfl (by omega) ?_))
  exact ⟨_, ResV.cell2 rfl rfl rfl (Heap.set_at _ _ _) (Nat.le_refl _), cmdV0, by rw [hn, ho]; rfl, by rw [hn]; exact hq _ (xf _ _), xf _ _⟩
 by_cases k2 : m.kind = 2
 ·
  have hn : namedC m = { cmd0 with kind := m.kind, req := m.req } := by unfold namedC; grind
  have hq : ∀ h', Ext h h' → CmdR h' { cmdV0 with r := p.r } { cmd0 with kind := m.kind, req := m.req } := fun h' x => ⟨(r.ext x).r, (CmdR.nil h').m, RE.nil h', RB.nil h', RB.nil h'⟩
  have ho : okC m = reqOk m.req := by unfold okC; grind
  repeat (first | refine W.w ?_ | refine AWp.c8 rfl ?_ | refine AWp.c9 rfl ?_ | refine AL.eff rfl (qbn (vs := reqC p.r m.req) rfl rfl rfl (qhZ r.r) rfl ?_) | (refine zz rfl ?_; first | refine qaa rfl ?_ | refine qan rfl ?_ | refine qae rfl rfl (hgx _) rfl ?_ | refine qah (sz := 9) rfl rfl (hgx _) (Nat.le_of_ble_eq_true rfl) ?_ | refine qaj rfl rfl rfl (by omega) ?_ | refine qak rfl rfl rfl (by omega) ?_))
  refine AWp.draw (σ := [(0, .R), (1, .R), (2, .R), (3, .R), (4, .W), (5, .R)]) mixed (by kernel_rfl) ?_
  repeat (first | refine DAL.r rfl rfl rfl (fun h' hx hn => qan rfl ⟨rfl, rfl⟩) ?_ | refine DAL.r rfl rfl rfl (fun h' hx hn => qah (sz := 20) rfl rfl (hx.c _ _ (gl _)) (Nat.le_refl _) ⟨rfl, rfl⟩) ?_ | refine DAL.r rfl rfl rfl (fun h' hx hn => qah (sz := 9) rfl rfl (hx.c _ _ (hgx _)) (Nat.le_of_ble_eq_true rfl) ⟨rfl, rfl⟩) ?_ | refine DAL.r rfl rfl rfl (fun h' hx hn => qab rfl rfl (mayReq_c p.r m.req h' (r.r.ext ((xl _).trans hx))) ⟨rfl, rfl⟩) ?_)
  refine DAL.w0 rfl rfl (qap (vs := cmdC { cmdV0 with r := p.r } { cmd0 with kind := m.kind, req := m.req }) rfl rfl rfl (qbg (hq h (Ext.refl h))) (gj _) rfl ?_)
  repeat (first | refine DAL.r rfl rfl rfl (fun h' hx hn => qaa rfl ⟨rfl, rfl⟩) ?_)
  refine DAL.nil ?_
  repeat (first | refine AWp.ret ?_)
  exact ⟨_, ResV.cell2 rfl rfl rfl (Heap.set_at _ _ _) (Nat.le_refl _), { cmdV0 with r := p.r }, by rw [hn, ho]; rfl, by rw [hn]; exact hq _ (xf _ _), xf _ _⟩
 by_cases k3 : m.kind = 3 ∨ m.kind = 5 ∨ m.kind = 9 ∨ m.kind = 10
 ·
  have hn : namedC m = { cmd0 with kind := m.kind, move := m.move } := by unfold namedC; grind
  have hq : ∀ h', Ext h h' → CmdR h' { cmdV0 with m := p.m } { cmd0 with kind := m.kind, move := m.move } := fun h' x => ⟨(CmdR.nil h').r, (r.ext x).m, RE.nil h', RB.nil h', RB.nil h'⟩
  have ho : okC m = moveOk m.move := by unfold okC; grind
  rcases k3 with k | k | k | k <;>
  ·
   repeat (first | refine W.w ?_ | refine AWp.c8 rfl ?_ | refine AWp.c9 rfl ?_ | refine AL.eff rfl (qbn (vs := moveC p.m m.move) rfl rfl rfl (qb9 r.m) rfl ?_) | (refine zz rfl ?_; first | refine qaa rfl ?_ | refine qan rfl ?_ | refine qae rfl rfl (hgx _) rfl ?_ | refine qah (sz := 6) rfl rfl (hgx _) (Nat.le_of_ble_eq_true rfl) ?_ | refine qaj rfl rfl rfl (by omega) ?_ | refine qak rfl rfl rfl (by omega) ?_))
   refine AWp.draw (σ := [(0, .R), (1, .R), (2, .R), (3, .R), (4, .W), (5, .R)]) mixed (by kernel_rfl) ?_
   repeat (first | refine DAL.r rfl rfl rfl (fun h' hx hn => qan rfl ⟨rfl, rfl⟩) ?_ | refine DAL.r rfl rfl rfl (fun h' hx hn => qah (sz := 20) rfl rfl (hx.c _ _ (gl _)) (Nat.le_refl _) ⟨rfl, rfl⟩) ?_ | refine DAL.r rfl rfl rfl (fun h' hx hn => qah (sz := 6) rfl rfl (hx.c _ _ (hgx _)) (Nat.le_of_ble_eq_true rfl) ⟨rfl, rfl⟩) ?_ | refine DAL.r rfl rfl rfl (fun h' hx hn => qab rfl rfl (qgv p.m m.move h' (r.m.ext ((xl _).trans hx))) ⟨rfl, rfl⟩) ?_)
   refine DAL.w0 rfl rfl (qap (vs := cmdC { cmdV0 with m := p.m } { cmd0 with kind := m.kind, move := m.move }) rfl rfl rfl (qbg (hq h (Ext.refl h))) (gj _) rfl ?_)
   repeat (first | refine DAL.r rfl rfl rfl (fun h' hx hn => qaa rfl ⟨rfl, rfl⟩) ?_)
   refine DAL.nil ?_
   repeat (first | refine AWp.ret ?_)
   exact ⟨_, ResV.cell2 rfl rfl rfl (Heap.set_at _ _ _) (Nat.le_refl _), { cmdV0 with m := p.m }, by rw [hn, ho]; rfl, by rw [hn]; exact hq _ (xf _ _), xf _ _⟩
 by_cases k4 : m.kind = 4
 ·
  have hn : namedC m = { cmd0 with kind := m.kind, move := m.move, entries := m.entries, answers := m.answers } := by unfold namedC; grind
  have hq : ∀ h', Ext h h' → CmdR h' { cmdV0 with m := p.m, e := p.e, n := p.n } { cmd0 with kind := m.kind, move := m.move, entries := m.entries, answers := m.answers } := fun h' x => ⟨(CmdR.nil h').r, (r.ext x).m, (r.ext x).e, (r.ext x).n, RB.nil h'⟩
  obtain ⟨ro, s1, s2, s3⟩ := r.e.ex
  have hel := r.e.len
  obtain ⟨ea, ec, hev⟩ := s1.slice
  obtain ⟨na, nc, hnv⟩ := RS.slice r.n
  rw [qaA] at hnv
  repeat (first | refine W.w ?_ | refine AWp.c8 rfl ?_ | refine AWp.c9 rfl ?_ | (refine zz rfl ?_; first | refine qaa rfl ?_ | refine qae rfl rfl (hgx _) rfl ?_ | refine qaj rfl rfl rfl (by omega) ?_ | refine qak rfl rfl rfl (by omega) ?_))
  refine AWp.treeJ (fun H => H.get h.next = some ⟨cmdC p m, 37, true⟩) (fun _ _ a b => b.c _ _ a) (t := OT.seq [(0, .P), (1, .S), (2, .P), (3, .S), (4, .P), (5, .S), (6, .P), (7, .W), (8, .P), (9, .W), (10, .P), (11, .W)] .nil) mixed (by kernel_rfl) (hgx _) ?_
  repeat (first | refine TAL.p rfl rfl rfl (fun h' hn => qan rfl ⟨rfl, rfl⟩) ?_ | refine TAL.s rfl rfl rfl (fun h' hn hx => qae rfl rfl hx rfl ⟨rfl, rfl⟩) ?_ | refine TAL.s rfl rfl rfl (fun h' hn hx => qah (sz := 6) rfl rfl hx (Nat.le_of_ble_eq_true rfl) ⟨rfl, rfl⟩) ?_)
  refine TAL.wj0 rfl rfl (qbn (vs := moveC p.m m.move) rfl rfl rfl (qb9 r.m) rfl ⟨hgx _, ?_⟩)
  repeat (first | refine TAL.p rfl rfl rfl (fun h' hn => qan rfl ⟨rfl, rfl⟩) ?_)
  refine TAL.wj0 rfl rfl (qaD (v := p.e) rfl rfl r.e.one rfl ⟨hgx _, ?_⟩)
  repeat (first | refine TAL.p rfl rfl rfl (fun h' hn => qan rfl ⟨rfl, rfl⟩) ?_)
  refine TAL.wj0 rfl rfl (qaD (v := p.n) rfl rfl r.n.one.1 rfl ⟨hgx _, ?_⟩)
  refine TAL.nil ?_
  repeat (first | refine AWp.seq ?_)
  have gb : ∀ b, (H2.alloc b).get h.next = some ⟨cmdC p m, 37, true⟩ := hgx
  refine AWp.treeJ (fun H => H.get h.next = some ⟨cmdC p m, 37, true⟩) (fun _ _ a b => b.c _ _ a) (t := OT.seq [(0, .R), (1, .R), (2, .R), (3, .R), (4, .R), (5, .R), (6, .R), (7, .R), (8, .R), (9, .R), (10, .R), (11, .R), (12, .R), (13, .R), (14, .R), (15, .R), (16, .P), (17, .S), (18, .P), (19, .P), (20, .P), (21, .W), (22, .R)] .nil) mixed (by kernel_rfl) (hgx _) ?_
  repeat' (first | refine TAL.skip rfl rfl rfl ?_ | refine TAL.r rfl rfl rfl (fun h' hx hn => qag rfl ⟨rfl, rfl⟩) ?_ | refine TAL.rB rfl rfl rfl (fun h' hx hn => qab rfl rfl (qgv p.m m.move h' (r.m.ext ((xl _).trans hx))) ⟨rfl, rfl⟩) (fun c => ?_) (fun c => ?_) | refine TAL.rB rfl rfl rfl (fun h' hx hn => qab rfl rfl (rising_c p.e m.entries h' (r.e.ext ((xl _).trans hx))) ⟨rfl, rfl⟩) (fun c => ?_) (fun c => ?_) | refine TAL.r rfl rfl rfl (fun h' hx hn => qan rfl ⟨rfl, rfl⟩) ?_ | refine TAL.r rfl rfl rfl (fun h' hx hn => qae rfl rfl (hx.c _ _ (hgx _)) rfl ⟨rfl, rfl⟩) ?_ | refine TAL.r rfl rfl rfl (fun h' hx hn => qah (sz := 20) rfl rfl (hx.c _ _ (gl _)) (Nat.le_refl _) ⟨rfl, rfl⟩) ?_ | refine TAL.r rfl rfl rfl (fun h' hx hn => qah (sz := 6) rfl rfl (hx.c _ _ (hgx _)) (Nat.le_of_ble_eq_true rfl) ⟨rfl, rfl⟩) ?_ | refine TAL.r rfl rfl rfl (fun h' hx hn => qbU hev ⟨rfl, rfl⟩) ?_ | refine TAL.p rfl rfl rfl (fun h' hn => qan rfl ⟨rfl, rfl⟩) ?_ | refine TAL.p rfl rfl rfl (fun h' hn => qbU hnv ⟨rfl, rfl⟩) ?_ | refine TAL.s rfl rfl rfl (fun h' hn hx => qae rfl rfl hx rfl ⟨rfl, rfl⟩) ?_ | refine TAL.rP rfl rfl rfl (fun h' hx hn => qa9 rfl rfl rfl ⟨rfl, rfl⟩) (fun c => ?_) (fun c => ?_) | refine TAL.pP rfl rfl rfl (fun h' hn => qa9 rfl rfl rfl ⟨rfl, rfl⟩) (fun c => ?_) (fun c => ?_) | refine TAL.r rfl rfl rfl (fun h' hx hn => qai (v := .bool _) rfl rfl ⟨rfl, rfl⟩) ?_ | refine TAL.p rfl rfl rfl (fun h' hn => qai (v := .bool _) rfl rfl ⟨rfl, rfl⟩) ?_)
  all_goals refine TAL.wj0 rfl rfl (qap (vs := cmdC { cmdV0 with m := p.m, e := p.e, n := p.n } { cmd0 with kind := m.kind, move := m.move, entries := m.entries, answers := m.answers }) rfl rfl rfl (qbg (hq h (Ext.refl h))) (gj _) rfl ⟨(Heap.set_other (Nat.ne_of_lt n1)).trans (hgx _), ?_⟩)
  repeat' (first | refine TAL.nil ?_ | refine TAL.r rfl rfl rfl (fun h' hx hn => qaa rfl ⟨rfl, rfl⟩) ?_)
  repeat' (first | refine AWp.ret ?_)
  all_goals (
   exact ⟨_, ResV.cell2 rfl rfl rfl (Heap.set_at _ _ _) (Nat.le_refl _), { cmdV0 with m := p.m, e := p.e, n := p.n }, (by rw [hn]; first | (rw [show okC m = true by (unfold okC; grind)]; rfl) | (rw [show okC m = false by (unfold okC; grind)]; rfl)), by rw [hn]; exact hq _ (xf _ _), xf _ _⟩
   )
 by_cases k6 : m.kind = 6 ∨ m.kind = 7
 ·
  have hn : namedC m = { cmd0 with kind := m.kind, key := m.key } := by unfold namedC; grind
  have hq : ∀ h', Ext h h' → CmdR h' { cmdV0 with k := p.k } { cmd0 with kind := m.kind, key := m.key } := fun h' x => ⟨(CmdR.nil h').r, (CmdR.nil h').m, RE.nil h', RB.nil h', (r.ext x).k⟩
  have ho : okC m = keyOk m.key := by unfold okC; grind
  rcases k6 with k | k <;>
  ·
   repeat (first | refine W.w ?_ | refine AWp.c8 rfl ?_ | refine AWp.c9 rfl ?_ | refine AL.eff rfl (qaD (v := p.k) rfl rfl r.k.one.1 rfl ?_) | (refine zz rfl ?_; first | refine qaa rfl ?_ | refine qan rfl ?_ | refine qae rfl rfl (hgx _) rfl ?_ | refine qaj rfl rfl rfl (by omega) ?_ | refine qak rfl rfl rfl (by omega) ?_))
   refine AWp.draw (σ := [(0, .R), (1, .R), (2, .R), (3, .R), (4, .W), (5, .R)]) mixed (by kernel_rfl) ?_
   repeat (first | refine DAL.r rfl rfl rfl (fun h' hx hn => qan rfl ⟨rfl, rfl⟩) ?_ | refine DAL.r rfl rfl rfl (fun h' hx hn => qae rfl rfl (hx.c _ _ (hgx _)) rfl ⟨rfl, rfl⟩) ?_ | refine DAL.r rfl rfl rfl (fun h' hx hn => qah (sz := 20) rfl rfl (hx.c _ _ (gl _)) (Nat.le_refl _) ⟨rfl, rfl⟩) ?_ | refine DAL.r rfl rfl rfl (fun h' hx hn => qab rfl rfl (keyOk_c p.k m.key h' (r.k.ext ((xl _).trans hx))) ⟨rfl, rfl⟩) ?_)
   refine DAL.w0 rfl rfl (qap (vs := cmdC { cmdV0 with k := p.k } { cmd0 with kind := m.kind, key := m.key }) rfl rfl rfl (qbg (hq h (Ext.refl h))) (gj _) rfl ?_)
   repeat (first | refine DAL.r rfl rfl rfl (fun h' hx hn => qaa rfl ⟨rfl, rfl⟩) ?_)
   refine DAL.nil ?_
   repeat (first | refine AWp.ret ?_)
   exact ⟨_, ResV.cell2 rfl rfl rfl (Heap.set_at _ _ _) (Nat.le_refl _), { cmdV0 with k := p.k }, by rw [hn, ho]; rfl, by rw [hn]; exact hq _ (xf _ _), xf _ _⟩
 by_cases k8 : m.kind = 8
 ·
  have hn : namedC m = { cmd0 with kind := m.kind, key := m.key, group := m.group } := by unfold namedC; grind
  have hq : ∀ h', Ext h h' → CmdR h' { cmdV0 with k := p.k } { cmd0 with kind := m.kind, key := m.key, group := m.group } := fun h' x => ⟨(CmdR.nil h').r, (CmdR.nil h').m, RE.nil h', RB.nil h', (r.ext x).k⟩
  repeat (first | refine W.w ?_ | refine AWp.c8 rfl ?_ | refine AWp.c9 rfl ?_ | (refine zz rfl ?_; first | refine qaa rfl ?_ | refine qae rfl rfl (hgx _) rfl ?_ | refine qaj rfl rfl rfl (by omega) ?_ | refine qak rfl rfl rfl (by omega) ?_))
  refine AWp.treeJ (fun H => H.get h.next = some ⟨cmdC p m, 37, true⟩) (fun _ _ a b => b.c _ _ a) (t := OT.seq [(0, .P), (1, .S), (2, .P), (3, .S), (4, .P), (5, .W), (6, .P), (7, .W)] .nil) mixed (by kernel_rfl) (hgx _) ?_
  repeat (first | refine TAL.p rfl rfl rfl (fun h' hn => qan rfl ⟨rfl, rfl⟩) ?_ | refine TAL.s rfl rfl rfl (fun h' hn hx => qae rfl rfl hx rfl ⟨rfl, rfl⟩) ?_)
  refine TAL.wj0 rfl rfl (qaD (v := p.k) rfl rfl r.k.one.1 rfl ⟨hgx _, ?_⟩)
  repeat (first | refine TAL.p rfl rfl rfl (fun h' hn => qan rfl ⟨rfl, rfl⟩) ?_)
  refine TAL.wj0 rfl rfl (qaD (v := .int .i64 m.group) rfl rfl rfl rfl ⟨hgx _, ?_⟩)
  refine TAL.nil ?_
  repeat (first | refine AWp.seq ?_)
  refine AWp.tree (t := OT.seq [(0, .R), (1, .R), (2, .R), (3, .R), (4, .R), (5, .R), (6, .R), (7, .R), (8, .R), (9, .P), (10, .W), (11, .R)] .nil) mixed (by kernel_rfl) ?_
  repeat' (first | refine TAL.skip rfl rfl rfl ?_ | refine TAL.r rfl rfl rfl (fun h' hx hn => qag rfl ⟨rfl, rfl⟩) ?_ | refine TAL.rB rfl rfl rfl (fun h' hx hn => qab rfl rfl (qhS m.group h') ⟨rfl, rfl⟩) (fun c => ?_) (fun c => ?_) | refine TAL.r rfl rfl rfl (fun h' hx hn => qan rfl ⟨rfl, rfl⟩) ?_ | refine TAL.r rfl rfl rfl (fun h' hx hn => qae rfl rfl (hx.c _ _ (hgx _)) rfl ⟨rfl, rfl⟩) ?_ | refine TAL.r rfl rfl rfl (fun h' hx hn => qah (sz := 20) rfl rfl (hx.c _ _ (gl _)) (Nat.le_refl _) ⟨rfl, rfl⟩) ?_ | refine TAL.r rfl rfl rfl (fun h' hx hn => qaG (r.k.ext ((xl _).trans hx)) rfl ⟨rfl, rfl⟩) ?_ | refine TAL.rP rfl rfl rfl (fun h' hx hn => qa9 rfl rfl rfl ⟨rfl, rfl⟩) (fun c => ?_) (fun c => ?_) | refine TAL.p rfl rfl rfl (fun h' hn => qai (v := .bool _) rfl rfl ⟨rfl, rfl⟩) ?_)
  all_goals refine TAL.w0 rfl rfl (qap (vs := cmdC { cmdV0 with k := p.k } { cmd0 with kind := m.kind, key := m.key, group := m.group }) rfl rfl rfl (qbg (hq h (Ext.refl h))) (gj _) rfl ?_)
  repeat' (first | refine TAL.nil ?_ | refine TAL.r rfl rfl rfl (fun h' hx hn => qaa rfl ⟨rfl, rfl⟩) ?_)
  repeat' (first | refine AWp.ret ?_)
  all_goals (
   exact ⟨_, ResV.cell2 rfl rfl rfl (Heap.set_at _ _ _) (Nat.le_refl _), { cmdV0 with k := p.k }, (by rw [hn]; first | (rw [show okC m = true by (unfold okC; grind)]; rfl) | (rw [show okC m = false by (unfold okC; grind)]; rfl)), by rw [hn]; exact hq _ (xf _ _), xf _ _⟩
   )
 ·
  have hn : namedC m = { cmd0 with kind := m.kind } := by unfold namedC; grind
  have ho : okC m = false := by unfold okC; grind
  have hq : ∀ h', Ext h h' → CmdR h' cmdV0 { cmd0 with kind := m.kind } := fun h' _ => ⟨(CmdR.nil h').r, (CmdR.nil h').m, RE.nil h', RB.nil h', RB.nil h'⟩
  repeat (first | refine W.w ?_ | refine AWp.c9 rfl ?_ | refine AL.eff rfl (qap (vs := cmdC cmdV0 { cmd0 with kind := m.kind }) rfl rfl rfl rfl (gj _) rfl ?_) | (refine zz rfl ?_; first | refine qaa rfl ?_ | refine qae rfl rfl (hgx _) rfl ?_ | refine qah (sz := 20) rfl rfl (gl _) (Nat.le_refl _) ?_ | refine qak rfl rfl rfl (by omega) ?_))
  exact ⟨_, ResV.cell2 rfl rfl rfl (Heap.set_at _ _ _) (Nat.le_refl _), cmdV0, by rw [hn, ho]; rfl, by rw [hn]; exact hq _ (xf _ _), xf _ _⟩
instance i_anamed : FnC Tryz.prog 86 := ⟨Tryz.f86, Tryz.func86, by kernel_rfl, by kernel_rfl⟩
def namedA (a : ActM) : ActM :=
 if a.kind = 10 then { act0 with kind := a.kind, node := a.node, group := a.group, client := a.client, ask := a.ask }
 else if a.kind = 11 then { act0 with kind := a.kind, node := a.node, group := a.group, client := a.client }
 else if a.kind = 1 ∨ a.kind = 2 ∨ a.kind = 6 ∨ a.kind = 7 then { act0 with kind := a.kind, node := a.node, group := a.group }
 else if a.kind = 3 ∨ a.kind = 4 ∨ a.kind = 5 then { act0 with kind := a.kind, n := a.n }
 else if a.kind = 8 ∨ a.kind = 13 then { act0 with kind := a.kind, node := a.node }
 else if a.kind = 9 then { act0 with kind := a.kind, node := a.node, cmd := a.cmd }
 else if a.kind = 12 then { act0 with kind := a.kind, node := a.node, keep := a.keep }
 else { act0 with kind := a.kind }
theorem qaF {h : Heap} {p : ActV} {a : ActM} (r : ActR h p a) : (actC p a).all oneB = true := by
 unfold actC
 have c := r.rc
 simp only [List.all_cons, r.ra.k.one.1, r.ra.t.one.1, r.ra.v.one.1, r.ra.w.one.1, c.r.k.one.1, c.r.t.one.1, c.r.v.one.1, c.r.w.one.1, c.m.f.one.1, c.m.t.one.1, c.e.one, c.n.one.1, c.k.one.1, r.rk.one]
 rfl
theorem anamed_c (p : ActV) (a : ActM) (h : Heap) (r : ActR h p a) : ACalls Tryz.prog 86 [.agg (actC p a).toArray] h fun u h' => ∃ q, u = .agg (actC q (namedA a)).toArray ∧ ActR h' q (namedA a) ∧ Ext h h' := by
 refine ACalls.wf fun wf => ?_
 refine ACalls.body Tryz.func86 rfl rfl ?_
 repeat (first | refine W.w ?_ | refine zz rfl (qaK rfl (by intro e; cases e) ?_))
 generalize hH : h.alloc _ = H1
 have hg1 : H1.get h.next = some ⟨actC p a, 40, true⟩ := hH ▸ Heap.alloc_new _ _
 have hx1 : Ext h H1 := hH ▸ wf.ext _
 have wf1 : WF H1 := hH ▸ wf.alloc _
 have n1 : h.next < H1.next := wf1.lt hg1
 clear hH
 repeat (first | refine W.w ?_ | refine zz rfl (qat ?_))
 generalize hH : H1.alloc _ = H2
 have g2 : H2.get H1.next = some ⟨actC actV0 act0, 40, true⟩ := hH ▸ Heap.alloc_new _ _
 have hx2 : Ext H1 H2 := hH ▸ wf1.ext _
 have wf2 : WF H2 := hH ▸ wf1.alloc _
 have n2 : H1.next < H2.next := wf2.lt g2
 have hg2 := hx2.c _ _ hg1
 clear hH
 repeat (first | refine W.w ?_ | refine AL.eff rfl (qaI (vs := actC actV0 { act0 with kind := a.kind }) rfl rfl rfl rfl rfl ?_) | (refine zz rfl ?_; first | refine qan rfl ?_ | refine qae rfl rfl hg2 rfl ?_ | refine qay (out := actC actV0 { act0 with kind := a.kind }) rfl rfl ?_ | refine qat ?_))
 have gl := Heap.alloc_new H2
 have hgx : ∀ b, (H2.alloc b).get h.next = some ⟨actC p a, 40, true⟩ := fun b => (wf2.ext b).c _ _ hg2
 have gj : ∀ b, (H2.alloc b).get H1.next = some ⟨actC actV0 act0, 40, true⟩ := fun b => (wf2.ext b).c _ _ g2
 have xl : ∀ b, Ext h (H2.alloc b) := fun b => hx1.trans (hx2.trans (wf2.ext b))
 have xf : ∀ b b', Ext h ((H2.alloc b).set H1.next b') := fun b b' => wf.ext_set (xl b) (Nat.le_of_lt n1) _
 have hz : ∀ h', ActR h' actV0 act0 := fun h' => ActR.nil h'
 clear hg1 hg2 g2 hx1 hx2 wf1
 by_cases k1 : a.kind = 10
 ·
  have hn : namedA a = { act0 with kind := a.kind, node := a.node, group := a.group, client := a.client, ask := a.ask } := by unfold namedA; rw [if_pos k1]
  have hq : ∀ h', Ext h h' → ActR h' { actV0 with q := p.q } { act0 with kind := a.kind, node := a.node, group := a.group, client := a.client, ask := a.ask } := fun h' x => ⟨(r.ext x).ra, (hz h').rc, (hz h').rk⟩
  repeat (first | refine AL.nil ?_ | refine AWp.seq ?_ | refine AWp.r9 ?_ | refine AWp.c8 rfl ?_ | refine AWp.exit ?_ | refine AWp.b9 ?_ | refine AL.eff rfl (qbn (vs := askC p.q a.ask) rfl rfl rfl (qbO r.ra) rfl ?_) | refine AL.eff rfl (qaD (v := .int .i64 a.client) rfl rfl rfl rfl ?_) | (refine zz rfl ?_; first | refine qaa rfl ?_ | refine qan rfl ?_ | refine qae rfl rfl (hgx _) rfl ?_ | refine qah (sz := 7) rfl rfl (hgx _) (Nat.le_of_ble_eq_true rfl) ?_ | refine qaj rfl rfl rfl (by omega) ?_))
  refine AWp.treeJ (fun H => H.get h.next = some ⟨actC p a, 40, true⟩) (fun _ _ a b => b.c _ _ a) (t := OT.seq [(0, .P), (1, .S), (2, .P), (3, .S), (4, .P), (5, .W), (6, .P), (7, .W)] .nil) mixed (by kernel_rfl) (hgx _) ?_
  repeat (first | refine TAL.p rfl rfl rfl (fun h' hn => qan rfl ⟨rfl, rfl⟩) ?_ | refine TAL.s rfl rfl rfl (fun h' hn hx => qae rfl rfl hx rfl ⟨rfl, rfl⟩) ?_)
  refine TAL.wj0 rfl rfl (qaD (v := .int .i64 a.node) rfl rfl rfl rfl ⟨hgx _, ?_⟩)
  repeat (first | refine TAL.p rfl rfl rfl (fun h' hn => qan rfl ⟨rfl, rfl⟩) ?_)
  refine TAL.wj0 rfl rfl (qaD (v := .int .i64 a.group) rfl rfl rfl rfl ⟨hgx _, ?_⟩)
  refine TAL.nil ?_
  repeat (first | refine AL.nil ?_ | refine AWp.seq ?_ | refine AWp.r9 ?_ | refine AWp.ret ?_ | refine AWp.exit ?_ | refine zz rfl (qah (sz := 33) rfl rfl (gl _) (Nat.le_refl _) ?_) | refine AL.eff rfl (qap (vs := actC ({ actV0 with q := p.q }) (namedA a)) rfl (by rw [hn]; rfl) rfl (by rw [hn]; exact qaF (hq h (Ext.refl h))) (gj _) rfl ?_))
  exact ⟨_, ResV.cellA rfl rfl rfl (Heap.set_at _ _ _) (Nat.le_refl _), { actV0 with q := p.q }, rfl, by rw [hn]; exact hq _ (xf _ _), xf _ _⟩
 by_cases k2 : a.kind = 11
 ·
  have hn : namedA a = { act0 with kind := a.kind, node := a.node, group := a.group, client := a.client } := by unfold namedA; grind
  have hq : ∀ h', Ext h h' → ActR h' actV0 { act0 with kind := a.kind, node := a.node, group := a.group, client := a.client } := fun h' x => ⟨(hz h').ra, (hz h').rc, (hz h').rk⟩
  repeat (first | refine AL.nil ?_ | refine AWp.seq ?_ | refine AWp.r9 ?_ | refine AWp.c8 rfl ?_ | refine AWp.c9 rfl ?_ | refine AWp.exit ?_ | refine AWp.b9 ?_ | refine AWp.k9 ?_ | refine AL.eff rfl (qaD (v := .int .i64 a.client) rfl rfl rfl rfl ?_) | (refine zz rfl ?_; first | refine qaa rfl ?_ | refine qan rfl ?_ | refine qae rfl rfl (hgx _) rfl ?_ | refine qaj rfl rfl rfl (by omega) ?_ | refine qak rfl rfl rfl (by omega) ?_))
  refine AWp.treeJ (fun H => H.get h.next = some ⟨actC p a, 40, true⟩) (fun _ _ a b => b.c _ _ a) (t := OT.seq [(0, .P), (1, .S), (2, .P), (3, .S), (4, .P), (5, .W), (6, .P), (7, .W)] .nil) mixed (by kernel_rfl) (hgx _) ?_
  repeat (first | refine TAL.p rfl rfl rfl (fun h' hn => qan rfl ⟨rfl, rfl⟩) ?_ | refine TAL.s rfl rfl rfl (fun h' hn hx => qae rfl rfl hx rfl ⟨rfl, rfl⟩) ?_)
  refine TAL.wj0 rfl rfl (qaD (v := .int .i64 a.node) rfl rfl rfl rfl ⟨hgx _, ?_⟩)
  repeat (first | refine TAL.p rfl rfl rfl (fun h' hn => qan rfl ⟨rfl, rfl⟩) ?_)
  refine TAL.wj0 rfl rfl (qaD (v := .int .i64 a.group) rfl rfl rfl rfl ⟨hgx _, ?_⟩)
  refine TAL.nil ?_
  repeat (first | refine AL.nil ?_ | refine AWp.seq ?_ | refine AWp.r9 ?_ | refine AWp.ret ?_ | refine AWp.exit ?_ | refine zz rfl (qah (sz := 33) rfl rfl (gl _) (Nat.le_refl _) ?_) | refine AL.eff rfl (qap (vs := actC (actV0) (namedA a)) rfl (by rw [hn]; rfl) rfl (by rw [hn]; exact qaF (hq h (Ext.refl h))) (gj _) rfl ?_))
  exact ⟨_, ResV.cellA rfl rfl rfl (Heap.set_at _ _ _) (Nat.le_refl _), actV0, rfl, by rw [hn]; exact hq _ (xf _ _), xf _ _⟩
 by_cases k3 : a.kind = 1 ∨ a.kind = 2 ∨ a.kind = 6 ∨ a.kind = 7
 ·
  have hn : namedA a = { act0 with kind := a.kind, node := a.node, group := a.group } := by unfold namedA; grind
  have hq : ∀ h', Ext h h' → ActR h' actV0 { act0 with kind := a.kind, node := a.node, group := a.group } := fun h' x => ⟨(hz h').ra, (hz h').rc, (hz h').rk⟩
  rcases k3 with k | k | k | k <;>
  ·
   repeat (first | refine AL.nil ?_ | refine AWp.seq ?_ | refine AWp.r9 ?_ | refine AWp.c8 rfl ?_ | refine AWp.c9 rfl ?_ | refine AWp.exit ?_ | refine AWp.b9 ?_ | refine AWp.k9 ?_ | (refine zz rfl ?_; first | refine qaa rfl ?_ | refine qae rfl rfl (hgx _) rfl ?_ | refine qaj rfl rfl rfl (by omega) ?_ | refine qak rfl rfl rfl (by omega) ?_))
   refine AWp.treeJ (fun H => H.get h.next = some ⟨actC p a, 40, true⟩) (fun _ _ a b => b.c _ _ a) (t := OT.seq [(0, .P), (1, .S), (2, .P), (3, .S), (4, .P), (5, .W), (6, .P), (7, .W)] .nil) mixed (by kernel_rfl) (hgx _) ?_
   repeat (first | refine TAL.p rfl rfl rfl (fun h' hn => qan rfl ⟨rfl, rfl⟩) ?_ | refine TAL.s rfl rfl rfl (fun h' hn hx => qae rfl rfl hx rfl ⟨rfl, rfl⟩) ?_)
   refine TAL.wj0 rfl rfl (qaD (v := .int .i64 a.node) rfl rfl rfl rfl ⟨hgx _, ?_⟩)
   repeat (first | refine TAL.p rfl rfl rfl (fun h' hn => qan rfl ⟨rfl, rfl⟩) ?_)
   refine TAL.wj0 rfl rfl (qaD (v := .int .i64 a.group) rfl rfl rfl rfl ⟨hgx _, ?_⟩)
   refine TAL.nil ?_
   repeat (first | refine AL.nil ?_ | refine AWp.seq ?_ | refine AWp.r9 ?_ | refine AWp.ret ?_ | refine AWp.exit ?_ | refine zz rfl (qah (sz := 33) rfl rfl (gl _) (Nat.le_refl _) ?_) | refine AL.eff rfl (qap (vs := actC (actV0) (namedA a)) rfl (by rw [hn]; rfl) rfl (by rw [hn]; exact qaF (hq h (Ext.refl h))) (gj _) rfl ?_))
   exact ⟨_, ResV.cellA rfl rfl rfl (Heap.set_at _ _ _) (Nat.le_refl _), actV0, rfl, by rw [hn]; exact hq _ (xf _ _), xf _ _⟩
 by_cases k4 : a.kind = 3 ∨ a.kind = 4 ∨ a.kind = 5
 ·
  have hn : namedA a = { act0 with kind := a.kind, n := a.n } := by unfold namedA; grind
  have hq : ∀ h', Ext h h' → ActR h' actV0 { act0 with kind := a.kind, n := a.n } := fun h' x => ⟨(hz h').ra, (hz h').rc, (hz h').rk⟩
  rcases k4 with k | k | k <;>
  ·
   repeat (first | refine AL.nil ?_ | refine AWp.seq ?_ | refine AWp.r9 ?_ | refine AWp.c8 rfl ?_ | refine AWp.c9 rfl ?_ | refine AWp.exit ?_ | refine AWp.b9 ?_ | refine AWp.k9 ?_ | refine AL.eff rfl (qaD (v := .int .i64 a.n) rfl rfl rfl rfl ?_) | (refine zz rfl ?_; first | refine qaa rfl ?_ | refine qan rfl ?_ | refine qae rfl rfl (hgx _) rfl ?_ | refine qah (sz := 33) rfl rfl (gl _) (Nat.le_refl _) ?_ | refine qaj rfl rfl rfl (by omega) ?_ | refine qak rfl rfl rfl (by omega) ?_))
   repeat (first | refine W.w ?_ | refine AL.eff rfl (qap (vs := actC (actV0) (namedA a)) rfl (by rw [hn]; rfl) rfl (by rw [hn]; exact qaF (hq h (Ext.refl h))) (gj _) rfl ?_))
   exact ⟨_, ResV.cellA rfl rfl rfl (Heap.set_at _ _ _) (Nat.le_refl _), actV0, rfl, by rw [hn]; exact hq _ (xf _ _), xf _ _⟩
 by_cases k5 : a.kind = 8 ∨ a.kind = 13
 ·
  have hn : namedA a = { act0 with kind := a.kind, node := a.node } := by unfold namedA; grind
  have hq : ∀ h', Ext h h' → ActR h' actV0 { act0 with kind := a.kind, node := a.node } := fun h' x => ⟨(hz h').ra, (hz h').rc, (hz h').rk⟩
  rcases k5 with k | k <;>
  ·
   repeat (first | refine AL.nil ?_ | refine AWp.seq ?_ | refine AWp.r9 ?_ | refine AWp.c8 rfl ?_ | refine AWp.c9 rfl ?_ | refine AWp.exit ?_ | refine AWp.b9 ?_ | refine AWp.k9 ?_ | refine AL.eff rfl (qaD (v := .int .i64 a.node) rfl rfl rfl rfl ?_) | (refine zz rfl ?_; first | refine qaa rfl ?_ | refine qan rfl ?_ | refine qae rfl rfl (hgx _) rfl ?_ | refine qah (sz := 33) rfl rfl (gl _) (Nat.le_refl _) ?_ | refine qaj rfl rfl rfl (by omega) ?_ | refine qak rfl rfl rfl (by omega) ?_))
   repeat (first | refine W.w ?_ | refine AL.eff rfl (qap (vs := actC (actV0) (namedA a)) rfl (by rw [hn]; rfl) rfl (by rw [hn]; exact qaF (hq h (Ext.refl h))) (gj _) rfl ?_))
   exact ⟨_, ResV.cellA rfl rfl rfl (Heap.set_at _ _ _) (Nat.le_refl _), actV0, rfl, by rw [hn]; exact hq _ (xf _ _), xf _ _⟩
 by_cases k6 : a.kind = 9
 ·
  have hn : namedA a = { act0 with kind := a.kind, node := a.node, cmd := a.cmd } := by unfold namedA; grind
  have hq : ∀ h', Ext h h' → ActR h' { actV0 with c := p.c } { act0 with kind := a.kind, node := a.node, cmd := a.cmd } := fun h' x => ⟨(hz h').ra, (r.ext x).rc, (hz h').rk⟩
  repeat (first | refine AL.nil ?_ | refine AWp.seq ?_ | refine AWp.r9 ?_ | refine AWp.c8 rfl ?_ | refine AWp.c9 rfl ?_ | refine AWp.exit ?_ | refine AWp.b9 ?_ | refine AWp.k9 ?_ | (refine zz rfl ?_; first | refine qaa rfl ?_ | refine qae rfl rfl (hgx _) rfl ?_ | refine qaj rfl rfl rfl (by omega) ?_ | refine qak rfl rfl rfl (by omega) ?_))
  refine AWp.treeJ (fun H => H.get h.next = some ⟨actC p a, 40, true⟩) (fun _ _ a b => b.c _ _ a) (t := OT.seq [(0, .P), (1, .S), (2, .P), (3, .S), (4, .P), (5, .W), (6, .P), (7, .W)] .nil) mixed (by kernel_rfl) (hgx _) ?_
  repeat (first | refine TAL.p rfl rfl rfl (fun h' hn => qan rfl ⟨rfl, rfl⟩) ?_ | refine TAL.s rfl rfl rfl (fun h' hn hx => qae rfl rfl hx rfl ⟨rfl, rfl⟩) ?_ | refine TAL.s rfl rfl rfl (fun h' hn hx => qah (sz := 20) rfl rfl hx (Nat.le_of_ble_eq_true rfl) ⟨rfl, rfl⟩) ?_)
  refine TAL.wj0 rfl rfl (qaD (v := .int .i64 a.node) rfl rfl rfl rfl ⟨hgx _, ?_⟩)
  repeat (first | refine TAL.p rfl rfl rfl (fun h' hn => qan rfl ⟨rfl, rfl⟩) ?_)
  refine TAL.wj0 rfl rfl (qbn (vs := cmdC p.c a.cmd) rfl rfl rfl (qbg r.rc) rfl ⟨hgx _, ?_⟩)
  refine TAL.nil ?_
  repeat (first | refine AL.nil ?_ | refine AWp.seq ?_ | refine AWp.r9 ?_ | refine AWp.ret ?_ | refine AWp.exit ?_ | refine zz rfl (qah (sz := 33) rfl rfl (gl _) (Nat.le_refl _) ?_) | refine AL.eff rfl (qap (vs := actC ({ actV0 with c := p.c }) (namedA a)) rfl (by rw [hn]; rfl) rfl (by rw [hn]; exact qaF (hq h (Ext.refl h))) (gj _) rfl ?_))
  exact ⟨_, ResV.cellA rfl rfl rfl (Heap.set_at _ _ _) (Nat.le_refl _), { actV0 with c := p.c }, rfl, by rw [hn]; exact hq _ (xf _ _), xf _ _⟩
 by_cases k7 : a.kind = 12
 ·
  have hn : namedA a = { act0 with kind := a.kind, node := a.node, keep := a.keep } := by unfold namedA; grind
  have hq : ∀ h', Ext h h' → ActR h' { actV0 with k := p.k } { act0 with kind := a.kind, node := a.node, keep := a.keep } := fun h' x => ⟨(hz h').ra, (hz h').rc, (r.ext x).rk⟩
  repeat (first | refine AL.nil ?_ | refine AWp.seq ?_ | refine AWp.r9 ?_ | refine AWp.c8 rfl ?_ | refine AWp.c9 rfl ?_ | refine AWp.exit ?_ | refine AWp.b9 ?_ | refine AWp.k9 ?_ | (refine zz rfl ?_; first | refine qaa rfl ?_ | refine qae rfl rfl (hgx _) rfl ?_ | refine qaj rfl rfl rfl (by omega) ?_ | refine qak rfl rfl rfl (by omega) ?_))
  refine AWp.treeJ (fun H => H.get h.next = some ⟨actC p a, 40, true⟩) (fun _ _ a b => b.c _ _ a) (t := OT.seq [(0, .P), (1, .S), (2, .P), (3, .S), (4, .P), (5, .W), (6, .P), (7, .W)] .nil) mixed (by kernel_rfl) (hgx _) ?_
  repeat (first | refine TAL.p rfl rfl rfl (fun h' hn => qan rfl ⟨rfl, rfl⟩) ?_ | refine TAL.s rfl rfl rfl (fun h' hn hx => qae rfl rfl hx rfl ⟨rfl, rfl⟩) ?_)
  refine TAL.wj0 rfl rfl (qaD (v := .int .i64 a.node) rfl rfl rfl rfl ⟨hgx _, ?_⟩)
  repeat (first | refine TAL.p rfl rfl rfl (fun h' hn => qan rfl ⟨rfl, rfl⟩) ?_)
  refine TAL.wj0 rfl rfl (qaD (v := p.k) rfl rfl r.rk.one rfl ⟨hgx _, ?_⟩)
  refine TAL.nil ?_
  repeat (first | refine AL.nil ?_ | refine AWp.seq ?_ | refine AWp.r9 ?_ | refine AWp.ret ?_ | refine AWp.exit ?_ | refine zz rfl (qah (sz := 33) rfl rfl (gl _) (Nat.le_refl _) ?_) | refine AL.eff rfl (qap (vs := actC ({ actV0 with k := p.k }) (namedA a)) rfl (by rw [hn]; rfl) rfl (by rw [hn]; exact qaF (hq h (Ext.refl h))) (gj _) rfl ?_))
  exact ⟨_, ResV.cellA rfl rfl rfl (Heap.set_at _ _ _) (Nat.le_refl _), { actV0 with k := p.k }, rfl, by rw [hn]; exact hq _ (xf _ _), xf _ _⟩
 ·
  have hn : namedA a = { act0 with kind := a.kind } := by unfold namedA; grind
  have hq : ∀ h', Ext h h' → ActR h' actV0 { act0 with kind := a.kind } := fun h' x => ⟨(hz h').ra, (hz h').rc, (hz h').rk⟩
  repeat (first | refine AL.nil ?_ | refine AWp.seq ?_ | refine AWp.r9 ?_ | refine AWp.c9 rfl ?_ | refine AWp.exit ?_ | refine AWp.b9 ?_ | refine AWp.k9 ?_ | (refine zz rfl ?_; first | refine qaa rfl ?_ | refine qae rfl rfl (hgx _) rfl ?_ | refine qah (sz := 33) rfl rfl (gl _) (Nat.le_refl _) ?_ | refine qak rfl rfl rfl (by omega) ?_))
  repeat (first | refine W.w ?_ | refine AL.eff rfl (qap (vs := actC (actV0) (namedA a)) rfl (by rw [hn]; rfl) rfl (by rw [hn]; exact qaF (hq h (Ext.refl h))) (gj _) rfl ?_))
  exact ⟨_, ResV.cellA rfl rfl rfl (Heap.set_at _ _ _) (Nat.le_refl _), actV0, rfl, by rw [hn]; exact hq _ (xf _ _), xf _ _⟩
end Go.Proofs.YtigmojilaadbhaaGreatDoor
/- . -/
namespace Go.Eng
open Go
open Go.ChangeMaps (setBlock)
section
variable {P : Program} {ρ : Operand → Value} {h : Heap} {K : Value → Heap → Prop} {dst : Option Tmp} {ty : TypeId} {pos : String} {aft : Array Edge} {g : Option (Nat × Bool)}
theorem qbG {t kt et : TypeId} {x y v : Operand} {i clock : Nat} {u : Value} {s : List UInt8} {l : KV} [td : TyD P t (.map kt et)] [tk : TyD P kt .string] (hx : ρ x = .map (some i)) (hy : ρ y = .string (bstr s)) (hv : ρ v = u) (hi : h.obj i = some (.map (ents l) clock))
  (kk : K undef (h.setO i (.map (ents (putS l s u clock)) (if hasS l s then clock else clock + 1)))) : AOp P ⟨dst, .insert t x y v, ty, pos, aft, g⟩ ρ h K :=
 .of_skip fun φ ac w r => by
  obtain ⟨_, e1⟩ := (hx ▸ r.ev x (by simp [Op.operands])).map_inv
  have e2 := (hy ▸ r.ev y (by simp [Op.operands])).string_inv
  have hvr := hv ▸ r.ev v (by simp [Op.operands])
  obtain ⟨cs, q1, q2⟩ := mapOf r.sim hi
  have hlow := r.sim.lowO hi
  rcases qcv (s := s) q2 0 with ⟨h1, h2, h3, h4, h5⟩ | ⟨j, u', cv, h1, h2, h3, h4, h6, ⟨d, d1, d2⟩, h7, h8⟩
  ·
   rw [h5, h3] at kk
   obtain ⟨s1, s2⟩ := r.sim.setO hi (o' := .map (ents (l ++ [(s, u, clock)])) (clock + 1)) (.map (cs.push { key := .string (bstr s), val := ac.eval v, born := clock }) (clock + 1)) (w' := setBlock w (φ i).b (.map (cs.push { key := .string (bstr s), val := ac.eval v, born := clock }) (clock + 1)))
    (qbd hlow) (by simp [setBlock]) rfl rfl rfl (ORel.ofMap (cs := cs.push { key := .string (bstr s), val := ac.eval v, born := clock }) (by rw [qbd hlow, if_pos rfl]) (by rw [Array.toList_push]; exact q2.push hvr))
   refine ⟨_, φ, _, ?_, kk, s1, s2⟩
   have hrun : (Instr.mapUpdate t (.map (some (φ i).b)) (.string (bstr s)) (ac.eval v)).run P w = .ok () (setBlock w (φ i).b (.map (cs.push { key := .string (bstr s), val := ac.eval v, born := clock }) (clock + 1))) := by
    simp [Instr.mapUpdate, td.run, qbM q1, qbs, qbz _ _ _ h1, qcd q1 (fun _ _ _ => by simp)]
   simp [execOp, e1, e2, hrun]
  ·
   rw [h4] at kk
   simp only [if_true] at kk
   have hcsj : cs[j]? = some d := by simpa using d1
   obtain ⟨s1, s2⟩ := r.sim.setO hi (o' := .map (ents (putS l s u clock)) clock) (.map (cs.modify j fun e => { e with key := .string (bstr s), val := ac.eval v }) clock) (w' := setBlock w (φ i).b (.map (cs.modify j fun e => { e with key := .string (bstr s), val := ac.eval v }) clock))
    (qbd hlow) (by simp [setBlock]) rfl rfl rfl (ORel.ofMap (cs := cs.modify j fun e => { e with key := .string (bstr s), val := ac.eval v }) (by rw [qbd hlow, if_pos rfl]) (by rw [Array.toList_modify]; exact h8 u _ clock hvr))
   refine ⟨_, φ, _, ?_, kk, s1, s2⟩
   have hkey : (Instr.keyThatStays (.string (bstr s)) (.string (bstr s))).run P w = .ok (.string (bstr s)) w := by simp [Instr.keyThatStays, Instr.sameBits, qdP]
   have hrun : (Instr.mapUpdate t (.map (some (φ i).b)) (.string (bstr s)) (ac.eval v)).run P w = .ok () (setBlock w (φ i).b (.map (cs.modify j fun e => { e with key := .string (bstr s), val := ac.eval v }) clock)) := by
    simp [Instr.mapUpdate, td.run, qbM q1, qbs, qbz _ _ _ h1, qcd q1 (fun _ _ _ => by simp), hcsj, d2, hkey]
   simp [execOp, e1, e2, hrun]
theorem qa7 {t t' : TypeId} {ps rs : Array TypeId} {vr : Bool} {x y : Operand} {fn : Fn} {f c : Array Value} [ti : TyD P t (.func ps rs vr)] (hx : ρ x = .func fn f c) (hy : ρ y = .nilFunc) (kk : K (.bool true) h) : AOp P ⟨dst, .binOp .neq t x y t', ty, pos, aft, g⟩ ρ h K :=
 .of_pure kk fun φ ac w r => by
  obtain ⟨f', c', e1, _⟩ := (hx ▸ r.ev x (by simp [Op.operands])).func_inv
  have e2 := (hy ▸ r.ev y (by simp [Op.operands])).nilFunc_inv
  have e3 : (Op.equal t (.func fn f' c') .nilFunc).run P w = .ok false w := qcO fn f' c' w 9999
  exact ⟨.bool true, by simp [execOp, e1, e2, eqGuard, binOp, e3], .bool _⟩
theorem qc9 {t : TypeId} {ps rs : Array TypeId} {vr : Bool} [ti : TyD P t (.func ps rs vr)] (w : World) (d : Nat) : (Op.equalIn (d + 1) t .nilFunc .nilFunc).run P w = .ok true w := by
 simp [Op.equalIn, ti.run]
theorem qcY {t t' : TypeId} {ps rs : Array TypeId} {vr : Bool} {x y : Operand} [ti : TyD P t (.func ps rs vr)] (hx : ρ x = .nilFunc) (hy : ρ y = .nilFunc) (kk : K (.bool false) h) : AOp P ⟨dst, .binOp .neq t x y t', ty, pos, aft, g⟩ ρ h K :=
 .of_pure kk fun φ ac w r => by
  have e1 := (hx ▸ r.ev x (by simp [Op.operands])).nilFunc_inv
  have e2 := (hy ▸ r.ev y (by simp [Op.operands])).nilFunc_inv
  have e3 : (Op.equal t .nilFunc .nilFunc).run P w = .ok true w := qc9 w 9999
  exact ⟨.bool false, by simp [execOp, e1, e2, eqGuard, binOp, e3], .bool _⟩
end
end Go.Eng
