/-
  Texts of one claim, merged: 15 parts.
-/
import Derived.Test.YtigmojilaadbhaaGreatDoorMdv
import Derived.Test.YtigmojilaadbhaaGreatDoorMdl
import Derived.Test.YtigmojilaadbhaaGreatDoorMdk
import Derived.Test.YtigmojilaadbhaaGreatDoorMdh
set_option maxHeartbeats 16000000
/- . -/
namespace Go.Proofs.YtigmojilaadbhaaGreatDoor
open Go Go.Eng Go.Pln Go.Lib
attribute [local irreducible] AWp AL DAL AOp TAL
instance i_parse : FnC Tryz.prog 26 := ⟨Tryz.f26, Tryz.func26, by kernel_rfl, by kernel_rfl⟩
instance i_StD_api_Script : StD Tryz.prog 44 [(0, 5), (5, 1)] := ⟨_, Tryz.underlying44, by kernel_rfl⟩
abbrev scrB0 : Blk := scrB nilS nilS set0
theorem Kp2.over {B i : Nat} {h H H' : Heap} (k : Kp2 B i H H') (wf : WF h) (hB : h.next ≤ B) (hi : h.next ≤ i) (x : Ext h H) : Ext h H' :=
 ⟨fun j b hj => by have := wf.lt hj; exact k.c j b (x.c j b hj) (by omega) (.inl (by omega)), fun j o hj => k.o j o (x.o j o hj)⟩
structure PaI (h : Heap) (j2 j5 : Nat) (text : Bytes) (n : Nat) (rest : Bytes) (s : ScrM) (H : Heap) : Prop where
 pi : PI text n rest s
 ext : Ext h H
 wf : WF H
 nx : h.next ≤ H.next
 n2 : h.next ≤ j2
 n5 : h.next ≤ j5
 ne : j2 ≠ j5
 g2 : H.get j2 = some scrB0
 o : ScO h.next j5 H s
 len : rest.length ≤ text.length
 lt : n + rest.length ≤ text.length
def PaOk (h : Heap) (text : Bytes) (u : Value) (h' : Heap) : Prop := ∃ B vg va, u = .tuple #[.agg (scrC vg va (parseP text).1.setup).toArray, .int .i64 (parseP text).2.1, .int .i64 (parseP text).2.2] ∧ GO B h' vg (parseP text).1.setup.groups ∧ AO B h' va (parseP text).1.acts ∧ Ext h h'
theorem qb9 {vg va : Value} (h1 : oneB vg = true) (h2 : oneB va = true) (x : SetM) : (scrC vg va x).all oneB = true := by
 unfold scrC
 simp only [List.all_cons, h1, h2]
 rfl
theorem GO.one {B : Nat} {h : Heap} {vg : Value} {gs : List (List Int)} (g : GO B h vg gs) : oneB vg = true := by
 obtain ⟨vs, h1, _⟩ := g.ex
 exact (RS.one (OS.rs h1)).1
theorem AO.one {B : Nat} {h : Heap} {va : Value} {ac : List ActM} (g : AO B h va ac) : oneB va = true := by
 obtain ⟨rows, h1, _⟩ := g.ex
 exact h1.one
theorem scr_nil : (44 : TypeId) ≠ 40 ∧ (44 : TypeId) ≠ 77 := by decide
def PaOk2 (h : Heap) (text : Bytes) (u : Value) (h' : Heap) : Prop := ∃ B vg va, u = .tuple #[.agg (scrC vg va (parseP text).1.setup).toArray, .int .i64 (parseP text).2.1, .int .i64 (parseP text).2.2] ∧ GO B h' vg (parseP text).1.setup.groups ∧ AO B h' va (parseP text).1.acts ∧ Ext h h' ∧ h.next ≤ B
theorem qif (text : Bytes) (h : Heap) (t : Tabs h) (h8 : 8 ≤ h.next) (hl : text.length ≤ 100000000) : ACalls Tryz.prog 26 [str text] h fun u h' => PaOk2 h text u h' := by
 refine ACalls.wf fun wf => ?_
 refine ACalls.body Tryz.func26 rfl rfl ?_
 repeat (first | refine W.w ?_)
 refine zz rfl (qat ?_)
 refine AL.heap (h := h.alloc scrB0) rfl ?_
 obtain ⟨H1, hQ, g2, x2, w2, n2⟩ := aq wf scrB0
 rw [hQ]
 by_cases hlong : 1048576 < text.length
 ·
  have hbad : parseP text = (scr0, 0, 3) := by unfold parseP parseW; rw [if_pos hlong]
  repeat (first | refine W.w ?_ | refine AWp.c8 rfl ?_ | refine AWp.scope ?_ | refine AL.eff rfl (qas (vs := scrC nilS nilS set0) rfl rfl rfl rfl g2 rfl ?_) | (refine zz rfl ?_; first | refine qal rfl ?_ | refine qac rfl ?_ | refine qbA rfl ?_ | refine qaj rfl rfl rfl (by omega) ?_ | refine qay (out := scrC nilS nilS set0) rfl rfl ?_))
  exact ⟨_, ResV.cell3 rfl rfl rfl (Heap.set_at _ _ _) (Nat.le_refl _), h.next, nilS, nilS, by rw [hbad]; rfl, by rw [hbad]; exact GO.nil _ _, by rw [hbad]; exact AO.nil _ _, wf.ext_set x2 (Nat.le_refl _) _, Nat.le_refl _⟩
 have hle : text.length ≤ 1048576 := by omega
 repeat (first | refine W.w ?_ | refine AWp.c9 rfl ?_ | refine AWp.scope ?_ | (refine zz rfl ?_; first | refine qal rfl ?_ | refine qac rfl ?_ | refine qbA rfl ?_ | refine qak rfl rfl rfl (by omega) ?_))
 refine zz rfl (qat ?_)
 refine AL.heap (h := H1.alloc scrB0) rfl ?_
 have g5 := Heap.alloc_new H1 scrB0
 have x5 := w2.ext scrB0
 have w5 := w2.alloc scrB0
 have n5 : (H1.alloc scrB0).next = H1.next + 1 := rfl
 have i0 : PaI h h.next H1.next text 0 text scr0 (H1.alloc scrB0) := ⟨.inl ⟨rfl, rfl, rfl⟩, x2.trans x5, w5, by omega, Nat.le_refl _, by omega, by omega, x5.c _ _ g2, ⟨nilS, nilS, g5, GO.nil _ _, AO.nil _ _⟩, Nat.le_refl _, by omega⟩
 generalize H1.alloc scrB0 = H2 at i0 ⊢
 generalize H1.next = j5 at i0 ⊢
 clear g2 x2 w2 n2 g5 x5 w5 n5
 repeat (first | refine W.w ?_ | refine AWp.label ?_ | (refine zz rfl ?_; first | refine qal rfl ?_ | refine qac rfl ?_ | refine qaa rfl ?_ | refine qah rfl ?_))
 refine AWp.loop (α := Nat × Bytes × ScrM × Heap) (fun d => [(0, str text), (2, ptr h.next), (5, ptr j5), (6, .int .i64 (d.1 : Nat)), (7, .bool true), (8, str d.2.1)]) (fun d => d.2.2.2) (fun d => PaI h h.next j5 text d.1 d.2.1 d.2.2.1 d.2.2.2) (fun d => d.2.1.length) (0, text, scr0, H2) i0
  (Weak.same (EW.cons rfl (EW.cons rfl (EW.cons rfl (EW.cons rfl (EW.cons rfl (EW.cons rfl EW.nil))))))) ?_
 rintro ⟨n, rest, s, H⟩ k
 replace k : PaI h h.next j5 text n rest s H := k
 show AWp _ _ _ _ [(0, str text), (2, ptr h.next), (5, ptr j5), (6, .int .i64 (n : Nat)), (7, .bool true), (8, str rest)] H
 clear i0
 obtain ⟨vg, va, o1, o2, o3⟩ := k.o.ex
 have tH := t.ext k.ext
 have klt := k.lt
 have knx := k.nx
 have gl := o2.len
 obtain ⟨vs, c1, c2, c3⟩ := o2.ex
 by_cases hr : rest = []
 ·
  have hp := k.pi
  rw [hr] at hp
  have hfin := hp.fin hle
  by_cases hg2 : s.setup.groups.length < 2
  ·
   have hbad : parseP text = (scr0, (n : Int), 4) := by rw [hfin, if_pos hg2]
   repeat (first | refine AL.nil ?_ | refine AWp.seq ?_ | refine AWp.r9 ?_ | refine AWp.c8 rfl ?_ | refine AWp.c9 rfl ?_ | refine AWp.ret ?_ | refine AWp.exit ?_ | refine AL.eff rfl (qas (vs := scrC nilS nilS set0) rfl rfl rfl rfl k.g2 rfl ?_) | (refine zz rfl ?_; first | refine qad rfl ?_ | refine qag rfl ?_ | refine qal rfl ?_ | refine qac rfl ?_ | refine qbJ (a := rest) (b := []) rfl rfl hr ?_ | refine qap rfl ?_ | refine qae rfl rfl o1 rfl ?_ | refine qaE c1.rs rfl ?_ | refine qaj rfl rfl rfl (by omega) ?_ | refine qai (v := .bool _) rfl rfl ?_ | refine qay (out := scrC nilS nilS set0) rfl rfl ?_ | refine qaD rfl ?_))
   exact ⟨_, ResV.cell3 rfl rfl rfl (Heap.set_at _ _ _) (Nat.le_refl _), h.next, nilS, nilS, by rw [hbad]; rfl, by rw [hbad]; exact GO.nil _ _, by rw [hbad]; exact AO.nil _ _, wf.ext_set k.ext (Nat.le_refl _) _, Nat.le_refl _⟩
  ·
   have hgood : parseP text = (s, 0, 0) := by rw [hfin, if_neg hg2]
   repeat (first | refine AL.nil ?_ | refine AWp.seq ?_ | refine AWp.r9 ?_ | refine AWp.c9 rfl ?_ | refine AWp.ret ?_ | refine AWp.exit ?_ | refine AWp.k9 ?_ | refine AL.eff rfl (qas (vs := scrC vg va s.setup) rfl rfl rfl (qb9 o2.one o3.one _) k.g2 rfl ?_) | (refine zz rfl ?_; first | refine qag rfl ?_ | refine qal rfl ?_ | refine qac rfl ?_ | refine qbJ (a := rest) (b := []) rfl rfl hr ?_ | refine qap rfl ?_ | refine qae rfl rfl o1 rfl ?_ | refine qaE c1.rs rfl ?_ | refine qak rfl rfl rfl (by omega) ?_ | refine qai (v := .bool _) rfl rfl ?_ | refine qaf (sz := 6) rfl rfl o1 (Nat.le_refl _) ?_ | refine qaD rfl ?_))
   exact ⟨_, ResV.cell3 rfl rfl rfl (Heap.set_at _ _ _) (Nat.le_refl _), h.next, vg, va, by rw [hgood]; rfl, by rw [hgood]; exact o2.set k.g2 rfl, by rw [hgood]; exact o3.set k.g2 rfl, wf.ext_set k.ext (Nat.le_refl _) _, Nat.le_refl _⟩
 ·
  have cc := cut_c rest 10 H (by omega)
  have hcn := cutN_eq rest
  unfold cutV at cc
  rw [← hcn] at cc
  have hcl : (cutN rest).1.length ≤ rest.length := by
   have key : ∀ z : Bytes, (cutN z).1.length ≤ z.length := by
    intro z
    induction z with
    | nil => exact Nat.le_refl _
    | cons c z ih =>
     rw [cutN]
     split
     ·
      exact Nat.zero_le _
     ·
      simp only [List.length_cons]; omega
   exact key rest
  by_cases hn : n = 0
  ·
   subst hn
   obtain ⟨rfl, rfl⟩ : rest = text ∧ s = scr0 := by
    rcases k.pi with ⟨_, h2, h3⟩ | ⟨x, l, h1, _⟩
    ·
     exact ⟨h2, h3⟩
    ·
     omega
   repeat (first | refine W.w ?_ | refine AWp.c8 rfl ?_ | (refine zz rfl ?_; first | refine qad rfl ?_ | refine qal rfl ?_ | refine qaz rfl ?_ | refine qaa rfl ?_ | refine qah rfl ?_ | refine qbr (a := rest) (b := []) rfl rfl hr ?_ | refine qab rfl rfl cc ?_ | refine qar rfl rfl ?_ | refine qaj rfl rfl rfl (by omega) ?_))
   refine zz rfl (qao (evs := [str (cutN rest).1]) rfl rfl ((first_c (cutN rest).1 H tH (by omega) (by omega)).wf_post.mono ?_))
   rintro _ H1 ⟨⟨rfl, x1⟩, w1, n1⟩
   have q1 := x1.c _ _ o1
   repeat (first | refine W.w ?_ | refine AL.eff rfl (qbf (vs := (setC nilS (firstP (cutN rest).1).1).toArray) rfl rfl rfl rfl q1 rfl (Nat.le_of_ble_eq_true rfl) ?_) | (refine zz rfl ?_; first | refine qag rfl ?_ | refine qaz rfl ?_ | refine qaa rfl ?_ | refine qar rfl rfl ?_ | refine qap rfl ?_))
   have hG : H1.set j5 ⟨splice (scrB vg va scr0.setup).cells 0 (setC nilS (firstP (cutN rest).1).1).toArray.toList, (scrB vg va scr0.setup).elem, true⟩ = H1.set j5 (scrB nilS va (firstP (cutN rest).1).1) := rfl
   have e2 : (H1.set j5 (scrB nilS va (firstP (cutN rest).1).1)).get h.next = some scrB0 := (Heap.set_other k.ne).trans (x1.c _ _ k.g2)
   have e5 : (H1.set j5 (scrB nilS va (firstP (cutN rest).1).1)).get j5 = some (scrB nilS va (firstP (cutN rest).1).1) := Heap.set_at _ _ _
   have ex : Ext h (H1.set j5 (scrB nilS va (firstP (cutN rest).1).1)) := wf.ext_set (k.ext.trans x1) k.n5 _
   have ew : WF (H1.set j5 (scrB nilS va (firstP (cutN rest).1).1)) := w1.set (w1.lt q1) _
   have en : h.next ≤ (H1.set j5 (scrB nilS va (firstP (cutN rest).1).1)).next := by show h.next ≤ H1.next; omega
   have eo : ScO h.next j5 (H1.set j5 (scrB nilS va (firstP (cutN rest).1).1)) ⟨(firstP (cutN rest).1).1, []⟩ := ⟨nilS, va, e5, GO.nil _ _, (o3.pres fun j b hj _ => x1.c j b hj).set q1 rfl⟩
   rw [hG]
   generalize H1.set j5 (scrB nilS va (firstP (cutN rest).1).1) = G at e2 ex ew en eo ⊢
   have hb0 := PI.bad0 hle
   cases hf : (firstP (cutN rest).1).2 <;> cases hw : (cutN rest).2.2
   case true.true =>
    have hcut := qhh hw
    repeat (first | refine W.w ?_ | refine AWp.c9 rfl ?_ | (refine zz rfl ?_; first | refine qad rfl ?_ | refine qag rfl ?_ | refine qal rfl ?_ | refine qac rfl ?_ | refine qaa rfl ?_ | refine qah rfl ?_ | refine qai (v := .bool _) rfl rfl ?_ | refine qav rfl rfl (by omega) ?_ | refine qaD rfl ?_))
    exact ⟨(1, (cutN rest).2.1, ⟨(firstP (cutN rest).1).1, []⟩, G), ⟨PI.step0 hw hf, ex, ew, en, k.n2, k.n5, k.ne, e2, eo, by show (cutN rest).2.1.length ≤ _; omega, by show 1 + (cutN rest).2.1.length ≤ _; omega⟩, hcut, Weak.same (EW.cons rfl (EW.cons rfl (EW.cons rfl (EW.cons rfl (EW.cons rfl (EW.cons rfl EW.nil))))))⟩
   all_goals (
    have hbad := hb0 (by rw [hf, hw]; simp)
    repeat (first | refine AL.nil ?_ | refine AL.skip rfl rfl ?_ | refine AWp.seq ?_ | refine AWp.r9 ?_ | refine AWp.c8 rfl ?_ | refine AWp.ret ?_ | refine AWp.exit ?_ | refine AL.eff rfl (qas (vs := scrC nilS nilS set0) rfl rfl rfl rfl e2 rfl ?_) | (refine zz rfl ?_; first | refine qad rfl ?_ | refine qag rfl ?_ | refine qac rfl ?_ | refine qaa rfl ?_ | refine qai (v := .bool _) rfl rfl ?_ | refine qay (out := scrC nilS nilS set0) rfl rfl ?_ | refine qaD rfl ?_))
    exact ⟨_, ResV.cell3 rfl rfl rfl (Heap.set_at _ _ _) (Nat.le_refl _), h.next, nilS, nilS, by rw [hbad]; rfl, by rw [hbad]; exact GO.nil _ _, by rw [hbad]; exact AO.nil _ _, wf.ext_set ex (Nat.le_refl _) _, Nat.le_refl _⟩)
  ·
   repeat (first | refine W.w ?_ | refine AWp.c8 rfl ?_ | refine AWp.c9 rfl ?_ | (refine zz rfl ?_; first | refine qad rfl ?_ | refine qal rfl ?_ | refine qaz rfl ?_ | refine qaa rfl ?_ | refine qah rfl ?_ | refine qbr (a := rest) (b := []) rfl rfl hr ?_ | refine qab rfl rfl cc ?_ | refine qar rfl rfl ?_ | refine qak rfl rfl rfl (by omega) ?_))
   refine zz rfl (qao (evs := [ptr j5, str (cutN rest).1]) rfl rfl ((lay_c h.next j5 s (cutN rest).1 H tH (by omega) (by omega) knx k.n5 k.o (k.pi.nodes hn)).wf_post.mono ?_))
   rintro _ G ⟨⟨rfl, eo, ek⟩, ew, en0⟩
   have e2 := ek.c _ _ k.g2 k.ne (.inr scr_nil)
   have ex := ek.over wf (Nat.le_refl _) k.n5 k.ext
   have en : h.next ≤ G.next := by omega
   have hb0 := PI.bad hle k.pi hn hr
   have hst := fun t hw hs => PI.step (t := t) k.pi hn hw hs
   cases hf : layP s (cutN rest).1 <;> cases hw : (cutN rest).2.2
   case some.true s' =>
    have hcut := qhh hw
    rw [hf] at eo
    repeat (first | refine W.w ?_ | refine AWp.c9 rfl ?_ | (refine zz rfl ?_; first | refine qad rfl ?_ | refine qag rfl ?_ | refine qal rfl ?_ | refine qac rfl ?_ | refine qaa rfl ?_ | refine qah rfl ?_ | refine qai (v := .bool _) rfl rfl ?_ | refine qav rfl rfl (by omega) ?_ | refine qaD rfl ?_))
    exact ⟨(n + 1, (cutN rest).2.1, s', G), ⟨hst s' hw hf, ex, ew, en, k.n2, k.n5, k.ne, e2, eo, by show (cutN rest).2.1.length ≤ _; have := k.len; omega, by show n + 1 + (cutN rest).2.1.length ≤ _; omega⟩, hcut, Weak.same (EW.cons rfl (EW.cons rfl (EW.cons rfl (EW.cons rfl (EW.cons rfl (EW.cons rfl EW.nil))))))⟩
   all_goals (
    have hbad := hb0 (by rw [hf, hw]; simp)
    repeat (first | refine AL.nil ?_ | refine AL.skip rfl rfl ?_ | refine AWp.seq ?_ | refine AWp.r9 ?_ | refine AWp.c8 rfl ?_ | refine AWp.ret ?_ | refine AWp.exit ?_ | refine AL.eff rfl (qas (vs := scrC nilS nilS set0) rfl rfl rfl rfl e2 rfl ?_) | (refine zz rfl ?_; first | refine qad rfl ?_ | refine qag rfl ?_ | refine qac rfl ?_ | refine qaa rfl ?_ | refine qai (v := .bool _) rfl rfl ?_ | refine qay (out := scrC nilS nilS set0) rfl rfl ?_ | refine qaD rfl ?_))
    exact ⟨_, ResV.cell3 rfl rfl rfl (Heap.set_at _ _ _) (Nat.le_refl _), h.next, nilS, nilS, by rw [hbad]; rfl, by rw [hbad]; exact GO.nil _ _, by rw [hbad]; exact AO.nil _ _, wf.ext_set ex (Nat.le_refl _) _, Nat.le_refl _⟩)
theorem qem (text : Bytes) (h : Heap) (t : Tabs h) (h8 : 8 ≤ h.next) (hl : text.length ≤ 100000000) : ACalls Tryz.prog 26 [str text] h fun u h' => PaOk h text u h' :=
 (qif text h t h8 hl).mono fun _ _ ⟨B, vg, va, h1, h2, h3, h4, _⟩ => ⟨B, vg, va, h1, h2, h3, h4⟩
end Go.Proofs.YtigmojilaadbhaaGreatDoor
/- . -/
namespace Go.Proofs.YtigmojilaadbhaaGreatDoor
open Go Go.Eng Go.Pln Go.Lib
attribute [local irreducible] AWp AL DAL AOp
instance i_sameAskR : FnC Tryz.prog 53 := ⟨Tryz.f53, Tryz.func53, by kernel_rfl, by kernel_rfl⟩
theorem qe5 (p q : AskV) (a b : AskM) (h : Heap) (ra : AskR h p a) (rb : AskR h q b) : ACalls Tryz.prog 53 [.agg (askC p a).toArray, .agg (askC q b).toArray] h fun u h' => u = .bool (decide (a = b)) ∧ h' = h := by
 refine ACalls.wf fun wf => ACalls.reset ?_
 refine ACalls.body Tryz.func53 rfl rfl ?_
 repeat (first | refine W.w ?_ | refine zz rfl (qaa rfl ?_) | refine zz rfl (qaI rfl (by intro e; cases e) ?_))
 generalize hH : h.alloc _ = H1
 have hg0 : H1.get h.next = some ⟨askC p a, 29, true⟩ := hH ▸ Heap.alloc_new _ _
 have hx1 : Ext h H1 := hH ▸ wf.ext _
 have wf1 : WF H1 := hH ▸ wf.alloc _
 have ra1 := ra.ext hx1
 skip
 generalize hH2 : H1.alloc _ = H
 have hg2 : H.get H1.next = some ⟨askC q b, 29, true⟩ := hH2 ▸ Heap.alloc_new _ _
 have hx2 : Ext H1 H := hH2 ▸ wf1.ext _
 have hg1 : H.get h.next = some ⟨askC p a, 29, true⟩ := hx2.c _ _ hg0
 have hx : Ext h H := ⟨fun i o e => hx2.c i o (hx1.c i o e), fun i o e => hx2.o i o (hx1.o i o e)⟩
 have ra2 := ra.ext hx
 have rb2 := rb.ext hx
 by_cases c_kind : a.kind = b.kind
 ·
  by_cases c_key : a.key = b.key
  ·
   by_cases c_to : a.to = b.to
   ·
    by_cases c_value : a.value = b.value
    ·
     by_cases c_was : a.was = b.was
     ·
      by_cases c_none : a.none = b.none
      ·
       by_cases c_most : a.most = b.most
       ·
        repeat (first | refine W.w ?_ | (refine zz rfl ?_; first | refine qag rfl ?_ | refine qaa rfl ?_ | refine qap rfl ?_ | refine qae rfl rfl hg1 rfl ?_ | refine qae rfl rfl hg2 rfl ?_ | refine qam ra2.k rfl ?_ | refine qam rb2.k rfl ?_ | refine qam ra2.t rfl ?_ | refine qam rb2.t rfl ?_ | refine qam ra2.v rfl ?_ | refine qam rb2.v rfl ?_ | refine qam ra2.w rfl ?_ | refine qam rb2.w rfl ?_ | refine qaj rfl rfl rfl c_kind ?_ | refine qaV rfl rfl c_key ?_ | refine qaV rfl rfl c_to ?_ | refine qaV rfl rfl c_value ?_ | refine qaV rfl rfl c_was ?_ | refine qby rfl rfl c_none ?_ | refine qaj rfl rfl rfl c_most ?_ | refine qai (v := .bool _) rfl rfl ?_))
        exact ⟨_, ResV.tmp rfl, rfl, hx, by rw [decide_eq_true (ask_ext c_kind c_key c_to c_value c_was c_none c_most)]; rfl, rfl⟩
       ·
        repeat (first | refine W.w ?_ | (refine zz rfl ?_; first | refine qag rfl ?_ | refine qaa rfl ?_ | refine qap rfl ?_ | refine qae rfl rfl hg1 rfl ?_ | refine qae rfl rfl hg2 rfl ?_ | refine qam ra2.k rfl ?_ | refine qam rb2.k rfl ?_ | refine qam ra2.t rfl ?_ | refine qam rb2.t rfl ?_ | refine qam ra2.v rfl ?_ | refine qam rb2.v rfl ?_ | refine qam ra2.w rfl ?_ | refine qam rb2.w rfl ?_ | refine qaj rfl rfl rfl c_kind ?_ | refine qaV rfl rfl c_key ?_ | refine qaV rfl rfl c_to ?_ | refine qaV rfl rfl c_value ?_ | refine qaV rfl rfl c_was ?_ | refine qby rfl rfl c_none ?_ | refine qak rfl rfl rfl c_most ?_ | refine qai (v := .bool _) rfl rfl ?_))
        exact ⟨_, ResV.tmp rfl, rfl, hx, by rw [decide_eq_false fun e => c_most (congrArg AskM.most e)]; rfl, rfl⟩
      ·
       repeat (first | refine W.w ?_ | refine AL.skip rfl rfl ?_ | (refine zz rfl ?_; first | refine qag rfl ?_ | refine qaa rfl ?_ | refine qap rfl ?_ | refine qae rfl rfl hg1 rfl ?_ | refine qae rfl rfl hg2 rfl ?_ | refine qam ra2.k rfl ?_ | refine qam rb2.k rfl ?_ | refine qam ra2.t rfl ?_ | refine qam rb2.t rfl ?_ | refine qam ra2.v rfl ?_ | refine qam rb2.v rfl ?_ | refine qam ra2.w rfl ?_ | refine qam rb2.w rfl ?_ | refine qaj rfl rfl rfl c_kind ?_ | refine qaV rfl rfl c_key ?_ | refine qaV rfl rfl c_to ?_ | refine qaV rfl rfl c_value ?_ | refine qaV rfl rfl c_was ?_ | refine qeX rfl rfl c_none ?_ | refine qai (v := .bool _) rfl rfl ?_))
       exact ⟨_, ResV.tmp rfl, rfl, hx, by rw [decide_eq_false fun e => c_none (congrArg AskM.none e)]; rfl, rfl⟩
     ·
      repeat (first | refine W.w ?_ | refine AL.skip rfl rfl ?_ | (refine zz rfl ?_; first | refine qag rfl ?_ | refine qaa rfl ?_ | refine qap rfl ?_ | refine qae rfl rfl hg1 rfl ?_ | refine qae rfl rfl hg2 rfl ?_ | refine qam ra2.k rfl ?_ | refine qam rb2.k rfl ?_ | refine qam ra2.t rfl ?_ | refine qam rb2.t rfl ?_ | refine qam ra2.v rfl ?_ | refine qam rb2.v rfl ?_ | refine qam ra2.w rfl ?_ | refine qam rb2.w rfl ?_ | refine qaj rfl rfl rfl c_kind ?_ | refine qaV rfl rfl c_key ?_ | refine qaV rfl rfl c_to ?_ | refine qaV rfl rfl c_value ?_ | refine qbX rfl rfl c_was ?_ | refine qai (v := .bool _) rfl rfl ?_))
      exact ⟨_, ResV.tmp rfl, rfl, hx, by rw [decide_eq_false fun e => c_was (congrArg AskM.was e)]; rfl, rfl⟩
    ·
     repeat (first | refine W.w ?_ | refine AL.skip rfl rfl ?_ | (refine zz rfl ?_; first | refine qag rfl ?_ | refine qaa rfl ?_ | refine qap rfl ?_ | refine qae rfl rfl hg1 rfl ?_ | refine qae rfl rfl hg2 rfl ?_ | refine qam ra2.k rfl ?_ | refine qam rb2.k rfl ?_ | refine qam ra2.t rfl ?_ | refine qam rb2.t rfl ?_ | refine qam ra2.v rfl ?_ | refine qam rb2.v rfl ?_ | refine qaj rfl rfl rfl c_kind ?_ | refine qaV rfl rfl c_key ?_ | refine qaV rfl rfl c_to ?_ | refine qbX rfl rfl c_value ?_ | refine qai (v := .bool _) rfl rfl ?_))
     exact ⟨_, ResV.tmp rfl, rfl, hx, by rw [decide_eq_false fun e => c_value (congrArg AskM.value e)]; rfl, rfl⟩
   ·
    repeat (first | refine W.w ?_ | refine AL.skip rfl rfl ?_ | (refine zz rfl ?_; first | refine qag rfl ?_ | refine qaa rfl ?_ | refine qap rfl ?_ | refine qae rfl rfl hg1 rfl ?_ | refine qae rfl rfl hg2 rfl ?_ | refine qam ra2.k rfl ?_ | refine qam rb2.k rfl ?_ | refine qam ra2.t rfl ?_ | refine qam rb2.t rfl ?_ | refine qaj rfl rfl rfl c_kind ?_ | refine qaV rfl rfl c_key ?_ | refine qbX rfl rfl c_to ?_ | refine qai (v := .bool _) rfl rfl ?_))
    exact ⟨_, ResV.tmp rfl, rfl, hx, by rw [decide_eq_false fun e => c_to (congrArg AskM.to e)]; rfl, rfl⟩
  ·
   repeat (first | refine W.w ?_ | refine AL.skip rfl rfl ?_ | (refine zz rfl ?_; first | refine qag rfl ?_ | refine qaa rfl ?_ | refine qap rfl ?_ | refine qae rfl rfl hg1 rfl ?_ | refine qae rfl rfl hg2 rfl ?_ | refine qam ra2.k rfl ?_ | refine qam rb2.k rfl ?_ | refine qaj rfl rfl rfl c_kind ?_ | refine qbX rfl rfl c_key ?_ | refine qai (v := .bool _) rfl rfl ?_))
   exact ⟨_, ResV.tmp rfl, rfl, hx, by rw [decide_eq_false fun e => c_key (congrArg AskM.key e)]; rfl, rfl⟩
 ·
  repeat (first | refine W.w ?_ | refine AL.skip rfl rfl ?_ | (refine zz rfl ?_; first | refine qag rfl ?_ | refine qaa rfl ?_ | refine qap rfl ?_ | refine qae rfl rfl hg1 rfl ?_ | refine qae rfl rfl hg2 rfl ?_ | refine qak rfl rfl rfl c_kind ?_ | refine qai (v := .bool _) rfl rfl ?_))
  exact ⟨_, ResV.tmp rfl, rfl, hx, by rw [decide_eq_false fun e => c_kind (congrArg AskM.kind e)]; rfl, rfl⟩
instance i_sameMoveR : FnC Tryz.prog 103 := ⟨Tryz.f103, Tryz.func103, by kernel_rfl, by kernel_rfl⟩
instance i_sameEntR : FnC Tryz.prog 140 := ⟨Tryz.f140, Tryz.func140, by kernel_rfl, by kernel_rfl⟩
theorem qhn (p q : MoveV) (a b : MoveM) (h : Heap) (ra : MoveR h p a) (rb : MoveR h q b) : ACalls Tryz.prog 103 [.agg (moveC p a).toArray, .agg (moveC q b).toArray] h fun u h' => u = .bool (decide (a = b)) ∧ h' = h := by
 refine ACalls.wf fun wf => ACalls.reset ?_
 refine ACalls.body Tryz.func103 rfl rfl ?_
 repeat (first | refine W.w ?_ | refine zz rfl (qaa rfl ?_) | refine zz rfl (qaI rfl (by intro e; cases e) ?_))
 generalize hH : h.alloc _ = H1
 have hg0 : H1.get h.next = some ⟨moveC p a, 34, true⟩ := hH ▸ Heap.alloc_new _ _
 have hx1 : Ext h H1 := hH ▸ wf.ext _
 have wf1 : WF H1 := hH ▸ wf.alloc _
 skip
 generalize hH2 : H1.alloc _ = H
 have hg2 : H.get H1.next = some ⟨moveC q b, 34, true⟩ := hH2 ▸ Heap.alloc_new _ _
 have hx2 : Ext H1 H := hH2 ▸ wf1.ext _
 have hg1 : H.get h.next = some ⟨moveC p a, 34, true⟩ := hx2.c _ _ hg0
 have hx : Ext h H := hx1.trans hx2
 clear hH hH2
 obtain ⟨a1, a2⟩ := ra.ext hx
 obtain ⟨b1, b2⟩ := rb.ext hx
 repeat' (first | refine W.w ?_ | refine AL.skip rfl rfl ?_ | (refine zz rfl ?_; first | refine qag rfl ?_ | refine qaa rfl ?_ | refine qap rfl ?_ | refine qae rfl rfl hg1 rfl ?_ | refine qae rfl rfl hg2 rfl ?_ | refine qam a1 rfl ?_ | refine qam a2 rfl ?_ | refine qam b1 rfl ?_ | refine qam b2 rfl ?_ | refine qhw rfl rfl (fun c => ?_) (fun c => ?_) | refine qe6 rfl rfl (fun c => ?_) (fun c => ?_) | refine qaU rfl rfl rfl (fun c => ?_) (fun c => ?_) | refine qai (v := .bool _) rfl rfl ?_))
 all_goals refine ⟨_, ResV.tmp rfl, rfl, hx, congrArg Value.bool ?_, rfl⟩
 all_goals grind [qhX]
theorem sameEntR_c (k1 v1 k2 v2 : Value) (a b : EntM) (h : Heap) (ra1 : RB h k1 a.key) (ra2 : RB h v1 a.value) (rb1 : RB h k2 b.key) (rb2 : RB h v2 b.value) : ACalls Tryz.prog 140 [.agg (entC k1 v1 a).toArray, .agg (entC k2 v2 b).toArray] h fun u h' => u = .bool (decide (a = b)) ∧ h' = h := by
 refine ACalls.wf fun wf => ACalls.reset ?_
 refine ACalls.body Tryz.func140 rfl rfl ?_
 repeat (first | refine W.w ?_ | refine zz rfl (qaa rfl ?_) | refine zz rfl (qaI rfl (by intro e; cases e) ?_))
 generalize hH : h.alloc _ = H1
 have hg0 : H1.get h.next = some ⟨entC k1 v1 a, 171, true⟩ := hH ▸ Heap.alloc_new _ _
 have hx1 : Ext h H1 := hH ▸ wf.ext _
 have wf1 : WF H1 := hH ▸ wf.alloc _
 skip
 generalize hH2 : H1.alloc _ = H
 have hg2 : H.get H1.next = some ⟨entC k2 v2 b, 171, true⟩ := hH2 ▸ Heap.alloc_new _ _
 have hx2 : Ext H1 H := hH2 ▸ wf1.ext _
 have hg1 : H.get h.next = some ⟨entC k1 v1 a, 171, true⟩ := hx2.c _ _ hg0
 have hx : Ext h H := hx1.trans hx2
 clear hH hH2
 have a1 := ra1.ext hx
 have a2 := ra2.ext hx
 have b1 := rb1.ext hx
 have b2 := rb2.ext hx
 repeat' (first | refine W.w ?_ | refine AL.skip rfl rfl ?_ | (refine zz rfl ?_; first | refine qag rfl ?_ | refine qaa rfl ?_ | refine qap rfl ?_ | refine qae rfl rfl hg1 rfl ?_ | refine qae rfl rfl hg2 rfl ?_ | refine qam a1 rfl ?_ | refine qam a2 rfl ?_ | refine qam b1 rfl ?_ | refine qam b2 rfl ?_ | refine qhw rfl rfl (fun c => ?_) (fun c => ?_) | refine qaU rfl rfl rfl (fun c => ?_) (fun c => ?_) | refine qai (v := .bool _) rfl rfl ?_))
 all_goals refine ⟨_, ResV.tmp rfl, rfl, hx, congrArg Value.bool ?_, rfl⟩
 all_goals grind [ent_ext]
instance i_sameListR : FnC Tryz.prog 104 := ⟨Tryz.f104, Tryz.func104, by kernel_rfl, by kernel_rfl⟩
theorem qhu (u v : Value) (a b : List EntM) (h : Heap) (ra : RE h u a) (rb : RE h v b) : ACalls Tryz.prog 104 [u, v] h fun x h' => x = .bool (decide (a = b)) ∧ h' = h := by
 refine ACalls.body Tryz.func104 rfl rfl ?_
 obtain ⟨ro, r1, r2, r3⟩ := ra.ex
 obtain ⟨so, s1, s2, s3⟩ := rb.ex
 obtain ⟨ua, uc, hu⟩ := r1.slice
 obtain ⟨va, vc, hv⟩ := s1.slice
 have hlen := ra.len
 by_cases hl : a.length = b.length
 ·
  repeat (first | refine W.w ?_ | refine AWp.c9 rfl ?_ | (refine zz rfl ?_; first | refine qac rfl ?_ | refine qaa rfl ?_ | refine qan (v := u) rfl ?_ | refine qan (v := v) rfl ?_ | refine qau r1 rfl ?_ | refine qau s1 rfl ?_ | refine qak rfl rfl rfl (by omega) ?_))
  refine AWp.loop (α := Nat) (fun k => [(0, u), (1, v), (5, .int .i64 (k : Nat))]) (fun _ => h) (fun k => k ≤ a.length ∧ a.take k = b.take k) (fun k => a.length - k) 0 ⟨Nat.zero_le _, rfl⟩ (Weak.same (EW.cons rfl (EW.cons rfl (EW.cons rfl EW.nil)))) ?_
  rintro k ⟨hk, hp⟩
  by_cases hlt : k < a.length
  ·
   obtain ⟨x, hxa⟩ : ∃ x, a[k]? = some x := ⟨_, List.getElem?_eq_getElem hlt⟩
   obtain ⟨y, hyb⟩ : ∃ y, b[k]? = some y := ⟨_, List.getElem?_eq_getElem (by omega)⟩
   obtain ⟨p, hpa⟩ : ∃ p, ro[k]? = some p := ⟨_, List.getElem?_eq_getElem (by omega)⟩
   obtain ⟨q, hqb⟩ : ∃ q, so[k]? = some q := ⟨_, List.getElem?_eq_getElem (by omega)⟩
   obtain ⟨k1, v1, rfl, a1, a2⟩ := r3 k p x hpa hxa
   obtain ⟨k2, v2, rfl, b1, b2⟩ := s3 k q y hqb hyb
   have hte := qcL hp hxa hyb
   have hx2 : ro[((k : Nat) : Int).toNat]? = some (entC k1 v1 x) := hpa
   have hy2 : so[((k : Nat) : Int).toNat]? = some (entC k2 v2 y) := hqb
   have px := r1.elt hx2
   have py := s1.elt hy2
   have cb := fun (h' : Heap) (hx : Ext h h') => sameEntR_c k1 v1 k2 v2 x y h' (a1.ext hx) (a2.ext hx) (b1.ext hx) (b2.ext hx)
   by_cases hxy : x = y
   ·
    rw [decide_eq_true hxy] at cb
    repeat (first | refine W.w ?_ | refine AWp.c8 rfl ?_ | (refine zz rfl ?_; first | refine qad rfl ?_ | refine qan (v := u) rfl ?_ | refine qau r1 rfl ?_ | refine qaj rfl rfl rfl (by omega) ?_))
    refine AWp.draw (σ := [(0, .R), (1, .R), (2, .R), (3, .R), (4, .R), (5, .R), (6, .R), (7, .R), (8, .R), (9, .R)]) mixed (by kernel_rfl) ?_
    repeat (first | refine DAL.r rfl rfl rfl (fun h' hx hn => qad rfl ⟨rfl, rfl⟩) ?_ | refine DAL.r rfl rfl rfl (fun h' hx hn => qan (v := u) rfl ⟨rfl, rfl⟩) ?_ | refine DAL.r rfl rfl rfl (fun h' hx hn => qan (v := v) rfl ⟨rfl, rfl⟩) ?_ | refine DAL.r rfl rfl rfl (fun h' hx hn => qaF (r1.ext hx) rfl rfl (by omega) hx2 ⟨rfl, rfl⟩) ?_ | refine DAL.r rfl rfl rfl (fun h' hx hn => qaF (s1.ext hx) rfl rfl (by omega) hy2 ⟨rfl, rfl⟩) ?_ | refine DAL.r rfl rfl rfl (fun h' hx hn => qaJ (px.ext hx) rfl rfl rfl ⟨rfl, rfl⟩) ?_ | refine DAL.r rfl rfl rfl (fun h' hx hn => qaJ (py.ext hx) rfl rfl rfl ⟨rfl, rfl⟩) ?_ | refine DAL.r rfl rfl rfl (fun h' hx hn => qab rfl rfl (cb h' hx) ⟨rfl, rfl⟩) ?_ | refine DAL.r rfl rfl rfl (fun h' hx hn => qaD rfl ⟨rfl, rfl⟩) ?_)
    refine DAL.nil ?_
    repeat (first | refine W.w ?_ | refine AWp.c9 rfl ?_ | (refine zz rfl ?_; first | refine qad rfl ?_ | refine qac rfl ?_ | refine qav rfl rfl (by omega) ?_))
    exact ⟨k + 1, ⟨hlt, hte.2 hxy⟩, by omega, Weak.same (EW.cons rfl (EW.cons rfl (EW.cons rfl EW.nil)))⟩
   ·
    rw [decide_eq_false hxy] at cb
    repeat (first | refine W.w ?_ | refine AWp.c8 rfl ?_ | (refine zz rfl ?_; first | refine qad rfl ?_ | refine qan (v := u) rfl ?_ | refine qau r1 rfl ?_ | refine qaj rfl rfl rfl (by omega) ?_))
    refine AWp.draw (σ := [(0, .R), (1, .R), (2, .R), (3, .R), (4, .R), (5, .R), (6, .R), (7, .R), (8, .R), (9, .R)]) mixed (by kernel_rfl) ?_
    repeat (first | refine DAL.r rfl rfl rfl (fun h' hx hn => qad rfl ⟨rfl, rfl⟩) ?_ | refine DAL.r rfl rfl rfl (fun h' hx hn => qan (v := u) rfl ⟨rfl, rfl⟩) ?_ | refine DAL.r rfl rfl rfl (fun h' hx hn => qan (v := v) rfl ⟨rfl, rfl⟩) ?_ | refine DAL.r rfl rfl rfl (fun h' hx hn => qaF (r1.ext hx) rfl rfl (by omega) hx2 ⟨rfl, rfl⟩) ?_ | refine DAL.r rfl rfl rfl (fun h' hx hn => qaF (s1.ext hx) rfl rfl (by omega) hy2 ⟨rfl, rfl⟩) ?_ | refine DAL.r rfl rfl rfl (fun h' hx hn => qaJ (px.ext hx) rfl rfl rfl ⟨rfl, rfl⟩) ?_ | refine DAL.r rfl rfl rfl (fun h' hx hn => qaJ (py.ext hx) rfl rfl rfl ⟨rfl, rfl⟩) ?_ | refine DAL.r rfl rfl rfl (fun h' hx hn => qab rfl rfl (cb h' hx) ⟨rfl, rfl⟩) ?_ | refine DAL.r rfl rfl rfl (fun h' hx hn => qaD rfl ⟨rfl, rfl⟩) ?_)
    refine DAL.nil ?_
    repeat (first | refine W.w ?_ | refine AWp.c8 rfl ?_ | refine zz rfl (qaa rfl ?_))
    refine ⟨_, ResV.tmp rfl, congrArg Value.bool (decide_eq_false fun e => hxy (hte.1 (by rw [e]))).symm, rfl⟩
  ·
   obtain rfl : k = a.length := by omega
   rw [List.take_length, hl, List.take_length] at hp
   repeat (first | refine AL.nil ?_ | refine AWp.seq ?_ | refine AWp.r9 ?_ | refine AWp.c9 rfl ?_ | refine AWp.ret ?_ | refine AWp.exit ?_ | (refine zz rfl ?_; first | refine qad rfl ?_ | refine qaa rfl ?_ | refine qan (v := u) rfl ?_ | refine qau r1 rfl ?_ | refine qak rfl rfl rfl (by omega) ?_))
   exact ⟨_, ResV.tmp rfl, congrArg Value.bool (decide_eq_true hp).symm, rfl⟩
 ·
  repeat (first | refine W.w ?_ | refine AWp.c8 rfl ?_ | (refine zz rfl ?_; first | refine qaa rfl ?_ | refine qan (v := u) rfl ?_ | refine qan (v := v) rfl ?_ | refine qau r1 rfl ?_ | refine qau s1 rfl ?_ | refine qaj rfl rfl rfl (by omega) ?_))
  exact ⟨_, ResV.tmp rfl, congrArg Value.bool (decide_eq_false fun e => hl (by rw [e])).symm, rfl⟩
instance i_sameCmdR : FnC Tryz.prog 54 := ⟨Tryz.f54, Tryz.func54, by kernel_rfl, by kernel_rfl⟩
theorem sameCmdR_c (p q : CmdV) (a b : CmdM) (h : Heap) (ra : CmdR h p a) (rb : CmdR h q b) : ACalls Tryz.prog 54 [.agg (cmdC p a).toArray, .agg (cmdC q b).toArray] h fun u h' => u = .bool (decide (a = b)) ∧ h' = h := by
 refine ACalls.wf fun wf => ACalls.reset ?_
 refine ACalls.body Tryz.func54 rfl rfl ?_
 repeat (first | refine W.w ?_ | refine zz rfl (qaa rfl ?_) | refine zz rfl (qaI rfl (by intro e; cases e) ?_))
 generalize hH : h.alloc _ = H1
 have hg0 : H1.get h.next = some ⟨cmdC p a, 37, true⟩ := hH ▸ Heap.alloc_new _ _
 have hx1 : Ext h H1 := hH ▸ wf.ext _
 have wf1 : WF H1 := hH ▸ wf.alloc _
 skip
 generalize hH2 : H1.alloc _ = H
 have hg2 : H.get H1.next = some ⟨cmdC q b, 37, true⟩ := hH2 ▸ Heap.alloc_new _ _
 have hx2 : Ext H1 H := hH2 ▸ wf1.ext _
 have hg1 : H.get h.next = some ⟨cmdC p a, 37, true⟩ := hx2.c _ _ hg0
 have hx : Ext h H := hx1.trans hx2
 clear hH hH2
 obtain ⟨a1, a2, a3, a4, a5⟩ := ra.ext hx
 obtain ⟨b1, b2, b3, b4, b5⟩ := rb.ext hx
 have cA := qe5 p.r q.r a.req.ask b.req.ask H a1 b1
 have cM := qhn p.m q.m a.move b.move H a2 b2
 have cE := qhu p.e q.e a.entries b.entries H a3 b3
 repeat' (first | refine W.w ?_ | refine AL.skip rfl rfl ?_ | (refine zz rfl ?_; first | refine qag rfl ?_ | refine qaa rfl ?_ | refine qap rfl ?_ | refine qae rfl rfl hg1 rfl ?_ | refine qae rfl rfl hg2 rfl ?_ | refine qaf (sz := 7) rfl rfl hg1 (Nat.le_of_ble_eq_true rfl) ?_ | refine qaf (sz := 7) rfl rfl hg2 (Nat.le_of_ble_eq_true rfl) ?_ | refine qaf (sz := 6) rfl rfl hg1 (Nat.le_of_ble_eq_true rfl) ?_ | refine qaf (sz := 6) rfl rfl hg2 (Nat.le_of_ble_eq_true rfl) ?_ | refine qaM rfl rfl cA (fun c => ?_) (fun c => ?_) | refine qaM rfl rfl cM (fun c => ?_) (fun c => ?_) | refine qaM rfl rfl cE (fun c => ?_) (fun c => ?_) | refine qam a4 rfl ?_ | refine qam a5 rfl ?_ | refine qam b4 rfl ?_ | refine qam b5 rfl ?_ | refine qhw rfl rfl (fun c => ?_) (fun c => ?_) | refine qaU rfl rfl rfl (fun c => ?_) (fun c => ?_) | refine qai (v := .bool _) rfl rfl ?_))
 all_goals refine ⟨_, ResV.tmp rfl, rfl, hx, congrArg Value.bool ?_, rfl⟩
 all_goals clear a1 a2 a3 a4 a5 b1 b2 b3 b4 b5 cA cM cE hg0 hg1 hg2 hx1 hx2 hx wf wf1 ra rb
 all_goals grind [cmd_ext]
instance i_sameActR : FnC Tryz.prog 23 := ⟨Tryz.f23, Tryz.func23, by kernel_rfl, by kernel_rfl⟩
theorem qeV (p q : ActV) (a b : ActM) (h : Heap) (ra : ActR h p a) (rb : ActR h q b) : ACalls Tryz.prog 23 [.agg (actC p a).toArray, .agg (actC q b).toArray] h fun u h' => u = .bool (decide (a = b)) ∧ h' = h := by
 refine ACalls.wf fun wf => ACalls.reset ?_
 refine ACalls.body Tryz.func23 rfl rfl ?_
 repeat (first | refine W.w ?_ | refine zz rfl (qaa rfl ?_) | refine zz rfl (qaI rfl (by intro e; cases e) ?_))
 generalize hH : h.alloc _ = H1
 have hg0 : H1.get h.next = some ⟨actC p a, 40, true⟩ := hH ▸ Heap.alloc_new _ _
 have hx1 : Ext h H1 := hH ▸ wf.ext _
 have wf1 : WF H1 := hH ▸ wf.alloc _
 skip
 generalize hH2 : H1.alloc _ = H
 have hg2 : H.get H1.next = some ⟨actC q b, 40, true⟩ := hH2 ▸ Heap.alloc_new _ _
 have hx2 : Ext H1 H := hH2 ▸ wf1.ext _
 have hg1 : H.get h.next = some ⟨actC p a, 40, true⟩ := hx2.c _ _ hg0
 have hx : Ext h H := hx1.trans hx2
 clear hH hH2
 obtain ⟨a1, a2, a3⟩ := ra.ext hx
 obtain ⟨b1, b2, b3⟩ := rb.ext hx
 have cA := qe5 p.q q.q a.ask b.ask H a1 b1
 have cM := sameCmdR_c p.c q.c a.cmd b.cmd H a2 b2
 have r1 := a3.rn
 have s1 := b3.rn
 obtain ⟨ua, uc, hu⟩ := r1.slice
 obtain ⟨va, vc, hv⟩ := s1.slice
 have l1 : (a.keep.map keptR).length = a.keep.length := List.length_map _
 have l2 : (b.keep.map keptR).length = b.keep.length := List.length_map _
 have hlen := a3.len
 by_cases hall : a.kind = b.kind ∧ a.node = b.node ∧ a.group = b.group ∧ a.client = b.client ∧ a.n = b.n ∧ a.ask = b.ask ∧ a.cmd = b.cmd ∧ a.keep.length = b.keep.length
 ·
  obtain ⟨e1, e2, e3, e4, e5, e6, e7, e8⟩ := hall
  rw [decide_eq_true e6] at cA
  rw [decide_eq_true e7] at cM
  repeat (first | refine W.w ?_ | refine AWp.c9 rfl ?_ | (refine zz rfl ?_; first | refine qag rfl ?_ | refine qac rfl ?_ | refine qap rfl ?_ | refine qae rfl rfl hg1 rfl ?_ | refine qae rfl rfl hg2 rfl ?_ | refine qaf (sz := 7) rfl rfl hg1 (Nat.le_of_ble_eq_true rfl) ?_ | refine qaf (sz := 7) rfl rfl hg2 (Nat.le_of_ble_eq_true rfl) ?_ | refine qaf (sz := 20) rfl rfl hg1 (Nat.le_of_ble_eq_true rfl) ?_ | refine qaf (sz := 20) rfl rfl hg2 (Nat.le_of_ble_eq_true rfl) ?_ | refine qau r1 rfl ?_ | refine qau s1 rfl ?_ | refine qak rfl rfl rfl (by omega) ?_ | refine qai (v := .bool _) rfl rfl ?_ | refine qab rfl rfl cA ?_ | refine qab rfl rfl cM ?_ | refine qaD rfl ?_))
  refine AWp.loop (α := Nat) (fun k => [(2, ptr h.next), (3, ptr H1.next), (5, .int .i64 (k : Nat))]) (fun _ => H) (fun k => k ≤ a.keep.length ∧ a.keep.take k = b.keep.take k) (fun k => a.keep.length - k) 0 ⟨Nat.zero_le _, rfl⟩ (Weak.same (EW.cons rfl (EW.cons rfl (EW.cons rfl EW.nil)))) ?_
  rintro k ⟨hk, hp⟩
  by_cases hlt : k < a.keep.length
  ·
   obtain ⟨x, hxa⟩ : ∃ x, a.keep[k]? = some x := ⟨_, List.getElem?_eq_getElem hlt⟩
   obtain ⟨y, hyb⟩ : ∃ y, b.keep[k]? = some y := ⟨_, List.getElem?_eq_getElem (by omega)⟩
   have hx2 : (a.keep.map keptR)[((k : Nat) : Int).toNat]? = some (keptR x) := by simp [hxa]
   have hy2 : (b.keep.map keptR)[((k : Nat) : Int).toNat]? = some (keptR y) := by simp [hyb]
   have px := r1.elt hx2
   have py := s1.elt hy2
   have hte := qcL hp hxa hyb
   have heq := qgN x y
   by_cases hxy : x = y
   ·
    rw [decide_eq_true hxy] at heq
    repeat (first | refine W.w ?_ | refine AWp.c8 rfl ?_ | (refine zz rfl ?_; first | refine qad rfl ?_ | refine qap rfl ?_ | refine qae rfl rfl hg1 rfl ?_ | refine qau r1 rfl ?_ | refine qaj rfl rfl rfl (by omega) ?_))
    refine AWp.draw (σ := [(0, .R), (1, .R), (2, .R), (3, .R), (4, .R), (5, .R), (6, .R), (7, .R), (8, .R), (9, .R), (10, .R)]) mixed (by kernel_rfl) ?_
    repeat (first | refine DAL.r rfl rfl rfl (fun h' hx hn => qad rfl ⟨rfl, rfl⟩) ?_ | refine DAL.r rfl rfl rfl (fun h' hx hn => qap rfl ⟨rfl, rfl⟩) ?_ | refine DAL.r rfl rfl rfl (fun h' hx hn => qae rfl rfl (hx.c _ _ hg1) rfl ⟨rfl, rfl⟩) ?_ | refine DAL.r rfl rfl rfl (fun h' hx hn => qae rfl rfl (hx.c _ _ hg2) rfl ⟨rfl, rfl⟩) ?_ | refine DAL.r rfl rfl rfl (fun h' hx hn => qaF (r1.ext hx) rfl rfl (by omega) hx2 ⟨rfl, rfl⟩) ?_ | refine DAL.r rfl rfl rfl (fun h' hx hn => qaF (s1.ext hx) rfl rfl (by omega) hy2 ⟨rfl, rfl⟩) ?_ | refine DAL.r rfl rfl rfl (fun h' hx hn => qaJ (px.ext hx) rfl rfl rfl ⟨rfl, rfl⟩) ?_ | refine DAL.r rfl rfl rfl (fun h' hx hn => qaJ (py.ext hx) rfl rfl rfl ⟨rfl, rfl⟩) ?_ | refine DAL.r rfl rfl rfl (fun h' hx hn => qdH (xs := keptR x) (ys := keptR y) rfl rfl rfl heq ⟨rfl, rfl⟩) ?_)
    refine DAL.nil ?_
    repeat (first | refine W.w ?_ | refine AWp.c9 rfl ?_ | (refine zz rfl ?_; first | refine qad rfl ?_ | refine qac rfl ?_ | refine qav rfl rfl (by omega) ?_))
    exact ⟨k + 1, ⟨hlt, hte.2 hxy⟩, by omega, Weak.same (EW.cons rfl (EW.cons rfl (EW.cons rfl EW.nil)))⟩
   ·
    rw [decide_eq_false hxy] at heq
    repeat (first | refine W.w ?_ | refine AWp.c8 rfl ?_ | (refine zz rfl ?_; first | refine qad rfl ?_ | refine qap rfl ?_ | refine qae rfl rfl hg1 rfl ?_ | refine qau r1 rfl ?_ | refine qaj rfl rfl rfl (by omega) ?_))
    refine AWp.draw (σ := [(0, .R), (1, .R), (2, .R), (3, .R), (4, .R), (5, .R), (6, .R), (7, .R), (8, .R), (9, .R), (10, .R)]) mixed (by kernel_rfl) ?_
    repeat (first | refine DAL.r rfl rfl rfl (fun h' hx hn => qad rfl ⟨rfl, rfl⟩) ?_ | refine DAL.r rfl rfl rfl (fun h' hx hn => qap rfl ⟨rfl, rfl⟩) ?_ | refine DAL.r rfl rfl rfl (fun h' hx hn => qae rfl rfl (hx.c _ _ hg1) rfl ⟨rfl, rfl⟩) ?_ | refine DAL.r rfl rfl rfl (fun h' hx hn => qae rfl rfl (hx.c _ _ hg2) rfl ⟨rfl, rfl⟩) ?_ | refine DAL.r rfl rfl rfl (fun h' hx hn => qaF (r1.ext hx) rfl rfl (by omega) hx2 ⟨rfl, rfl⟩) ?_ | refine DAL.r rfl rfl rfl (fun h' hx hn => qaF (s1.ext hx) rfl rfl (by omega) hy2 ⟨rfl, rfl⟩) ?_ | refine DAL.r rfl rfl rfl (fun h' hx hn => qaJ (px.ext hx) rfl rfl rfl ⟨rfl, rfl⟩) ?_ | refine DAL.r rfl rfl rfl (fun h' hx hn => qaJ (py.ext hx) rfl rfl rfl ⟨rfl, rfl⟩) ?_ | refine DAL.r rfl rfl rfl (fun h' hx hn => qdH (xs := keptR x) (ys := keptR y) rfl rfl rfl heq ⟨rfl, rfl⟩) ?_)
    refine DAL.nil ?_
    repeat (first | refine W.w ?_ | refine AWp.c8 rfl ?_ | refine zz rfl (qaa rfl ?_))
    exact ⟨_, ResV.tmp rfl, rfl, hx, congrArg Value.bool (decide_eq_false fun e => hxy (hte.1 (by rw [e]))).symm, rfl⟩
  ·
   obtain rfl : k = a.keep.length := by omega
   rw [List.take_length, e8, List.take_length] at hp
   repeat (first | refine AL.nil ?_ | refine AWp.seq ?_ | refine AWp.r9 ?_ | refine AWp.c9 rfl ?_ | refine AWp.ret ?_ | refine AWp.exit ?_ | (refine zz rfl ?_; first | refine qad rfl ?_ | refine qaa rfl ?_ | refine qap rfl ?_ | refine qae rfl rfl hg1 rfl ?_ | refine qau r1 rfl ?_ | refine qak rfl rfl rfl (by omega) ?_))
   exact ⟨_, ResV.tmp rfl, rfl, hx, congrArg Value.bool (decide_eq_true (act_ext.2 ⟨e1, e2, e3, e4, e5, e6, e7, hp⟩)).symm, rfl⟩
 ·
  repeat' (first | refine W.w ?_ | refine AL.skip rfl rfl ?_ | refine AWp.c8 rfl ?_ | refine AWp.c9 rfl ?_ | (refine zz rfl ?_; first | refine qag rfl ?_ | refine qac rfl ?_ | refine qaa rfl ?_ | refine qap rfl ?_ | refine qae rfl rfl hg1 rfl ?_ | refine qae rfl rfl hg2 rfl ?_ | refine qaf (sz := 7) rfl rfl hg1 (Nat.le_of_ble_eq_true rfl) ?_ | refine qaf (sz := 7) rfl rfl hg2 (Nat.le_of_ble_eq_true rfl) ?_ | refine qaf (sz := 20) rfl rfl hg1 (Nat.le_of_ble_eq_true rfl) ?_ | refine qaf (sz := 20) rfl rfl hg2 (Nat.le_of_ble_eq_true rfl) ?_ | refine qau r1 rfl ?_ | refine qau s1 rfl ?_ | refine qaM rfl rfl cA (fun c => ?_) (fun c => ?_) | refine qaM rfl rfl cM (fun c => ?_) (fun c => ?_) | refine qaD rfl ?_ | refine qaU rfl rfl rfl (fun c => ?_) (fun c => ?_) | refine qai (v := .bool _) rfl rfl ?_))
  all_goals first | (refine ⟨_, ResV.tmp rfl, rfl, hx, congrArg Value.bool (decide_eq_false fun e => ?_).symm, rfl⟩; subst e; clear cA cM; first | contradiction | omega | (simp at *; done) | grind) | (exfalso; clear cA cM; grind)
end Go.Proofs.YtigmojilaadbhaaGreatDoor
/- . -/
namespace Go.Pln
open Go Go.Lib
abbrev knA : Bytes := [116, 105, 109, 101, 114, 32, 48, 32, 49]
abbrev knB : Bytes := [97, 115, 107, 32, 49, 32, 48, 32, 49, 32, 112, 117, 116, 32, 97, 32, 37]
abbrev knC : Bytes := [112, 108, 97, 110, 32, 48, 32, 109, 111, 118, 101, 32, 37, 32, 50]
abbrev knD : Bytes := [112, 108, 97, 110, 32, 48, 32, 109, 111, 118, 101, 32, 97]
abbrev knE : Bytes := [104, 101, 97, 114, 32, 48, 49]
abbrev knF : Bytes := [99, 114, 97, 115, 104, 32, 48, 32, 97, 32, 49, 32, 97, 32, 50]
abbrev knT : Bytes := [115, 101, 116, 117, 112, 32, 49, 32, 49, 48, 50, 52, 32, 54, 52, 32, 50, 53, 54, 10, 103, 114, 111, 117, 112, 32, 48, 10, 103, 114, 111, 117, 112, 32, 48, 10, 116, 105, 109, 101, 114, 32, 48, 32, 49, 10]
abbrev knU : Bytes := [115, 101, 116, 117, 112, 32, 49, 32, 49, 48, 50, 52, 32, 54, 52, 32, 50, 53, 54, 10, 103, 114, 111, 117, 112, 32, 49, 10, 103, 114, 111, 117, 112, 32, 48, 10, 116, 105, 109, 101, 114, 32, 48, 32, 49, 10]
abbrev knV : Bytes := [115, 101, 116, 117, 112, 32, 49, 32, 49, 48, 50, 52, 32, 54, 52, 32, 50, 53, 54, 10, 103, 114, 111, 117, 112, 32, 48, 10, 103, 114, 111, 117, 112, 32, 48, 10, 116, 105, 109, 101, 114, 32, 48, 32, 50, 10]
abbrev knW : Bytes := [115, 101, 116, 117, 112, 32, 49, 32, 49, 48, 50, 52, 32, 54, 52, 32, 50, 53, 54, 10, 103, 114, 111, 117, 112, 32, 48, 10]
abbrev knX : Bytes := [115, 101, 116, 117, 112, 32, 49, 32, 49, 48, 50, 52, 32, 54, 52, 32, 50, 53, 54, 10, 103, 114, 111, 117, 112, 32, 48, 10, 103, 114, 111, 117, 112, 32, 48, 10, 116, 105, 109, 101, 114, 32, 49, 32, 49, 10]
def knL : ActM := { act0 with kind := 1, group := 1 }
def knM : ActM := { act0 with kind := 10, client := 1, group := 1, ask := { ask0 with kind := 2, key := [97] } }
def knN : ActM := { act0 with kind := 1, node := 5 }
def knO : ActM := { act0 with kind := 9, cmd := { cmd0 with kind := 8, group := 2 } }
theorem qh2 : mayAct 5 5 knL = true ∧ lineM knL = knA := by decide +kernel
theorem qic : mayAct 5 5 knM = true ∧ lineM knM = knB := by decide +kernel
theorem knN_line : mayAct 5 5 knN = false := by decide +kernel
theorem knC_act : unlineP knC = some knO := (qbY _ _).2 (by decide +kernel)
theorem knD_act : unlineP knD = none := by decide +kernel
theorem knE_act : unlineP knE = none := by decide +kernel
theorem knF_act : unlineP knF = none := by decide +kernel
theorem qhK : (parseP knT).2 = (0, 0) ∧ (parseP knT).1.setup.groups.length = 2 ∧ (parseP knT).1.acts.length = 1 := by decide +kernel
theorem knU_read : (parseP knU).2 = (1, 4) ∧ (parseP knU).1.acts.length = 0 := by decide +kernel
theorem knV_read : (parseP knV).2 = (3, 4) ∧ (parseP knV).1.acts.length = 0 := by decide +kernel
theorem knW_read : (parseP knW).2 = (2, 4) ∧ (parseP knW).1.acts.length = 0 := by decide +kernel
theorem knX_read : (parseP knX).2 = (3, 4) ∧ (parseP knX).1.acts.length = 0 := by decide +kernel
end Go.Pln
/- . -/
namespace Go.Proofs.YtigmojilaadbhaaGreatDoor
open Go Go.Eng Go.Pln Go.Lib
attribute [local irreducible] AWp AL DAL AOp TAL
instance i_lnum : FnC Tryz.prog 20 := ⟨Tryz.f20, Tryz.func20, by kernel_rfl, by kernel_rfl⟩
instance i_lwrong : FnC Tryz.prog 37 := ⟨Tryz.f37, Tryz.func37, by kernel_rfl, by kernel_rfl⟩
instance i_lknown : FnC Tryz.prog 15 := ⟨Tryz.f15, Tryz.func15, by kernel_rfl, by kernel_rfl⟩
theorem qbV (e : Int) (h : Heap) : ACalls Tryz.prog 20 [.int .i64 e] h fun u h' => u = .int .i64 e ∧ h' = h := by
 refine ACalls.body Tryz.func20 rfl rfl ?_
 repeat (first | refine W.w ?_ | refine zz rfl (qad rfl ?_) | refine zz rfl (qac rfl ?_))
 exact ⟨_, ResV.tmp rfl, rfl, rfl⟩
theorem qaY (text : Bytes) (n : Int) (h : Heap) (t : Tabs h) (h8 : 8 ≤ h.next) (hl : text.length ≤ 100000000) (hr : (parseP text).2 = (n, 4) ∧ (parseP text).1.acts.length = 0) : ACalls Tryz.prog 37 [str text, .int .i64 n] h fun u h' => u = .bool true ∧ h' = h := by
 refine ACalls.wf fun wf => ACalls.reset ?_
 refine ACalls.body Tryz.func37 rfl rfl ?_
 obtain ⟨e1, e2⟩ := Prod.mk.inj hr.1
 have ea := hr.2
 repeat (first | refine W.w ?_ | refine zz rfl (qal rfl ?_) | refine zz rfl (qaa rfl ?_))
 refine zz rfl (qao (evs := [str text]) rfl rfl ((qem text h t h8 hl).wf_post.mono ?_))
 rintro _ H1 ⟨⟨B, vg, va, rfl, hg, hav, x1⟩, w1, n1⟩
 rw [e1, e2]
 have h1 := qb9 hg.one hav.one (parseP text).1.setup
 repeat (first | (refine zz rfl ?_; first | refine qaz rfl ?_ | refine qar rfl rfl ?_ | refine qat ?_))
 refine AL.eff rfl (qaC (vs := scrC vg va (parseP text).1.setup) rfl rfl rfl rfl h1 ?_)
 refine AL.heap (h := H1.alloc (scrB vg va (parseP text).1.setup)) rfl ?_
 obtain ⟨H2, hQ, g2, x2, _, _⟩ := aq w1 (scrB vg va (parseP text).1.setup)
 rw [hQ]
 obtain ⟨rows, r1, r2, _⟩ := (hav.ra.ext x2).ex
 have c4 := qbV 4 H2
 repeat (first | refine W.w ?_ | (refine zz rfl ?_; first | refine qad rfl ?_ | refine qag rfl ?_ | refine qac rfl ?_ | refine qaa rfl ?_ | refine qaj (a := n) (b := n) rfl rfl rfl rfl ?_ | refine qab rfl rfl c4 ?_ | refine qap rfl ?_ | refine qae rfl rfl g2 rfl ?_ | refine qau r1 rfl ?_ | refine qaj rfl rfl rfl (by omega) ?_ | refine qai (v := .bool _) rfl rfl ?_))
 exact ⟨_, ResV.tmp rfl, rfl, x1.trans x2, rfl, rfl⟩
theorem qdI (h : Heap) (t : Tabs h) (h8 : 8 ≤ h.next) : ACalls Tryz.prog 15 [] h fun u h' => u = .bool true ∧ h' = h := by
 refine ACalls.wf fun wf => ACalls.reset ?_
 refine ACalls.body Tryz.func15 rfl rfl ?_
 have c1 := qeY actV0 knL h t ((ActO.nil 0 h knL rfl rfl rfl).r (Nat.zero_le _))
 rw [show lineV knL = .tuple #[str knA, .int .i64 0] by unfold lineV; rw [if_pos qh2.1, qh2.2]] at c1
 repeat (first | refine W.w ?_ | (refine zz rfl ?_; first | refine qaz rfl ?_ | refine qac rfl ?_ | refine qaa rfl ?_ | refine qah rfl ?_ | refine qay (out := actC actV0 knL) rfl rfl ?_ | refine qab rfl rfl c1 ?_ | refine qar rfl rfl ?_))
 refine zz rfl (qa0 (bv [97]) rfl rfl rfl rfl (qeh _) ?_)
 refine AL.heap (h := h.alloc ⟨bv [97], 5, true⟩) rfl ?_
 have x1 := wf.ext ⟨bv [97], 5, true⟩
 have w1 := wf.alloc ⟨bv [97], 5, true⟩
 have g1 := Heap.alloc_new h ⟨bv [97], 5, true⟩
 have o1 : OS 0 (h.alloc ⟨bv [97], 5, true⟩) 5 (.slice (some ⟨h.next, 0, some 1⟩) 1 1) (bv [97]) := OS.new (Nat.zero_le _) rfl
 have n1 : 8 ≤ (h.alloc ⟨bv [97], 5, true⟩).next := by show 8 ≤ h.next + 1; omega
 generalize h.alloc ⟨bv [97], 5, true⟩ = H1 at x1 w1 g1 o1 n1 ⊢
 have c2 := qeY ⟨⟨.slice (some ⟨h.next, 0, some 1⟩) 1 1, nilS, nilS, nilS⟩, cmdV0, nilS⟩ knM H1 (t.ext x1) ⟨⟨o1.rb, RB.nil _, RB.nil _, RB.nil _⟩, CmdR.nil _, RK.nil _⟩
 rw [show lineV knM = .tuple #[str knB, .int .i64 0] by unfold lineV; rw [if_pos qic.1, qic.2]] at c2
 have c3 := qeY actV0 knN H1 (t.ext x1) ((ActO.nil 0 H1 knN rfl rfl rfl).r (Nat.zero_le _))
 rw [show lineV knN = .tuple #[str [], .int .i64 2] by unfold lineV; rw [if_neg (by rw [knN_line]; decide)]] at c3
 refine zz rfl (qet rfl rfl g1 rfl ?_)
 repeat (first | refine W.w ?_ | (refine zz rfl ?_; first | refine qaz rfl ?_ | refine qac rfl ?_ | refine qah rfl ?_ | refine qay (out := askC ⟨.slice (some ⟨h.next, 0, some 1⟩) 1 1, nilS, nilS, nilS⟩ knM.ask) rfl rfl ?_ | refine qay (out := actC ⟨⟨.slice (some ⟨h.next, 0, some 1⟩) 1 1, nilS, nilS, nilS⟩, cmdV0, nilS⟩ knM) rfl rfl ?_ | refine qab rfl rfl c2 ?_ | refine qar rfl rfl ?_ | refine qay (out := actC actV0 knN) rfl rfl ?_ | refine qab rfl rfl c3 ?_))
 skip
 have c2 := (qcb knC H1 (t.ext x1) (by omega) (by decide)).wf_post
 rw [show unA knC = (knO, 0) by unfold unA; rw [knC_act]] at c2
 refine zz rfl (qao (evs := [str knC]) rfl rfl (c2.mono ?_))
 rintro _ K2 ⟨⟨q2, rfl, ⟨⟨B2, o2⟩, k2⟩, y2⟩, v2, m2⟩
 have e2 := qaG (o2.r k2)
 repeat (first | (refine zz rfl ?_; first | refine qaz rfl ?_ | refine qar rfl rfl ?_ | refine qat ?_))
 refine AL.eff rfl (qaC (vs := actC q2 knO) rfl rfl rfl rfl e2 ?_)
 refine AL.heap (h := K2.alloc ⟨actC q2 knO, 40, true⟩) rfl ?_
 obtain ⟨H2, hQ, g2, z2, w2, nQ⟩ := aq v2 ⟨actC q2 knO, 40, true⟩
 rw [hQ]
 have n2 : 8 ≤ H2.next := by omega
 have x2 := x1.trans (y2.trans z2)
 repeat (first | refine W.w ?_ | refine zz rfl (qac rfl ?_))
 have c3 := (qcb knD H2 (t.ext x2) (by omega) (by decide)).wf_post
 rw [show unA knD = (act0, 4) by unfold unA; rw [knD_act]] at c3
 refine zz rfl (qao (evs := [str knD]) rfl rfl (c3.mono ?_))
 rintro _ K3 ⟨⟨q3, rfl, ⟨⟨B3, o3⟩, k3⟩, y3⟩, v3, m3⟩
 have e3 := qaG (o3.r k3)
 repeat (first | (refine zz rfl ?_; first | refine qaz rfl ?_ | refine qar rfl rfl ?_ | refine qat ?_))
 refine AL.eff rfl (qaC (vs := actC q3 act0) rfl rfl rfl rfl e3 ?_)
 refine AL.heap (h := K3.alloc ⟨actC q3 act0, 40, true⟩) rfl ?_
 obtain ⟨H3, hQ, g3, z3, w3, nQ⟩ := aq v3 ⟨actC q3 act0, 40, true⟩
 rw [hQ]
 have n3 : 8 ≤ H3.next := by omega
 have x3 := x2.trans (y3.trans z3)
 repeat (first | refine W.w ?_ | refine zz rfl (qac rfl ?_))
 have c4 := (qcb knE H3 (t.ext x3) (by omega) (by decide)).wf_post
 rw [show unA knE = (act0, 4) by unfold unA; rw [knE_act]] at c4
 refine zz rfl (qao (evs := [str knE]) rfl rfl (c4.mono ?_))
 rintro _ K4 ⟨⟨q4, rfl, ⟨⟨B4, o4⟩, k4⟩, y4⟩, v4, m4⟩
 have e4 := qaG (o4.r k4)
 repeat (first | (refine zz rfl ?_; first | refine qaz rfl ?_ | refine qar rfl rfl ?_ | refine qat ?_))
 refine AL.eff rfl (qaC (vs := actC q4 act0) rfl rfl rfl rfl e4 ?_)
 refine AL.heap (h := K4.alloc ⟨actC q4 act0, 40, true⟩) rfl ?_
 obtain ⟨H4, hQ, g4, z4, w4, nQ⟩ := aq v4 ⟨actC q4 act0, 40, true⟩
 rw [hQ]
 have n4 : 8 ≤ H4.next := by omega
 have x4 := x3.trans (y4.trans z4)
 repeat (first | refine W.w ?_ | refine zz rfl (qac rfl ?_))
 have c5 := (qcb knF H4 (t.ext x4) (by omega) (by decide)).wf_post
 rw [show unA knF = (act0, 4) by unfold unA; rw [knF_act]] at c5
 refine zz rfl (qao (evs := [str knF]) rfl rfl (c5.mono ?_))
 rintro _ K5 ⟨⟨q5, rfl, ⟨⟨B5, o5⟩, k5⟩, y5⟩, v5, m5⟩
 have e5 := qaG (o5.r k5)
 repeat (first | (refine zz rfl ?_; first | refine qaz rfl ?_ | refine qar rfl rfl ?_ | refine qat ?_))
 refine AL.eff rfl (qaC (vs := actC q5 act0) rfl rfl rfl rfl e5 ?_)
 refine AL.heap (h := K5.alloc ⟨actC q5 act0, 40, true⟩) rfl ?_
 obtain ⟨H5, hQ, g5, z5, w5, nQ⟩ := aq v5 ⟨actC q5 act0, 40, true⟩
 rw [hQ]
 have n5 : 8 ≤ H5.next := by omega
 have x5 := x4.trans (y5.trans z5)
 have u2 := z5.c _ _ (y5.c _ _ (z4.c _ _ (y4.c _ _ (z3.c _ _ (y3.c _ _ g2)))))
 have s2 : ActR H5 q2 knO := ((o2.r k2).ext (z2.trans (y3.trans z3))).ext ((y4.trans z4).trans (y5.trans z5))
 repeat (first | refine W.w ?_ | (refine zz rfl ?_; first | refine qac rfl ?_ | refine qay (out := cmdC cmdV0 knO.cmd) rfl rfl ?_ | refine qay (out := actC actV0 knO) rfl rfl ?_ | refine qat ?_))
 refine AL.eff rfl (qaC (vs := actC actV0 knO) rfl rfl rfl rfl rfl ?_)
 refine AL.heap (h := H5.alloc ⟨actC actV0 knO, 40, true⟩) rfl ?_
 obtain ⟨H6, hQ, g6, z6, w6, nQ⟩ := aq w5 ⟨actC actV0 knO, 40, true⟩
 rw [hQ]
 have n6 : 8 ≤ H6.next := by omega
 have x6 := x5.trans z6
 repeat (first | refine W.w ?_)
 refine zz rfl (qao (evs := [str knT]) rfl rfl ((qem knT H6 (t.ext x6) n6 (by decide)).wf_post.mono ?_))
 rintro _ K7 ⟨⟨B7, vg, va, rfl, hg, hav, y7⟩, v7, m7⟩
 obtain ⟨e1, e2⟩ := Prod.mk.inj qhK.1
 obtain ⟨_, lg, la⟩ := qhK
 rw [e1, e2]
 have h1 := qb9 hg.one hav.one (parseP knT).1.setup
 repeat (first | (refine zz rfl ?_; first | refine qaz rfl ?_ | refine qar rfl rfl ?_ | refine qat ?_))
 refine AL.eff rfl (qaC (vs := scrC vg va (parseP knT).1.setup) rfl rfl rfl rfl h1 ?_)
 refine AL.heap (h := K7.alloc (scrB vg va (parseP knT).1.setup)) rfl ?_
 obtain ⟨H7, hQ, g7, z7, _, nQ⟩ := aq v7 (scrB vg va (parseP knT).1.setup)
 rw [hQ]
 have n7 : 8 ≤ H7.next := by omega
 have x7 := x6.trans (y7.trans z7)
 obtain ⟨rows, r1, r2, _⟩ := (hav.ra.ext z7).ex
 obtain ⟨vs, q1, q2', _⟩ := (hg.rg.ext z7)
 have p2 := (z6.trans (y7.trans z7)).c _ _ u2
 have p6 := (y7.trans z7).c _ _ g6
 have d0 := qbV 0 H7
 have d2 := qbV 2 H7
 have d4 := qbV 4 H7
 have dS := qeV q2 actV0 knO knO H7 (s2.ext (z6.trans (y7.trans z7))) ⟨AskR.nil _, ⟨AskR.nil _, ⟨RB.nil _, RB.nil _⟩, RE.nil _, RB.nil _, RB.nil _⟩, RK.nil _⟩
 rw [show decide (knO = knO) = true by decide] at dS
 have dU := qaY knU 1 H7 (t.ext x7) n7 (by decide) knU_read
 have dV := qaY knV 3 H7 (t.ext x7) n7 (by decide) knV_read
 have dW := qaY knW 2 H7 (t.ext x7) n7 (by decide) knW_read
 have dX := qaY knX 3 H7 (t.ext x7) n7 (by decide) knX_read
 repeat (first | refine W.w ?_ | (refine zz rfl ?_; first | refine qad rfl ?_ | refine qag rfl ?_ | refine qal rfl ?_ | refine qac rfl ?_ | refine qaa rfl ?_ | refine qaV (a := knA) (b := knA) rfl rfl rfl ?_ | refine qaV (a := knB) (b := knB) rfl rfl rfl ?_ | refine qai (v := .bool _) rfl rfl ?_ | refine qab rfl rfl d0 ?_ | refine qab rfl rfl d2 ?_ | refine qab rfl rfl d4 ?_ | refine qaj rfl rfl rfl (by omega) ?_ | refine qaf (sz := 33) rfl rfl p2 (Nat.le_refl _) ?_ | refine qaf (sz := 33) rfl rfl p6 (Nat.le_refl _) ?_ | refine qab rfl rfl dS ?_ | refine qap rfl ?_ | refine qae rfl rfl g7 rfl ?_ | refine qaE q1 rfl ?_ | refine qau r1 rfl ?_ | refine qab rfl rfl dU ?_ | refine qab rfl rfl dV ?_ | refine qab rfl rfl dW ?_ | refine qab rfl rfl dX ?_ | refine qav rfl rfl (by omega) ?_))
 exact ⟨_, ResV.tmp rfl, rfl, x7, rfl, rfl⟩
structure Gr (h : Heap) (e : TypeId) (vs : List Value) (H : Heap) (u : Value) : Prop where
 os : OS h.next H e u vs
 ext : Ext h H
 wf : WF H
 nx : h.next ≤ H.next
theorem Gr.nil {h : Heap} (wf : WF h) (e : TypeId) : Gr h e [] h (.slice none 0 0) := ⟨OS.nil _ _ _, Ext.refl h, wf, Nat.le_refl _⟩
section
variable {ρ : Operand → Value} {h : Heap} {K : Value → Heap → Prop} {dst : Option Tmp} {ty : TypeId} {pos : String} {aft : Array Edge} {g : Option (Nat × Bool)} {t t' : TypeId} {x y : Operand}
end
structure UrI (h : Heap) (s : Bytes) (i : Nat) (acc : Bytes) (H : Heap) (u : Value) : Prop where
 le : i ≤ s.length
 eq : unR s = (unR (s.drop i)).map (acc ++ ·)
 gr : Gr h 5 (bv acc) H u
 len : acc.length ≤ i
def UwOk (h : Heap) (s : Bytes) (u : Value) (h' : Heap) : Prop := ∃ v b, u = .tuple #[v, .bool (unwordR s).isSome] ∧ OS h.next h' 5 v (bv b) ∧ b.length ≤ s.length ∧ Ext h h' ∧ ((unwordR s).isSome = true → unwordR s = some b)
instance i_TyD_Sl_Sl_uint8 : TyD Tryz.prog 135 (.slice 27) := ⟨Tryz.underlying135⟩
abbrev noB (s : Bytes) : Prop := ∀ c ∈ s, c ≠ 32
structure WdI (h : Heap) (s : Bytes) (i at_ : Nat) (ws : List Bytes) (H : Heap) (u : Value) : Prop where
 gr : Gr h 9 (ws.map str) H u
 len : ws.length ≤ i
 alt : (i ≤ s.length ∧ at_ ≤ i ∧ wordsS s = ws ++ wordsS (s.drop at_) ∧ noB ((s.take i).drop at_)) ∨ (i = s.length + 1 ∧ wordsS s = ws)
def namesL : List Bytes := [[], [116, 105, 109, 101, 114], [98, 101, 97, 116], [104, 101, 97, 114], [100, 114, 111, 112], [100, 111, 117, 98, 108, 101], [97, 112, 112, 108, 121], [119, 111, 114, 107], [100, 114, 105, 118, 101], [112, 108, 97, 110], [97, 115, 107], [97, 103, 97, 105, 110], [99, 114, 97, 115, 104], [115, 116, 97, 114, 116]]
end Go.Proofs.YtigmojilaadbhaaGreatDoor
/- . -/
namespace Go.Pln
open Go Go.Lib
end Go.Pln
/- . -/
namespace Go.Proofs.YtigmojilaadbhaaGreatDoor
open Go Go.Eng Go.Pln Go.Lib
attribute [local irreducible] AWp AL DAL AOp TAL
structure RW (B : Nat) (h : Heap) (v : Value) (ws : List Bytes) : Prop where
 os : OS B h 9 v (ws.map str)
 len : ws.length ≤ 1000000000
 all : ∀ w ∈ ws, w.length ≤ 100000000
def WiOk (B : Nat) (ws : List Bytes) (i : Nat) (u : Value) (h' : Heap) : Prop := ∃ v b, u = .tuple #[v, .bool (wordI ws i).isSome] ∧ OS B h' 5 v (bv b) ∧ ((wordI ws i).isSome = true → wordI ws i = some b)
structure UaI (h : Heap) (j4 j6 : Nat) (q : AskV) (a : AskM) (H : Heap) : Prop where
 ext : Ext h H
 wf : WF H
 nx : h.next ≤ H.next
 n4 : h.next ≤ j4
 n6 : h.next ≤ j6
 ne : j4 ≠ j6
 g4 : H.get j4 = some ⟨askC askV0 ask0, 29, true⟩
 g6 : H.get j6 = some ⟨askC q a, 29, true⟩
 o : AskO h.next H q a
structure UpI (h : Heap) (j4 j6 : Nat) (q : CmdV) (a : CmdM) (H : Heap) : Prop where
 ext : Ext h H
 wf : WF H
 nx : h.next ≤ H.next
 n4 : h.next ≤ j4
 n6 : h.next ≤ j6
 ne : j4 ≠ j6
 g4 : H.get j4 = some ⟨cmdC cmdV0 cmd0, 37, true⟩
 g6 : H.get j6 = some ⟨cmdC q a, 37, true⟩
 o : CmdO h.next H q a
end Go.Proofs.YtigmojilaadbhaaGreatDoor
