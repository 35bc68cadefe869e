/-
  Texts of one claim, merged: 5 parts.
-/
import Derived.Test.YtigmojilaadbhaaGreatDoorMpl
import Derived.Test.YtigmojilaadbhaaGreatDoorMpn
import Derived.Test.YtigmojilaadbhaaGreatDoorMpg
import Derived.Test.YtigmojilaadbhaaGreatDoorMpm
import Derived.Test.YtigmojilaadbhaaGreatDoorMpo
import Derived.Test.YtigmojilaadbhaaGreatDoorMpe
set_option maxHeartbeats 16000000
/- . -/
namespace Go.Proofs.YtigmojilaadbhaaGreatDoor
open Go Go.Eng Go.Pln Go.Lib Go.Proofs.Tryz
attribute [local irreducible] AWp AL DAL AOp XWp XL YDAL
instance i_kinds : FnC prog 47 := ⟨Tryz.f47, func47, by kernel_rfl, by kernel_rfl⟩
instance i_kinds1 : FnC prog 95 := ⟨Tryz.f95, func95, by kernel_rfl, by kernel_rfl⟩
instance i_name : FnC prog 42 := ⟨Tryz.f42, func42, by kernel_rfl, by kernel_rfl⟩
instance i_fields : FnC prog 96 := ⟨Tryz.f96, func96, by kernel_rfl, by kernel_rfl⟩
structure Kp (O : Nat → Prop) (G H : Heap) : Prop where
 c : ∀ j b, G.get j = some b → ¬ O j → H.get j = some b
 o : ∀ j b, G.obj j = some b → ¬ O j → H.obj j = some b
theorem Kp.refl (O : Nat → Prop) (G : Heap) : Kp O G G := ⟨fun _ _ e _ => e, fun _ _ e _ => e⟩
def kindsK : Bytes := [116, 105, 109, 101, 114, 32, 98, 101, 97, 116, 32, 104, 101, 97, 114, 32, 100, 114, 111, 112, 32, 100, 111, 117, 98, 108, 101, 32, 97, 112, 112, 108, 121, 32, 119, 111, 114, 107, 32, 100, 114, 105, 118, 101, 32, 112, 108, 97, 110, 32, 97, 115, 107, 32, 97, 103, 97, 105, 110, 32, 99, 114, 97, 115, 104, 32, 115, 116, 97, 114, 116]
theorem qdx : Lib.fields kindsK = kwords := by decide +kernel
theorem kwords_at (k : Nat) (hk : k < 13) : kwords[k]? = some (kword ((k : Int) + 1)) := by
 have h : ∀ i : Fin 13, kwords[i.val]? = some (kword ((i.val : Int) + 1)) := by decide +kernel
 exact h ⟨k, hk⟩
theorem qds : kwords.length = 13 := by decide +kernel
def PreK (Y : Nat → Heap → Prop) (i : Nat × Heap) (H : Heap) (args : List Value) : Prop :=
 args = [.int .i64 ((i.1 : Nat) + 1), str (kword ((i.1 : Nat) + 1))] ∧ i.1 < 13 ∧ Y i.1 H ∧ i.2 = H ∧ WF H
def TK (O : Nat → Prop) (Y : Nat → Heap → Prop) (i : Nat × Heap) (H : Heap) : Prop := Y (i.1 + 1) H ∧ Kp O i.2 H
set_option maxRecDepth 4000 in
theorem qih (C : Ctx prog) (hq : C.Quiet) (y : Nat) (h : Heap) (t : Tabs h) (O : Nat → Prop) (hO : ∀ j, O j → j < h.next) (Y : Nat → Heap → Prop) (Z : Heap → Code → Prop) (hYs : ∀ k H H', Y k H → Ext H H' → H.next ≤ H'.next → Y k H')
  (hy : YS C y (PreK Y) (TK O Y) (fun _ H' j => Z H' j)) (h0 : Y 0 h) :
  XCalls C 95 [yieldV y] h none fun _ h' s' => (s' = none ∧ Y 13 h') ∨ ∃ j, s' = some j ∧ Z h' j := by
 refine XCalls.body func95 rfl (Ab rfl) ?_ hq
 refine XWp.wf fun wf => ?_
 have cf := fields_c kindsK h t (by decide) (by rw [qdx, qds]; omega) (by
  have hall : (kindsK.all fun b => decide (b.toNat < 128)) = true := by decide +kernel
  intro j b hb
  exact of_decide_eq_true (Ai.1 hall b (Aw hb)))
 rw [qdx, qds] at cf
 have hlen : (kwords.map fun l => Value.string (bstr l)).length = 13 := by rw [Ap, qds]
 repeat (first | refine bS ?_ | refine bE ?_ | refine aQ rfl rfl rfl (qat (evs := [str kindsK]) rfl rfl (cf.mono ?_)))
 rintro _ H1 ⟨rfl, hH1⟩
 cases hH1.symm
 have g1 := aB h ⟨kwords.map fun l => .string (bstr l), 9, true⟩
 have x1 := wf.ext ⟨kwords.map fun l => .string (bstr l), 9, true⟩
 have wf1 := wf.alloc ⟨kwords.map fun l => .string (bstr l), 9, true⟩
 have y1 := hYs 0 h _ h0 x1 (Ci _)
 generalize h.alloc ⟨kwords.map fun l => .string (bstr l), 9, true⟩ = H1 at g1 x1 wf1 y1 ⊢
 have rs : ∀ H : Heap, H.get h.next = some ⟨kwords.map fun l => .string (bstr l), 9, true⟩ → RS H (.slice (some ⟨h.next, 0, none⟩) 13 13) (kwords.map fun l => .string (bstr l)) := fun H hg =>
  RS.of hg (.inl rfl) hlen (by rw [Dx]; exact Nat.le_of_eq hlen.symm) (by rw [Du]; exact Cr (Nat.le_of_eq hlen))
 repeat (first | refine bU ?_ | refine cG ?_ | refine aQ rfl rfl rfl (qac rfl ?_) | refine aQ rfl rfl rfl (qch rfl ?_))
 refine XWp.loop (α := Nat × Heap) (fun d => [(0, yieldV y), (4, .slice (some ⟨h.next, 0, none⟩) 13 13), (5, .int .i64 13), (6, .int .i64 (d.1 : Nat))]) (fun d => d.2) (fun d => d.1 ≤ 13 ∧ Y d.1 d.2 ∧ d.2.get h.next = some ⟨kwords.map fun l => .string (bstr l), 9, true⟩ ∧ WF d.2) (fun d => 13 - d.1) (0, H1) ⟨Ao _, y1, g1, wf1⟩
  (aI (aA rfl (aA rfl (aA rfl (aA rfl aN))))) ?_
 rintro ⟨k, H⟩ ⟨hk, hY, hg, wfH⟩
 replace hk : k ≤ 13 := hk
 replace hY : Y k H := hY
 replace hg : H.get h.next = some ⟨kwords.map fun l => .string (bstr l), 9, true⟩ := hg
 replace wfH : WF H := wfH
 show XWp _ _ _ _ _ [(0, yieldV y), (4, .slice (some ⟨h.next, 0, none⟩) 13 13), (5, .int .i64 13), (6, .int .i64 (k : Nat))] H none
 by_cases hlt : k < 13
 ·
  have hs2 : (kwords.map fun l => Value.string (bstr l))[((k : Nat) : Int).toNat]? = some (str (kword ((k : Int) + 1))) := by
   show (kwords.map fun l => Value.string (bstr l))[k]? = _
   rw [Bm, kwords_at k hlt]
   rfl
  repeat (first | refine bU ?_ | refine bS ?_ | refine bE ?_ | refine XWp.condT rfl ?_ | refine cG ?_ | refine dE ?_ | refine aQ rfl rfl rfl (qac rfl ?_) | refine aQ rfl rfl rfl (qak rfl rfl rfl (by omega) ?_))
  refine aQ rfl rfl rfl (qba (rs H hg) rfl rfl (by omega) hs2 ?_)
  intro pp hpp
  repeat (first | refine bU ?_ | refine bS ?_ | refine bE ?_ | refine aQ rfl rfl rfl (qac rfl ?_) | refine aQ rfl rfl rfl (qaj rfl ?_) | refine aQ rfl rfl rfl (qbl rfl ?_) | refine aQ rfl rfl rfl (qad rfl ?_) | refine aQ rfl rfl rfl (qah rfl ?_) | refine aQ rfl rfl rfl (qar hpp rfl rfl ?_) | refine aQ rfl rfl rfl (qau rfl rfl (by omega) ?_))
  refine XL.yield (l := y) rfl rfl rfl ?_
  refine YSpec.mono (hy (k, H) H [.int .i64 ((k : Nat) + 1), str (kword ((k : Nat) + 1))] ⟨rfl, hlt, hY, rfl, wfH⟩) ?_
  rintro v' H5 s' wf5 hn5 (⟨rfl, rfl, hY5, kp⟩ | ⟨rfl, j, rfl, hZ⟩)
  ·
   replace hY5 : Y (k + 1) H5 := hY5
   replace kp : Kp O H H5 := kp
   repeat (first | refine bU ?_ | refine bE ?_ | refine dC rfl ?_ | refine dE ?_ | refine aQ rfl rfl rfl (qac rfl ?_) | refine aQ rfl rfl rfl (qau rfl rfl (by omega) ?_) | refine aQ rfl rfl rfl (qaF rfl ?_))
   refine ⟨rfl, (k + 1, H5), ⟨hlt, hY5, kp.c _ _ hg fun e => by have := hO _ e; omega, wf5⟩, by show 13 - (k + 1) < 13 - k; omega, aI (aA rfl (aA rfl (aA rfl (aA rfl aN))))⟩
  ·
   repeat (first | refine bU ?_ | refine XWp.condT rfl ?_ | refine XWp.ret ?_ | refine aQ rfl rfl rfl (qaF rfl ?_))
   exact ⟨_, ResV.none rfl, .inr ⟨j, rfl, hZ⟩⟩
 ·
  obtain rfl : k = 13 := by omega
  repeat (first | refine bU ?_ | refine bS ?_ | refine bE ?_ | refine dC rfl ?_ | refine XWp.exit ?_ | refine aQ rfl rfl rfl (qai rfl rfl rfl (by omega) ?_))
  exact ⟨_, ResV.none rfl, .inl ⟨rfl, hY⟩⟩
theorem kinds_v (h : Heap) : ACalls prog 47 [] h fun u h' => u = .func (.func 95) #[] #[] ∧ h' = h := by
 refine aD func47 rfl rfl ?_
 repeat (first | refine W.w ?_ | refine zz rfl (qbj rfl ?_) | refine zz rfl (qao (by conv => lhs; whnf) ?_))
 exact ⟨_, aC rfl, rfl, rfl⟩
def nameM (k : Int) : Bytes := if 1 ≤ k ∧ k ≤ 13 then kword k else []
structure NmY (h : Heap) (k : Int) (i : Nat) (H : Heap) : Prop where
 ext : Ext h H
 box : H.get h.next = some ⟨[.int .i64 k], 25, true⟩
 cell : H.get (h.next + 1) = some ⟨[str []], 9, true⟩
 no : ∀ j, j < i → k ≠ (j : Nat) + 1
structure NmZ (h : Heap) (k : Int) (H : Heap) (c : Code) : Prop where
 ret : c = .ret
 ext : Ext h H
 cell : H.get (h.next + 1) = some ⟨[str (nameM k)], 9, true⟩
theorem name_c (k : Int) (h : Heap) (t : Tabs h) : ACalls prog 42 [.int .i64 k] h fun u h' => u = str (nameM k) ∧ h' = h := by
 refine aL fun wf => aO ?_
 refine ACalls.bodyX func42 rfl (Ab rfl) fun bb => ?_
 repeat (first | refine bS ?_ | refine bE ?_ | refine aQ rfl rfl rfl (qaS rfl (by intro e; cases e) ?_))
 generalize hH : h.alloc _ = H1
 have g1 : H1.get h.next = some ⟨[.int .i64 k], 25, true⟩ := hH ▸ aB _ _
 have x1 : Ext h H1 := hH ▸ wf.ext _
 have wf1 : WF H1 := hH ▸ wf.alloc _
 have n1 : H1.next = h.next + 1 := hH ▸ rfl
 clear hH
 repeat (first | refine bU ?_ | refine bS ?_ | refine bE ?_ | refine aQ rfl rfl rfl (qax ?_))
 rw [n1]
 generalize hH : H1.alloc _ = H2
 have g2 : H2.get (h.next + 1) = some ⟨[str []], 9, true⟩ := by rw [← n1, ← hH]; exact aB _ _
 have x2 : Ext H1 H2 := hH ▸ wf1.ext _
 have wf2 : WF H2 := hH ▸ wf1.alloc _
 clear hH
 have gb := x2.c _ _ g1
 have l2 := wf2.lt g2
 repeat (first | refine bU ?_ | refine cG ?_ | refine aQ rfl rfl rfl (qab rfl rfl (kinds_v H2) ?_))
 refine XWp.rangeFunc (ι := Nat × Heap) (fi := []) (ca := []) (PreK (NmY h k)) (TK (fun j => j = h.next + 1) (NmY h k)) (fun _ H c => NmZ h k H c) (fun H => NmY h k 13 H) (fun H c => NmZ h k H c) rfl (fun k e => e) (fun _ _ l => l) rfl ?_ ?_ ?_ ?_ ?_
 ·
  rintro i H args ⟨rfl, _⟩; rfl
 ·
  intro C1 y hq ys
  exact qih C1 hq y H2 (t.ext (x1.trans x2)) (fun j => j = h.next + 1) (by rintro j rfl; exact l2) _ _ (fun i H H' hY hx _ => ⟨hY.ext.trans hx, hx.c _ _ hY.box, hx.c _ _ hY.cell, hY.no⟩) ys ⟨x1.trans x2, gb, g2, fun j hj => by omega⟩
 ·
  rintro Ca Cb y ⟨i, H⟩ H' args ⟨rfl, hi, hY, rfl, wfH⟩
  replace hi : i < 13 := hi
  replace hY : NmY h k i H := hY
  replace wfH : WF H := wfH
  show XWp Ca _ _ _ _ (setPs _ [.int .i64 ((i : Nat) + 1), str (kword ((i : Nat) + 1))] _) H none
  by_cases hk : ((i : Nat) : Int) + 1 = k
  ·
   repeat (first | refine bU ?_ | refine bS ?_ | refine bE ?_ | refine XWp.condT rfl ?_ | refine cG ?_ | refine aQ rfl rfl rfl (qac rfl ?_) | refine aQ rfl rfl rfl (qaj rfl ?_) | refine aQ rfl rfl rfl (qad rfl ?_) | refine aQ rfl rfl rfl (qah rfl ?_) | refine aQ rfl rfl rfl (qaf rfl rfl hY.box rfl ?_) | refine aQ rfl rfl rfl (qak rfl rfl rfl hk ?_))
   refine XL.eff rfl rfl (qaw (v := str (kword ((i : Nat) + 1))) rfl rfl rfl hY.cell rfl (Ec) ?_)
   repeat (first | refine bU ?_ | refine XWp.ret ?_)
   refine ⟨rfl, wf.ext_set hY.ext (Ci _) _, ?_⟩
   have hs : nameM k = kword ((i : Nat) + 1) := by unfold nameM; rw [Ah (by omega), hk]
   rw [hs]
   exact aF _ _ _
  ·
   repeat (first | refine bU ?_ | refine bS ?_ | refine bE ?_ | refine dC rfl ?_ | refine cG ?_ | refine dE ?_ | refine aQ rfl rfl rfl (qac rfl ?_) | refine aQ rfl rfl rfl (qad rfl ?_) | refine aQ rfl rfl rfl (qah rfl ?_) | refine aQ rfl rfl rfl (qaf rfl rfl hY.box rfl ?_) | refine aQ rfl rfl rfl (qai rfl rfl rfl hk ?_))
   refine ⟨⟨hY.ext, hY.box, hY.cell, fun j hj => ?_⟩, Kp.refl _ _⟩
   by_cases hji : j < i
   ·
    exact hY.no j hji
   ·
    obtain rfl : j = i := by
     have : j < i + 1 := hj
     omega
    exact fun e => hk e.symm
 ·
  rintro H hn hY
  refine XWp.wf fun wfH => ?_
  have hs : nameM k = [] := by
   unfold nameM
   refine Ac fun e => ?_
   exact hY.no (k - 1).toNat (by omega) (by omega)
  repeat (first | refine bS ?_ | refine bE ?_)
  refine XL.eff rfl rfl (qaw (v := str []) rfl rfl rfl hY.cell rfl (Ec) ?_)
  repeat (first | refine bU ?_ | refine XWp.ret ?_)
  exact ⟨_, ResV.cell rfl rfl rfl (aF _ _ _) rfl, rfl, wf.ext_set hY.ext (Ci _) _, congrArg str hs.symm, rfl⟩
 ·
  rintro H j hn ⟨rfl, hx, hc⟩
  repeat (first | refine XWp.ret ?_)
  exact ⟨_, ResV.cell rfl rfl rfl hc rfl, rfl, hx, rfl, rfl⟩
end Go.Proofs.YtigmojilaadbhaaGreatDoor
/- . -/
namespace Go.Proofs.YtigmojilaadbhaaGreatDoor
open Go Go.Eng Go.Pln Go.Lib Go.Proofs.Tryz
attribute [local irreducible] AWp AL DAL AOp TAL
def planOk (c : CmdM) : Bool := okC c && decide (namedC c = c) && decide (c.kind = 6 ∨ c.kind = 7 ∨ c.kind = 8)
theorem qeO (c : CmdM) : mayPlan c = planOk c := by
 rw [Dd]
 unfold mayPlan planOk
 by_cases k1 : c.kind = 6 ∨ c.kind = 7
 ·
  rw [Ah k1]
  have h1 : namedC c = { cmd0 with kind := c.kind, key := c.key } := by unfold namedC; grind
  have h2 : okC c = keyOk c.key := by unfold okC; grind
  rw [h1, h2, keyOk]
  simp only [Ae, Aq]
  grind
 ·
  rw [Ac k1]
  by_cases k2 : c.kind = 8
  ·
   rw [Ah k2]
   have h1 : namedC c = { cmd0 with kind := c.kind, key := c.key, group := c.group } := by unfold namedC; grind
   have h2 : okC c = decide (c.key.length ≤ 24 ∧ 1 ≤ c.group ∧ c.group < 5) := by unfold okC; grind
   rw [h1, h2]
   simp only [Ae, Aq]
   grind
  ·
   rw [Ac k2]
   simp only [Ae, Aq]
   grind
def kp (l : List (Bytes × Int)) : Bool := keepOk l && decide (l.length ≤ 128)
def mayQ (nodes groups : Int) (a : ActM) : Prop := (1 ≤ a.kind ∧ a.kind ≤ 13) ∧ namedA a = a ∧ (a.kind = 9 → planOk a.cmd = true) ∧ (a.kind = 10 → mayAsk a.ask = true) ∧ (a.kind = 10 ∨ a.kind = 11 → 1 ≤ a.client ∧ a.client ≤ 4) ∧ (0 ≤ a.node ∧ a.node ≤ nodes - 1) ∧ (0 ≤ a.group ∧ a.group ≤ groups - 1) ∧ (0 ≤ a.n ∧ a.n ≤ 2147483647) ∧ kp a.keep = true
theorem qev {nodes groups : Int} (hn : 1 ≤ nodes) (hg : 1 ≤ groups) (a : ActM) : mayAct nodes groups a = true ↔ mayQ nodes groups a := by
 have hk0 : kp [] = true := rfl
 have hkp : ∀ l, kp l = true ↔ l.length ≤ 128 ∧ keepOk l = true := fun l => by
  unfold kp
  rw [Ae, Aq]
  exact And.comm
 have e1 : ∀ X : ActM, a = X ↔ X = a := fun X => eq_comm
 unfold mayQ mayAct
 by_cases k1 : a.kind = 1 ∨ a.kind = 2 ∨ a.kind = 6 ∨ a.kind = 7
 ·
  have h1 : namedA a = { act0 with kind := a.kind, node := a.node, group := a.group } := by unfold namedA; grind
  rw [Ah k1, h1, Aq, e1]
  constructor
  ·
   rintro ⟨a1, a2, a3, a4, e⟩
   have q1 : a.n = 0 := by rw [← e]; rfl
   have q2 : a.keep = [] := by rw [← e]; rfl
   rw [q1, q2]
   exact ⟨by omega, e, by omega, by omega, by omega, by omega, by omega, by omega, hk0⟩
  ·
   rintro ⟨a1, e, a3, a4, a5, a6, a7, a8, a9⟩
   exact ⟨by omega, by omega, by omega, by omega, e⟩
 rw [Ac k1]
 by_cases k2 : a.kind = 3 ∨ a.kind = 4 ∨ a.kind = 5
 ·
  have h1 : namedA a = { act0 with kind := a.kind, n := a.n } := by unfold namedA; grind
  rw [Ah k2, h1, Aq, e1]
  constructor
  ·
   rintro ⟨a1, a2, e⟩
   have q1 : a.node = 0 := by rw [← e]; rfl
   have q3 : a.group = 0 := by rw [← e]; rfl
   have q2 : a.keep = [] := by rw [← e]; rfl
   rw [q1, q2, q3]
   exact ⟨by omega, e, by omega, by omega, by omega, by omega, by omega, by omega, hk0⟩
  ·
   rintro ⟨a1, e, a3, a4, a5, a6, a7, a8, a9⟩
   exact ⟨by omega, by omega, e⟩
 rw [Ac k2]
 by_cases k3 : a.kind = 8 ∨ a.kind = 13
 ·
  have h1 : namedA a = { act0 with kind := a.kind, node := a.node } := by unfold namedA; grind
  rw [Ah k3, h1, Aq, e1]
  constructor
  ·
   rintro ⟨a1, a2, e⟩
   have q1 : a.n = 0 := by rw [← e]; rfl
   have q3 : a.group = 0 := by rw [← e]; rfl
   have q2 : a.keep = [] := by rw [← e]; rfl
   rw [q1, q2, q3]
   exact ⟨by omega, e, by omega, by omega, by omega, by omega, by omega, by omega, hk0⟩
  ·
   rintro ⟨a1, e, a3, a4, a5, a6, a7, a8, a9⟩
   exact ⟨by omega, by omega, e⟩
 rw [Ac k3]
 by_cases k4 : a.kind = 9
 ·
  have h1 : namedA a = { act0 with kind := a.kind, node := a.node, cmd := a.cmd } := by unfold namedA; grind
  rw [Ah k4, h1, Aq, e1]
  constructor
  ·
   rintro ⟨a1, a2, a3, e⟩
   have q1 : a.n = 0 := by rw [← e]; rfl
   have q3 : a.group = 0 := by rw [← e]; rfl
   have q2 : a.keep = [] := by rw [← e]; rfl
   rw [q1, q2, q3]
   exact ⟨by omega, e, fun _ => by rw [← qeO]; exact a3, by omega, by omega, by omega, by omega, by omega, hk0⟩
  ·
   rintro ⟨a1, e, a3, a4, a5, a6, a7, a8, a9⟩
   exact ⟨by omega, by omega, by rw [qeO]; exact a3 k4, e⟩
 rw [Ac k4]
 by_cases k5 : a.kind = 10
 ·
  have h1 : namedA a = { act0 with kind := a.kind, node := a.node, group := a.group, client := a.client, ask := a.ask } := by unfold namedA; rw [Ah k5]
  rw [Ah k5, h1, Aq, e1]
  constructor
  ·
   rintro ⟨a1, a2, a3, a4, a5, a6, a7, e⟩
   have q1 : a.n = 0 := by rw [← e]; rfl
   have q2 : a.keep = [] := by rw [← e]; rfl
   rw [q1, q2]
   exact ⟨by omega, e, by omega, fun _ => a7, by omega, by omega, by omega, by omega, hk0⟩
  ·
   rintro ⟨a1, e, a3, a4, a5, a6, a7, a8, a9⟩
   exact ⟨by omega, by omega, by omega, by omega, by omega, by omega, a4 k5, e⟩
 rw [Ac k5]
 by_cases k6 : a.kind = 11
 ·
  have h1 : namedA a = { act0 with kind := a.kind, node := a.node, group := a.group, client := a.client } := by unfold namedA; grind
  rw [Ah k6, h1, Aq, e1]
  constructor
  ·
   rintro ⟨a1, a2, a3, a4, a5, a6, e⟩
   have q1 : a.n = 0 := by rw [← e]; rfl
   have q2 : a.keep = [] := by rw [← e]; rfl
   rw [q1, q2]
   exact ⟨by omega, e, by omega, by omega, by omega, by omega, by omega, by omega, hk0⟩
  ·
   rintro ⟨a1, e, a3, a4, a5, a6, a7, a8, a9⟩
   exact ⟨by omega, by omega, by omega, by omega, by omega, by omega, e⟩
 rw [Ac k6]
 by_cases k7 : a.kind = 12
 ·
  have h1 : namedA a = { act0 with kind := a.kind, node := a.node, keep := a.keep } := by unfold namedA; grind
  rw [Ah k7, h1, Aq, e1]
  constructor
  ·
   rintro ⟨a1, a2, a3, a4, e⟩
   have q1 : a.n = 0 := by rw [← e]; rfl
   have q3 : a.group = 0 := by rw [← e]; rfl
   rw [q1, q3]
   exact ⟨by omega, e, by omega, by omega, by omega, by omega, by omega, by omega, (hkp _).2 ⟨a3, a4⟩⟩
  ·
   rintro ⟨a1, e, a3, a4, a5, a6, a7, a8, a9⟩
   exact ⟨by omega, by omega, ((hkp _).1 a9).1, ((hkp _).1 a9).2, e⟩
 rw [Ac k7]
 constructor
 ·
  intro e; cases e
 ·
  rintro ⟨a1, _⟩
  exfalso
  omega
instance i_containsK : FnC prog 88 := ⟨Tryz.f88, func88, by kernel_rfl, by kernel_rfl⟩
instance i_indexK : FnC prog 117 := ⟨Tryz.f117, func117, by kernel_rfl, by kernel_rfl⟩
instance i_may : FnC prog 40 := ⟨Tryz.f40, func40, by kernel_rfl, by kernel_rfl⟩
instance i_mayAct : FnC prog 16 := ⟨Tryz.f16, func16, by kernel_rfl, by kernel_rfl⟩
instance qg9 : TyD prog 138 (.slice 30) := ⟨underlying138⟩
theorem cmay_c (p : CmdV) (m : CmdM) (h : Heap) (r : CmdR h p m) : ACalls prog 87 [.agg (cmdC p m).toArray] h fun u h' => u = .bool (okC m && decide (namedC m = m)) ∧ h' = h := by
 refine aL fun wf => aO ?_
 refine aD func87 rfl rfl ?_
 repeat (first | refine W.w ?_ | refine zz rfl (qaa rfl ?_) | refine zz rfl (qaS rfl (by intro e; cases e) ?_))
 generalize hH : h.alloc _ = H
 have hg : H.get h.next = some ⟨cmdC p m, 37, true⟩ := hH ▸ aB _ _
 have hx : Ext h H := hH ▸ wf.ext _
 have wfH : WF H := hH ▸ wf.alloc _
 clear hH
 have rH := r.ext hx
 repeat (first | refine zz rfl (qam (sz := 20) rfl rfl hg (Aa _) ?_))
 refine zz rfl (qat (evs := [.agg (cmdC p m).toArray]) rfl rfl ((cnamed_c p m H rH).wf_post.mono ?_))
 rintro _ H1 ⟨⟨q, rfl, rq, x1⟩, wf1, _⟩
 repeat (first | refine W.w ?_ | refine aJ rfl (qaL (vs := cmdC q (namedC m)) rfl rfl rfl rfl (qa4 rq) ?_) | (refine zz rfl ?_; first | refine qae rfl ?_ | refine qaC rfl ?_ | refine qaa rfl ?_ | refine qav rfl rfl ?_ | refine qax ?_))
 obtain ⟨H2, hQ, g2, x2, _, _⟩ := aq wf1 ⟨cmdC q (namedC m), 37, true⟩
 rw [hQ]
 have hxx := hx.trans (x1.trans x2)
 have cs := qgQ q p (namedC m) m H2 (rq.ext x2) (r.ext hxx)
 have hg2 := x2.c _ _ (x1.c _ _ hg)
 cases ho : okC m with
 | false =>
  repeat' (first | refine W.w ?_ | refine aK rfl rfl ?_ | refine zz rfl (qaa rfl ?_) | refine zz rfl (qag (v := .bool _) rfl rfl ?_))
  exact ⟨_, aC rfl, rfl, hxx, rfl, rfl⟩
 | true =>
  repeat (first | refine W.w ?_ | (refine zz rfl ?_; first | refine qaa rfl ?_ | refine qam (sz := 20) rfl rfl g2 (Aa _) ?_ | refine qam (sz := 20) rfl rfl hg2 (Aa _) ?_ | refine qab rfl rfl cs ?_ | refine qag (v := .bool _) rfl rfl ?_))
  exact ⟨_, aC rfl, rfl, hxx, rfl, rfl⟩
abbrev kV (ks : List Int) : List Value := ks.map fun n => .int .i64 n
theorem indexK_c (v : Value) (ks : List Int) (k : Int) (h : Heap) (r : RS h v (kV ks)) (hl : ks.length ≤ 140737488351232) : ACalls prog 117 [v, .int .i64 k] h fun u h' => ∃ z : Int, u = .int .i64 z ∧ decide (0 ≤ z) = decide (k ∈ ks) ∧ h' = h := by
 refine aD func117 rfl rfl ?_
 obtain ⟨va, vc, hv⟩ := bC r
 have hml : (kV ks).length = ks.length := Ap _
 repeat (first | refine W.w ?_ | (refine zz rfl ?_; first | refine qac rfl ?_ | refine qad rfl ?_ | refine qaz r rfl ?_ | refine qal (by conv => lhs; whnf) ?_))
 refine bB (α := Nat) (fun j => [(0, v), (1, .int .i64 k), (7, .int .i64 ((kV ks).length : Nat)), (8, .int .i64 (j : Nat))]) (fun _ => h) (fun j => j ≤ ks.length ∧ ¬ k ∈ ks.take j) (fun j => ks.length - j) 0 ⟨Ao _, by simp⟩ (aI (aA rfl (aA rfl (aA rfl (aA rfl aN))))) ?_
 rintro j ⟨hj, ha⟩
 by_cases hlt : j < ks.length
 ·
  obtain ⟨c, hc⟩ := gX (l := ks) (k := j) hlt
  have hc2 : (kV ks)[((j : Nat) : Int).toNat]? = some (.int .i64 c) := by simp [hc]
  repeat (first | refine W.w ?_ | refine aE rfl ?_ | (refine zz rfl ?_; first | refine qac rfl ?_ | refine qad rfl ?_ | refine qak rfl rfl rfl (by omega) ?_ | refine qal (v := v) rfl ?_ | refine qba r rfl rfl (by omega) hc2 ?_))
  intro p hp
  by_cases hm : k = c
  ·
   repeat (first | refine W.w ?_ | refine aE rfl ?_ | (refine zz rfl ?_; first | refine qac rfl ?_ | refine qad rfl ?_ | refine qar hp rfl rfl ?_ | refine qak rfl rfl rfl hm ?_))
   refine ⟨_, aC rfl, (j : Nat), rfl, ?_, rfl⟩
   rw [Al (show (0 : Int) ≤ (j : Nat) by omega), Al (show k ∈ ks by rw [hm]; exact Aw hc)]
  ·
   repeat (first | refine W.w ?_ | refine aG rfl ?_ | (refine zz rfl ?_; first | refine qac rfl ?_ | refine qar hp rfl rfl ?_ | refine qai rfl rfl rfl hm ?_ | refine qau rfl rfl (by omega) ?_))
   refine ⟨j + 1, ⟨hlt, ?_⟩, by omega, aI (aA rfl (aA rfl (aA rfl (aA rfl aN))))⟩
   rw [Bf, hc]
   intro e
   rcases Bh.1 e with e | e
   ·
    exact ha e
   ·
    exact hm (by simpa using e)
 ·
  obtain rfl : j = ks.length := by omega
  rw [Au] at ha
  repeat (first | refine aW ?_ | refine aR ?_ | refine aY ?_ | refine aG rfl ?_ | refine aM ?_ | refine aP ?_ | refine zz rfl (qad rfl ?_) | refine zz rfl (qai rfl rfl rfl (by omega) ?_))
  refine ⟨_, aC rfl, -1, rfl, ?_, rfl⟩
  rw [Af ha]
  rfl
theorem qhI (v : Value) (ks : List Int) (k : Int) (h : Heap) (r : RS h v (kV ks)) (hl : ks.length ≤ 140737488351232) : ACalls prog 88 [v, .int .i64 k] h fun u h' => u = .bool (decide (k ∈ ks)) ∧ h' = h := by
 refine aD func88 rfl rfl ?_
 repeat (first | refine W.w ?_ | (refine zz rfl ?_; first | refine qac rfl ?_ | refine qaa rfl ?_ | refine qal (v := v) rfl ?_))
 refine zz rfl (qat rfl rfl ((indexK_c v ks k h r hl).mono ?_))
 rintro _ H1 ⟨z, rfl, hz, hH1⟩
 cases hH1.symm
 by_cases h0 : 0 ≤ z
 ·
  repeat' (first | refine W.w ?_ | refine zz rfl (qaa rfl ?_) | refine zz rfl (qak rfl rfl rfl (by omega) ?_))
  exact ⟨_, aC rfl, by rw [← hz, Al h0]; rfl, rfl⟩
 ·
  repeat' (first | refine W.w ?_ | refine zz rfl (qaa rfl ?_) | refine zz rfl (qai rfl rfl rfl (by omega) ?_))
  exact ⟨_, aC rfl, by rw [← hz, Af h0]; rfl, rfl⟩
theorem Kd.plan_c (p : CmdV) (m : CmdM) (h : Heap) (r : CmdR h p m) : ACalls prog 87 [.agg (cmdC p m).toArray] h fun u h' => u = .bool (okC m && decide (namedC m = m)) ∧ h' = h := cmay_c p m h r
theorem keepK_c (v : Value) (l : List (Bytes × Int)) (h : Heap) (r : RK h v l) : ACalls prog 90 [v] h fun u h' => u = .bool (kp l) ∧ h' = h := mayKeep_c v l h r
instance (nodes groups : Int) (a : ActM) : Decidable (mayQ nodes groups a) := by unfold mayQ; infer_instance
theorem qhu {nodes groups : Int} (hn : 1 ≤ nodes) (hg : 1 ≤ groups) (a : ActM) : mayAct nodes groups a = decide (mayQ nodes groups a) := by
 rw [Dd, Aq]
 exact qev hn hg a
theorem kinds_c (v : Value) (k : Int) (h : Heap) (r : RS h v (kV [6, 7, 8])) : ACalls prog 88 [v, .int .i64 k] h fun u h' => u = .bool (decide (k = 6 ∨ k = 7 ∨ k = 8)) ∧ h' = h :=
 ACalls.val (congrArg Value.bool (by simp)) (qhI v [6, 7, 8] k h r (by simp))
theorem may_c (p : ActV) (a : ActM) (nodes groups : Int) (h : Heap) (r : ActR h p a) (hn : 1 ≤ nodes ∧ nodes ≤ 140737488351232) (hgr : 1 ≤ groups ∧ groups ≤ 140737488351232) :
  ACalls prog 40 [.agg (actC p a).toArray, .int .i64 nodes, .int .i64 groups] h fun u h' => u = .bool (mayAct nodes groups a) ∧ h' = h := by
 refine aL fun wf => aO ?_
 refine aD func40 rfl rfl ?_
 repeat (first | refine W.w ?_ | refine zz rfl (qaa rfl ?_) | refine zz rfl (qaS rfl (by intro e; cases e) ?_))
 generalize hH : h.alloc _ = H
 have hg : H.get h.next = some ⟨actC p a, 40, true⟩ := hH ▸ aB _ _
 have hx : Ext h H := hH ▸ wf.ext _
 have wfH : WF H := hH ▸ wf.alloc _
 clear hH
 have rH := r.ext hx
 have xh := hx
 by_cases k0 : 1 ≤ a.kind ∧ a.kind ≤ 13
 ·
  obtain ⟨k1, k2⟩ := k0
  skip
  refine bJ (σ := [(0, .R), (1, .R), (2, .R), (3, .R), (4, .R), (5, .R), (6, .R), (7, .R), (8, .R), (9, .R), (11, .R), (10, .X), (12, .R), (13, .R), (14, .R)]) mixed (by kernel_rfl) ?_
  repeat' (first | refine dr rfl rfl (fun _ hx _ => qae rfl ⟨rfl, rfl⟩) ?_ | refine dr rfl rfl (fun _ hx _ => qan rfl ⟨rfl, rfl⟩) ?_ | refine dr rfl rfl (fun _ hx _ => qaf rfl rfl (hx.c _ _ hg) rfl ⟨rfl, rfl⟩) ?_ | refine dr rfl rfl (fun _ hx _ => qam (sz := 33) rfl rfl (hx.c _ _ hg) (Aa _) ⟨rfl, rfl⟩) ?_ | refine dr rfl rfl (fun _ hx _ => qai rfl rfl rfl (by omega) ⟨rfl, rfl⟩) ?_ | refine dr rfl rfl (fun _ hx _ => qag (v := .bool _) rfl rfl ⟨rfl, rfl⟩) ?_)
  refine DAL.x rfl rfl rfl ?_
  refine qat (evs := [.agg (actC p a).toArray]) rfl rfl ((anamed_c p a H rH).wf_post.mono ?_)
  rintro _ H1 ⟨⟨q, rfl, rq, x1⟩, wf1, _⟩
  refine ⟨x1, ?_⟩
  have hg1 := x1.c _ _ hg
  have hx1 := hx.trans x1
  have r1 := r.ext hx1
  have cs := fun (h' : Heap) (hx : Ext H1 h') => sameAct_c q p (namedA a) a h' (rq.ext hx) (r1.ext hx)
  clear hg wfH rH x1 xh
  have hg := hg1
  clear hg1
  by_cases hs : namedA a = a
  ·
   rw [Al hs] at cs
   repeat' (first | refine aX ?_ | refine dr rfl rfl (fun h' hx _ => qab rfl rfl (cs h' hx) ⟨rfl, rfl⟩) ?_ | refine dr rfl rfl (fun _ hx _ => qaF rfl ⟨rfl, rfl⟩) ?_ | refine dr rfl rfl (fun _ hx _ => qag (v := .bool _) rfl rfl ⟨rfl, rfl⟩) ?_)
   clear cs
   repeat (first | refine W.w ?_ | refine aG rfl ?_ | refine zz rfl (qaR rfl ?_) | refine zz rfl (qaN (kV [6, 7, 8]) rfl rfl rfl rfl (by intro u hu; obtain ⟨n, _, rfl⟩ := Bp.1 hu; rfl) ?_))
   obtain ⟨H2, hQ, gr, xr, _, _⟩ := aq wf1 ⟨kV [6, 7, 8], 30, true⟩
   rw [hQ]
   have rr : RS H2 (.slice (some ⟨H1.next, 0, some 1⟩) 3 3) (kV [6, 7, 8]) := bK gr rfl
   have hg2 := xr.c _ _ hg
   have hx2 := hx1.trans xr
   have r2 := r.ext hx2
   clear hg hx1 r1 gr
   have hg := hg2
   clear hg2
   have cP := Kd.plan_c p.c a.cmd H2 r2.rc
   have cA := qiD p.q a.ask H2 r2.ra
   have cK := keepK_c p.k a.keep H2 r2.rk
   have cC := kinds_c _ a.cmd.kind H2 rr
   repeat' (first | refine W.w ?_ | refine aK rfl rfl ?_ | (refine zz rfl ?_; first | refine qac rfl ?_ | refine qdZ rfl ?_ | refine qae rfl ?_ | refine qaa rfl ?_ | refine qan rfl ?_ | refine qaf rfl rfl hg rfl ?_ | refine qam (sz := 20) rfl rfl hg (Ab rfl) ?_ | refine qam (sz := 7) rfl rfl hg (Ab rfl) ?_ | refine qaU rfl rfl cP (fun c => ?_) (fun c => ?_) | refine qaU rfl rfl cC (fun c => ?_) (fun c => ?_) | refine qaU rfl rfl cA (fun c => ?_) (fun c => ?_) | refine qaU rfl rfl cK (fun c => ?_) (fun c => ?_) | refine qaU rfl rfl (qcD _ _ _ H2) (fun c => ?_) (fun c => ?_) | refine qbC rfl rfl (by omega) ?_ | refine qak rfl rfl rfl (by omega) ?_ | refine qai rfl rfl rfl (by omega) ?_ | refine qaT rfl rfl rfl (fun c => ?_) (fun c => ?_) | refine qag (v := .bool _) rfl rfl ?_))
   all_goals refine ⟨_, aC rfl, rfl, hx2, congrArg Value.bool ?_, rfl⟩
   all_goals clear cP cA cK cC hx hx2 wf wf1 r r2 rq hg rr xr
   all_goals rw [qhu hn.1 hgr.1]
   all_goals first | (refine (Al ?_).symm; unfold mayQ planOk; grind) | (refine (Af ?_).symm; unfold mayQ planOk; grind)
  ·
   rw [Af hs] at cs
   repeat' (first | refine aX ?_ | refine dr rfl rfl (fun h' hx _ => qab rfl rfl (cs h' hx) ⟨rfl, rfl⟩) ?_ | refine dr rfl rfl (fun _ hx _ => qaF rfl ⟨rfl, rfl⟩) ?_ | refine dr rfl rfl (fun _ hx _ => qag (v := .bool _) rfl rfl ⟨rfl, rfl⟩) ?_)
   repeat (first | refine W.w ?_ | refine aE rfl ?_ | refine zz rfl (qaa rfl ?_))
   all_goals refine ⟨_, aC rfl, rfl, hx1, congrArg Value.bool ?_, rfl⟩
   all_goals clear cs hx hx1 wf wf1 r r1 rq hg
   all_goals rw [qhu hn.1 hgr.1]
   all_goals first | (refine (Al ?_).symm; unfold mayQ planOk; grind) | (refine (Af ?_).symm; unfold mayQ planOk; grind)
 ·
  skip
  refine bN mixed (by kernel_rfl) ?_
  repeat' (first | refine bX rfl rfl rfl ?_ | refine aX ?_ | refine dr rfl rfl (fun _ hx _ => qae rfl ⟨rfl, rfl⟩) ?_ | refine dr rfl rfl (fun _ hx _ => qan rfl ⟨rfl, rfl⟩) ?_ | refine dr rfl rfl (fun _ hx _ => qaf rfl rfl (hx.c _ _ hg) rfl ⟨rfl, rfl⟩) ?_ | refine dr rfl rfl (fun _ hx _ => qak rfl rfl rfl (by omega) ⟨rfl, rfl⟩) ?_ | refine DAL.rP rfl rfl rfl (fun h' hx hn => qaZ rfl rfl rfl ⟨rfl, rfl⟩) (fun c => ?_) (fun c => ?_) | refine dr rfl rfl (fun _ hx _ => qag (v := .bool _) rfl rfl ⟨rfl, rfl⟩) ?_)
  repeat' (first | refine W.w ?_ | refine aE rfl ?_ | refine zz rfl (qaa rfl ?_))
  all_goals refine ⟨_, aC rfl, rfl, xh, congrArg Value.bool ?_, rfl⟩
  all_goals clear hx xh wf wfH r rH hg
  all_goals rw [qhu hn.1 hgr.1]
  all_goals first | (refine (Al ?_).symm; unfold mayQ planOk; grind) | (refine (Af ?_).symm; unfold mayQ planOk; grind)
theorem mayIn_c (x : SetM) (vg : Value) (p : ActV) (a : ActM) (h : Heap) (rg : RG h vg x.groups) (r : ActR h p a) : ACalls prog 16 [.agg (setC vg x).toArray, .agg (actC p a).toArray] h fun u h' => u = .bool (mayIn x a) ∧ h' = h := by
 refine aL fun wf => aO ?_
 refine aD func16 rfl rfl ?_
 repeat (first | refine W.w ?_ | refine zz rfl (qaa rfl ?_) | refine zz rfl (qaS rfl (by intro e; cases e) ?_))
 generalize hH1 : h.alloc _ = H0
 have hg0 : H0.get h.next = some ⟨setC vg x, 24, true⟩ := hH1 ▸ aB _ _
 have hx0 : Ext h H0 := hH1 ▸ wf.ext _
 have wf0 : WF H0 := hH1 ▸ wf.alloc _
 skip
 generalize hH2 : H0.alloc _ = H
 have hg2 : H.get H0.next = some ⟨actC p a, 40, true⟩ := hH2 ▸ aB _ _
 have hx1 : Ext H0 H := hH2 ▸ wf0.ext _
 have hg1 : H.get h.next = some ⟨setC vg x, 24, true⟩ := hx1.c _ _ hg0
 have hx : Ext h H := hx0.trans hx1
 clear hH1 hH2
 have cS := maySet_c x vg H (rg.ext hx)
 cases hs : maySet x with
 | false =>
  rw [hs] at cS
  repeat (first | refine W.w ?_ | refine aK rfl rfl ?_ | (refine zz rfl ?_; first | refine qae rfl ?_ | refine qaa rfl ?_ | refine qam (sz := 5) rfl rfl hg1 (Aa _) ?_ | refine qab rfl rfl cS ?_ | refine qag (v := .bool _) rfl rfl ?_))
  exact ⟨_, aC rfl, rfl, hx, by rw [mayIn, hs]; rfl, rfl⟩
 | true =>
  rw [hs] at cS
  obtain ⟨vs, g1, g2, _⟩ := rg.ext hx
  have hb := hs
  simp only [maySet, Ae, sizesM, Aq] at hb
  have cM := may_c p a x.nodes (vs.length : Nat) H (r.ext hx) (by omega) (by omega)
  rw [g2] at cM
  repeat (first | refine W.w ?_ | (refine zz rfl ?_; first | refine qae rfl ?_ | refine qaa rfl ?_ | refine qam (sz := 5) rfl rfl hg1 (Aa _) ?_ | refine qab rfl rfl cS ?_ | refine qam (sz := 33) rfl rfl hg2 (Aa _) ?_ | refine qan rfl ?_ | refine qaf rfl rfl hg1 rfl ?_ | refine qaz g1 rfl ?_ | refine qab (evs := [.agg (actC p a).toArray, .int .i64 x.nodes, .int .i64 (x.groups.length : Nat)]) rfl (by rw [← g2]; rfl) cM ?_ | refine qag (v := .bool _) rfl rfl ?_))
  exact ⟨_, aC rfl, rfl, hx, by rw [mayIn, hs]; rfl, rfl⟩
end Go.Proofs.YtigmojilaadbhaaGreatDoor
/- . -/
namespace Go.Proofs.YtigmojilaadbhaaGreatDoor
open Go Go.Eng Go.Pln Go.Lib Go.Proofs.Tryz
attribute [local irreducible] AWp AL DAL AOp
instance i_line : FnC prog 18 := ⟨Tryz.f18, func18, by kernel_rfl, by kernel_rfl⟩
theorem qhk (l : List WArg) (H : Heap) (n : Nat) (hn : l.length = n) (wf : WF H) (t : Tabs H) (ra : ArgsOk H l) (hl : l.length ≤ 1000) (h' : Heap) (hx' : Ext (H.alloc (rowA l)) h') :
  ACalls prog 43 [.slice (some ⟨H.next, 0, some 1⟩) n n] h' fun u h'' => u = str (joinW (l.map argW)) ∧ h'' = h' := by
 have hx := (wf.ext (rowA l)).trans hx'
 refine text_c _ l _ (t.ext hx) (bK (hx'.c _ _ (aB _ _)) ((Ap _).trans hn)) (fun x hx2 => (ra.mem x hx2).1.ext hx) (by omega) ?_
 have := qbF 2000000 (l.map argW) fun w hw => by
  obtain ⟨x, hx2, rfl⟩ := Bp.1 hw
  exact ArgS.len (ra.mem x hx2).1 (ra.mem x hx2).2
 rw [Ap] at this
 have h2 : l.length * (2000000 + 1) ≤ 1000 * (2000000 + 1) := Bo _ hl
 omega
theorem qe7 {a b : List Bytes} (ha : a ≠ []) (hb : b ≠ []) : joinW (a ++ [joinW b]) = joinW (a ++ b) := by
 cases a with
 | nil => exact absurd rfl ha
 | cons x xs =>
  cases b with
  | nil => exact absurd rfl hb
  | cons y ys =>
   rw [qaQ y ys, Bw, Bw, qaQ, qaQ, qb6, qb6]
   simp [tailW]
theorem qfv {a b : List Bytes} (ha : a ≠ []) : joinW (joinW a :: b) = joinW (a ++ b) := by
 cases a with
 | nil => exact absurd rfl ha
 | cons x xs =>
  rw [Bw, qaQ, qaQ, qaQ, qb6]
  simp
theorem qgR : ∀ i : Fin 13, (kword ((i.val : Int) + 1)).length ≤ 10 := by decide +kernel
theorem qdV {s : Bytes} (h : nameOk s = true) : s.length ≤ 32 := by
 unfold nameOk at h
 simp only [Ae, Aq] at h
 exact h.1.2
theorem askW_ne (a : AskM) : askW a ≠ [] := by unfold askW; grind
theorem planW_ne (c : CmdM) : planW c ≠ [] := by unfold planW; grind
theorem qie {a : AskM} (h : mayAsk a = true) : (joinW (askW a)).length ≤ 2000000 := by
 obtain ⟨l1, l2, l3, l4, l5, l6, l7, l8⟩ := qdn h
 have w1 := qbU a.key
 have w2 := qbU a.to
 have w3 := qbU a.value
 have w4 := qbU a.was
 have w5 := qbm (n := a.most) (by omega) (by omega)
 have := qbF 200 (askW a) (by
  unfold askW
  intro w hw
  split at hw
  ·
   simp only [Ak, As, or_false] at hw; rcases hw with rfl | rfl <;> first | decide | omega
  split at hw
  ·
   simp only [Ak, As, or_false] at hw; rcases hw with rfl | rfl <;> first | decide | omega
  split at hw
  ·
   simp only [Ak, As, or_false] at hw; rcases hw with rfl | rfl | rfl <;> first | decide | omega
  split at hw
  ·
   simp only [Ak, As, or_false] at hw; rcases hw with rfl | rfl | rfl | rfl <;> first | decide | omega
  split at hw
  ·
   simp only [Ak, As, or_false] at hw; rcases hw with rfl | rfl | rfl <;> first | decide | omega
  ·
   simp only [Ak, As, or_false] at hw; rcases hw with rfl | rfl | rfl | rfl <;> first | decide | omega)
 have hl : (askW a).length ≤ 4 := by unfold askW; grind
 have h2 : (askW a).length * (200 + 1) ≤ 4 * (200 + 1) := Bo _ hl
 omega
theorem planW_len {a : CmdM} (h : mayPlan a = true) : (joinW (planW a)).length ≤ 2000000 := by
 obtain ⟨l1, l2, l3, l4, l5⟩ := qcJ h
 have w1 := qbU a.key
 have w5 := qbm (n := a.group) (by omega) (by omega)
 have := qbF 200 (planW a) (by
  unfold planW
  intro w hw
  split at hw
  ·
   simp only [Ak, As, or_false] at hw; rcases hw with rfl | rfl <;> first | decide | omega
  split at hw
  ·
   simp only [Ak, As, or_false] at hw; rcases hw with rfl | rfl <;> first | decide | omega
  ·
   simp only [Ak, As, or_false] at hw; rcases hw with rfl | rfl | rfl <;> first | decide | omega)
 have hl : (planW a).length ≤ 3 := by unfold planW; grind
 have h2 : (planW a).length * (200 + 1) ≤ 3 * (200 + 1) := Bo _ hl
 omega
theorem bdd2 {n : Nat} (s : Bytes) (k : Int) : Bdd n (.tuple #[str s, .int .i64 k]) := Bdd.plain (by simp [plainV, scalar])
def lineV (a : ActM) : Value := if mayAct 5 5 a then .tuple #[str (lineM a), .int .i64 0] else .tuple #[str [], .int .i64 2]
theorem qiC (p : ActV) (a : ActM) (h : Heap) (t : Tabs h) (r : ActR h p a) : ACalls prog 18 [.agg (actC p a).toArray] h fun u h' => u = lineV a ∧ h' = h := by
 refine aL fun wf => ACalls.resetB ?_
 refine aD func18 rfl rfl ?_
 repeat (first | refine W.w ?_ | (refine zz rfl ?_; first | refine qad rfl ?_ | refine qah rfl ?_ | refine qaS rfl (by intro e; cases e) ?_))
 generalize hH : h.alloc _ = H
 have hg : H.get h.next = some ⟨actC p a, 40, true⟩ := hH ▸ aB _ _
 have hx : Ext h H := hH ▸ wf.ext _
 have wfH : WF H := hH ▸ wf.alloc _
 clear hH
 have cM := may_c p a 5 5 H (r.ext hx) (by omega) (by omega)
 cases hm : mayAct 5 5 a with
 | false =>
  rw [hm] at cM
  repeat (first | refine W.w ?_ | refine aE rfl ?_ | (refine zz rfl ?_; first | refine qad rfl ?_ | refine qah rfl ?_ | refine qam (sz := 33) rfl rfl hg (Aa _) ?_ | refine qab rfl rfl cM ?_ | refine qaF rfl ?_))
  exact ⟨_, bG rfl, bdd2 _ _, hx, by unfold lineV; rw [hm]; rfl, rfl⟩
 | true =>
  rw [hm] at cM
  have hv : lineV a = .tuple #[str (lineM a), .int .i64 0] := by unfold lineV; rw [hm]; rfl
  have hq : mayQ 5 5 a := (qev (by omega) (by omega) a).1 hm
  obtain ⟨hk, hna, hp9, hp10, hp11, hnode, hgroup, hnn, hkp⟩ := hq
  have cn := name_c a.kind H (t.ext hx)
  rw [show nameM a.kind = kword a.kind by unfold nameM; rw [Ah hk]] at cn
  have hkl : (kword a.kind).length ≤ 10 := by
   have := qgR ⟨(a.kind - 1).toNat, by omega⟩
   rw [show ((a.kind - 1).toNat : Int) + 1 = a.kind by omega] at this
   exact this
  obtain ⟨ra, rc, rk⟩ := r.ext hx
  have xh := hx
  by_cases k1 : a.kind = 3 ∨ a.kind = 4 ∨ a.kind = 5
  ·
   have he : restW a = [itoa a.n] := by unfold restW; rw [Ah k1]
   rcases k1 with k | k | k <;>
   ·
    have ct := qbs [.txt (kword a.kind), .num a.n] H 2 rfl wfH (t.ext hx) ⟨⟨trivial, (show (kword a.kind).length ≤ 2000000 by omega)⟩, ⟨(show I64 a.n from ⟨by omega, by omega⟩), trivial⟩, trivial⟩ (by show 2 ≤ 1000; omega)
    repeat (first | refine W.w ?_ | refine aE rfl ?_ | refine aG rfl ?_ | (refine zz rfl ?_; first | refine qaj rfl ?_ | refine qad rfl ?_ | refine qaa rfl ?_ | refine qah rfl ?_ | refine qam (sz := 33) rfl rfl hg (Aa _) ?_ | refine qab rfl rfl cM ?_ | refine qab rfl rfl cn ?_ | refine qan rfl ?_ | refine qaf rfl rfl hg rfl ?_ | refine qa5 rfl rfl ?_ | refine qak rfl rfl rfl (by omega) ?_ | refine qai rfl rfl rfl (by omega) ?_ | refine qaN (([.txt (kword a.kind), .num a.n] : List WArg).map argV) rfl rfl rfl rfl (qa1 _) ?_ | refine qab rfl rfl ct ?_ | refine qaF rfl ?_))
    exact ⟨_, bG rfl, bdd2 _ _, hx.trans (wfH.ext _), by rw [hv, lineM, he]; rfl, rfl⟩
  by_cases k2 : a.kind = 8 ∨ a.kind = 13
  ·
   have he : restW a = [itoa a.node] := by unfold restW; rw [Ac k1, Ah k2]
   rcases k2 with k | k <;>
   ·
    have ct := qbs [.txt (kword a.kind), .num a.node] H 2 rfl wfH (t.ext hx) ⟨⟨trivial, (show (kword a.kind).length ≤ 2000000 by omega)⟩, ⟨(show I64 a.node from ⟨by omega, by omega⟩), trivial⟩, trivial⟩ (by show 2 ≤ 1000; omega)
    repeat (first | refine W.w ?_ | refine aE rfl ?_ | refine aG rfl ?_ | (refine zz rfl ?_; first | refine qaj rfl ?_ | refine qad rfl ?_ | refine qaa rfl ?_ | refine qah rfl ?_ | refine qam (sz := 33) rfl rfl hg (Aa _) ?_ | refine qab rfl rfl cM ?_ | refine qab rfl rfl cn ?_ | refine qan rfl ?_ | refine qaf rfl rfl hg rfl ?_ | refine qa5 rfl rfl ?_ | refine qak rfl rfl rfl (by omega) ?_ | refine qai rfl rfl rfl (by omega) ?_ | refine qaN (([.txt (kword a.kind), .num a.node] : List WArg).map argV) rfl rfl rfl rfl (qa1 _) ?_ | refine qab rfl rfl ct ?_ | refine qaF rfl ?_))
    exact ⟨_, bG rfl, bdd2 _ _, hx.trans (wfH.ext _), by rw [hv, lineM, he]; rfl, rfl⟩
  by_cases k3 : a.kind = 9
  ·
   have he : restW a = itoa a.node :: planW a.cmd := by unfold restW; rw [Ac k1, Ac k2, Ah k3]
   have hmp : mayPlan a.cmd = true := by rw [qeO]; exact hp9 k3
   have ct := qhk [.txt (kword a.kind), .num a.node, .txt (joinW (planW a.cmd))] H 3 rfl wfH (t.ext hx) ⟨⟨trivial, (show (kword a.kind).length ≤ 2000000 by omega)⟩, ⟨(show I64 a.node from ⟨by omega, by omega⟩), trivial⟩, ⟨trivial, planW_len hmp⟩, trivial⟩ (by show 3 ≤ 1000; omega)
   repeat (first | refine W.w ?_ | refine aE rfl ?_ | refine aG rfl ?_ | (refine zz rfl ?_; first | refine qaa rfl ?_ | refine qah rfl ?_ | refine qam (sz := 33) rfl rfl hg (Aa _) ?_ | refine qab rfl rfl cM ?_ | refine qab rfl rfl cn ?_ | refine qan rfl ?_ | refine qaf rfl rfl hg rfl ?_ | refine qak rfl rfl rfl (by omega) ?_ | refine qai rfl rfl rfl (by omega) ?_ | refine qaF rfl ?_))
   refine bJ (σ := [(0, .R), (1, .R), (2, .R), (3, .R), (4, .R), (5, .R), (6, .R), (7, .R), (8, .R), (9, .X), (10, .R), (11, .R), (12, .R)]) mixed (by kernel_rfl) ?_
   repeat (first | refine dr rfl rfl (fun _ hx _ => qaj rfl ⟨rfl, rfl⟩) ?_ | refine dr rfl rfl (fun _ hx _ => qan rfl ⟨rfl, rfl⟩) ?_ | refine dr rfl rfl (fun _ hx _ => qaf rfl rfl (hx.c _ _ hg) rfl ⟨rfl, rfl⟩) ?_ | refine dr rfl rfl (fun _ hx _ => qa5 rfl rfl ⟨rfl, rfl⟩) ?_ | refine dr rfl rfl (fun _ hx _ => qam (sz := 20) rfl rfl (hx.c _ _ hg) (Ab rfl) ⟨rfl, rfl⟩) ?_ | refine dr rfl rfl (fun h' hx _ => qab rfl rfl (planT_c p.c a.cmd h' (t.ext (xh.trans hx)) (rc.ext hx) hmp) ⟨rfl, rfl⟩) ?_)
   refine DAL.x rfl rfl rfl (qaN (([.txt (kword a.kind), .num a.node, .txt (joinW (planW a.cmd))] : List WArg).map argV) rfl rfl rfl rfl (qa1 _) ⟨wfH.ext _, ?_⟩)
   repeat (first | refine dr rfl rfl (fun _ hx _ => qad rfl ⟨rfl, rfl⟩) ?_ | refine dr rfl rfl (fun _ hx _ => qah rfl ⟨rfl, rfl⟩) ?_ | refine dr rfl rfl (fun h' hx _ => qab rfl rfl (ct h' hx) ⟨rfl, rfl⟩) ?_)
   refine aX ?_
   repeat (first | refine aM ?_)
   exact ⟨_, bG rfl, bdd2 _ _, xh.trans (wfH.ext _), by rw [hv, lineM, he]; exact congrArg (fun z => Value.tuple #[str z, .int .i64 0]) (qe7 (a := [kword a.kind, itoa a.node]) (List.cons_ne_nil _ _) (planW_ne _)), rfl⟩
  by_cases k4 : a.kind = 10
  ·
   have he : restW a = itoa a.client :: itoa a.node :: itoa a.group :: askW a.ask := by unfold restW; rw [Ac k1, Ac k2, Ac k3, Ah k4]
   have hma := hp10 k4
   have ct := qhk [.txt (kword a.kind), .num a.client, .num a.node, .num a.group, .txt (joinW (askW a.ask))] H 5 rfl wfH (t.ext hx) ⟨⟨trivial, (show (kword a.kind).length ≤ 2000000 by omega)⟩, ⟨(show I64 a.client from ⟨by omega, by omega⟩), trivial⟩, ⟨(show I64 a.node from ⟨by omega, by omega⟩), trivial⟩, ⟨(show I64 a.group from ⟨by omega, by omega⟩), trivial⟩, ⟨trivial, qie hma⟩, trivial⟩ (by show 5 ≤ 1000; omega)
   repeat (first | refine W.w ?_ | refine aE rfl ?_ | refine aG rfl ?_ | (refine zz rfl ?_; first | refine qaa rfl ?_ | refine qah rfl ?_ | refine qam (sz := 33) rfl rfl hg (Aa _) ?_ | refine qab rfl rfl cM ?_ | refine qab rfl rfl cn ?_ | refine qan rfl ?_ | refine qaf rfl rfl hg rfl ?_ | refine qak rfl rfl rfl (by omega) ?_ | refine qai rfl rfl rfl (by omega) ?_ | refine qaF rfl ?_))
   refine bJ (σ := [(0, .R), (1, .R), (2, .R), (3, .R), (4, .R), (5, .R), (6, .R), (7, .R), (8, .R), (9, .R), (10, .R), (11, .R), (12, .R), (13, .R), (14, .R), (15, .X), (16, .R), (17, .R), (18, .R)]) mixed (by kernel_rfl) ?_
   repeat (first | refine dr rfl rfl (fun _ hx _ => qaj rfl ⟨rfl, rfl⟩) ?_ | refine dr rfl rfl (fun _ hx _ => qan rfl ⟨rfl, rfl⟩) ?_ | refine dr rfl rfl (fun _ hx _ => qaf rfl rfl (hx.c _ _ hg) rfl ⟨rfl, rfl⟩) ?_ | refine dr rfl rfl (fun _ hx _ => qa5 rfl rfl ⟨rfl, rfl⟩) ?_ | refine dr rfl rfl (fun _ hx _ => qam (sz := 7) rfl rfl (hx.c _ _ hg) (Ab rfl) ⟨rfl, rfl⟩) ?_ | refine dr rfl rfl (fun h' hx _ => qab rfl rfl (askT_c p.q a.ask h' (t.ext (xh.trans hx)) (ra.ext hx) hma) ⟨rfl, rfl⟩) ?_)
   refine DAL.x rfl rfl rfl (qaN (([.txt (kword a.kind), .num a.client, .num a.node, .num a.group, .txt (joinW (askW a.ask))] : List WArg).map argV) rfl rfl rfl rfl (qa1 _) ⟨wfH.ext _, ?_⟩)
   repeat (first | refine dr rfl rfl (fun _ hx _ => qad rfl ⟨rfl, rfl⟩) ?_ | refine dr rfl rfl (fun _ hx _ => qah rfl ⟨rfl, rfl⟩) ?_ | refine dr rfl rfl (fun h' hx _ => qab rfl rfl (ct h' hx) ⟨rfl, rfl⟩) ?_)
   refine aX ?_
   repeat (first | refine aM ?_)
   exact ⟨_, bG rfl, bdd2 _ _, xh.trans (wfH.ext _), by rw [hv, lineM, he]; exact congrArg (fun z => Value.tuple #[str z, .int .i64 0]) (qe7 (a := [kword a.kind, itoa a.client, itoa a.node, itoa a.group]) (List.cons_ne_nil _ _) (askW_ne _)), rfl⟩
  by_cases k5 : a.kind = 11
  ·
   have he : restW a = [itoa a.client, itoa a.node, itoa a.group] := by unfold restW; rw [Ac k1, Ac k2, Ac k3, Ac k4, Ah k5]
   have ct := qbs [.txt (kword a.kind), .num a.client, .num a.node, .num a.group] H 4 rfl wfH (t.ext hx) ⟨⟨trivial, (show (kword a.kind).length ≤ 2000000 by omega)⟩, ⟨(show I64 a.client from ⟨by omega, by omega⟩), trivial⟩, ⟨(show I64 a.node from ⟨by omega, by omega⟩), trivial⟩, ⟨(show I64 a.group from ⟨by omega, by omega⟩), trivial⟩, trivial⟩ (by show 4 ≤ 1000; omega)
   repeat (first | refine W.w ?_ | refine aE rfl ?_ | refine aG rfl ?_ | (refine zz rfl ?_; first | refine qaj rfl ?_ | refine qad rfl ?_ | refine qaa rfl ?_ | refine qah rfl ?_ | refine qam (sz := 33) rfl rfl hg (Aa _) ?_ | refine qab rfl rfl cM ?_ | refine qab rfl rfl cn ?_ | refine qan rfl ?_ | refine qaf rfl rfl hg rfl ?_ | refine qa5 rfl rfl ?_ | refine qak rfl rfl rfl (by omega) ?_ | refine qai rfl rfl rfl (by omega) ?_ | refine qaN (([.txt (kword a.kind), .num a.client, .num a.node, .num a.group] : List WArg).map argV) rfl rfl rfl rfl (qa1 _) ?_ | refine qab rfl rfl ct ?_ | refine qaF rfl ?_))
   exact ⟨_, bG rfl, bdd2 _ _, hx.trans (wfH.ext _), by rw [hv, lineM, he]; rfl, rfl⟩
  by_cases k6 : a.kind = 12
  ·
   have he : restW a = itoa a.node :: keepW a.keep := by unfold restW; rw [Ac k1, Ac k2, Ac k3, Ac k4, Ac k5, Ah k6]
   have hko : keepOk a.keep = true ∧ a.keep.length ≤ 128 := by
    unfold kp at hkp
    simpa [Bool.and_eq_true] using hkp
   have r1 := rk.rn
   have hml : (a.keep.map keptR).length = a.keep.length := Ap _
   obtain ⟨va, vc, hvk⟩ := r1.slice
   have ct := qbs [.txt (kword a.kind), .num a.node] H 2 rfl wfH (t.ext hx) ⟨⟨trivial, (show (kword a.kind).length ≤ 2000000 by omega)⟩, ⟨(show I64 a.node from ⟨by omega, by omega⟩), trivial⟩, trivial⟩ (by show 2 ≤ 1000; omega)
   repeat (first | refine W.w ?_ | refine aE rfl ?_ | refine aG rfl ?_ | (refine zz rfl ?_; first | refine qaj rfl ?_ | refine qaa rfl ?_ | refine qah rfl ?_ | refine qam (sz := 33) rfl rfl hg (Aa _) ?_ | refine qab rfl rfl cM ?_ | refine qab rfl rfl cn ?_ | refine qan rfl ?_ | refine qaf rfl rfl hg rfl ?_ | refine qa5 rfl rfl ?_ | refine qak rfl rfl rfl (by omega) ?_ | refine qai rfl rfl rfl (by omega) ?_ | refine qaN (([.txt (kword a.kind), .num a.node] : List WArg).map argV) rfl rfl rfl rfl (qa1 _) ?_ | refine qab rfl rfl ct ?_ | refine qaF rfl ?_))
   have x1 := wfH.ext (rowA [.txt (kword a.kind), .num a.node])
   have wf1 := wfH.alloc (rowA [.txt (kword a.kind), .num a.node])
   have hg1 := x1.c _ _ hg
   refine aS (h := H.alloc (rowA [.txt (kword a.kind), .num a.node])) rfl ?_
   generalize H.alloc (rowA [.txt (kword a.kind), .num a.node]) = H1 at x1 wf1 hg1 ⊢
   repeat (first | refine W.w ?_ | (refine zz rfl ?_; first | refine qac rfl ?_ | refine qaf rfl rfl hg1 rfl ?_ | refine qaA (r1.ext x1) rfl ?_))
   refine bB (α := Nat × Heap) (fun d => [(1, ptr h.next), (5, str (joinW (kword a.kind :: itoa a.node :: keepW (a.keep.take d.1)))), (94, p.k), (95, .int .i64 ((a.keep.map keptR).length : Nat)), (96, .int .i64 (d.1 : Nat))]) (fun d => d.2) (fun d => d.1 ≤ a.keep.length ∧ Ext H d.2 ∧ WF d.2) (fun d => a.keep.length - d.1) (0, H1) ⟨Ao _, x1, wf1⟩
    (aI (aA rfl (aA rfl (aA rfl (aA rfl (aA rfl aN)))))) ?_
   rintro ⟨k, H2⟩ ⟨hk2, x2, wf2⟩
   replace hk2 : k ≤ a.keep.length := hk2
   replace x2 : Ext H H2 := x2
   replace wf2 : WF H2 := wf2
   show AWp _ _ _ _ [(1, ptr h.next), (5, str (joinW (kword a.kind :: itoa a.node :: keepW (a.keep.take k)))), (94, p.k), (95, .int .i64 ((a.keep.map keptR).length : Nat)), (96, .int .i64 (k : Nat))] H2
   by_cases hlt : k < a.keep.length
   ·
    obtain ⟨x, hxa⟩ := gX (l := a.keep) (k := k) hlt
    have hx2 : (a.keep.map keptR)[((k : Nat) : Int).toNat]? = some (keptR x) := by simp [hxa]
    have px := (r1.ext x2).elt hx2
    obtain ⟨hn1, hn2, hn3⟩ := qbW hko.1 x (Aw hxa)
    have hnl := qdV hn1
    have hkw : keepW (a.keep.take (k + 1)) = keepW (a.keep.take k) ++ [x.1, itoa x.2] := qc6 hxa
    have hsl : (joinW (kword a.kind :: itoa a.node :: keepW (a.keep.take k))).length ≤ 2000000 := by
     have := qbF 100 (kword a.kind :: itoa a.node :: keepW (a.keep.take k)) (by
      intro w hw
      rcases Ak.1 hw with rfl | hw
      ·
       omega
      rcases Ak.1 hw with rfl | hw
      ·
       have := qbm (n := a.node) (by omega) (by omega); omega
      obtain ⟨y, hy, hw⟩ := List.mem_flatMap.1 hw
      obtain ⟨m1, m2, m3⟩ := qbW hko.1 y (Cg hy)
      have := qdV m1
      have := qbm (n := y.2) (by omega) (by omega)
      simp only [Ak, As, or_false] at hw
      rcases hw with rfl | rfl <;> omega)
     have hl2 : (keepW (a.keep.take k)).length ≤ 2 * 128 := by
      have hh : ∀ l : List (Bytes × Int), (keepW l).length = 2 * l.length := by
       intro l
       induction l with
       | nil => rfl
       | cons y l ih => unfold keepW at ih ⊢; rw [Cn, An, ih]; simp; omega
      rw [hh, Bb]
      omega
     simp only [Ad] at this
     have := Bo (100 + 1) (show (keepW (a.keep.take k)).length + 1 + 1 ≤ 258 by omega)
     omega
    repeat (first | refine W.w ?_ | refine aE rfl ?_ | refine aJ rfl (qaL (vs := keptR x) rfl rfl rfl rfl rfl ?_) | (refine zz rfl ?_; first | refine qaj rfl ?_ | refine qak rfl rfl rfl (by omega) ?_ | refine qaD (r1.ext x2) rfl rfl (by omega) hx2 ?_ | refine qaW px rfl rfl rfl ?_ | refine qax ?_))
    obtain ⟨H3, hQ, hgk, x3, wf3, _⟩ := aq wf2 (keptB x)
    rw [hQ]
    have hxx := x2.trans x3
    have ct2 := qbs [.txt (joinW (kword a.kind :: itoa a.node :: keepW (a.keep.take k))), .txt x.1, .num x.2] H3 3 rfl wf3 (t.ext (xh.trans hxx)) ⟨⟨trivial, hsl⟩, ⟨trivial, show x.1.length ≤ 2000000 by omega⟩, ⟨(show I64 x.2 from ⟨by omega, by omega⟩), trivial⟩, trivial⟩ (by show 3 ≤ 1000; omega)
    repeat (first | refine W.w ?_ | (refine zz rfl ?_; first | refine qac rfl ?_ | refine qah rfl ?_ | refine qan rfl ?_ | refine qaf rfl rfl hgk rfl ?_ | refine qa5 rfl rfl ?_ | refine qaN (([.txt (joinW (kword a.kind :: itoa a.node :: keepW (a.keep.take k))), .txt x.1, .num x.2] : List WArg).map argV) rfl rfl rfl rfl (qa1 _) ?_ | refine qab rfl rfl ct2 ?_ | refine qau rfl rfl (by omega) ?_))
    refine ⟨(k + 1, H3.alloc (rowA [.txt (joinW (kword a.kind :: itoa a.node :: keepW (a.keep.take k))), .txt x.1, .num x.2])), ⟨hlt, hxx.trans (wf3.ext _), wf3.alloc _⟩, by show a.keep.length - (k + 1) < a.keep.length - k; omega, aI (aA rfl (aA ?_ (aA rfl (aA rfl (aA rfl aN)))))⟩
    show str (joinW [joinW (kword a.kind :: itoa a.node :: keepW (a.keep.take k)), x.1, itoa x.2]) = str (joinW (kword a.kind :: itoa a.node :: keepW (a.keep.take (k + 1))))
    rw [hkw]
    exact congrArg str (qfv (by simp))
   ·
    obtain rfl : k = a.keep.length := by omega
    rw [Au]
    repeat (first | refine aW ?_ | refine aR ?_ | refine aY ?_ | refine aG rfl ?_ | refine aM ?_ | refine aP ?_ | (refine zz rfl ?_; first | refine qaj rfl ?_ | refine qad rfl ?_ | refine qah rfl ?_ | refine qai rfl rfl rfl (by omega) ?_))
    exact ⟨_, bG rfl, bdd2 _ _, xh.trans x2, by rw [hv, lineM, he]; rfl, rfl⟩
  ·
   have he : restW a = [itoa a.node, itoa a.group] := by unfold restW; rw [Ac k1, Ac k2, Ac k3, Ac k4, Ac k5, Ac k6]
   have ct := qbs [.txt (kword a.kind), .num a.node, .num a.group] H 3 rfl wfH (t.ext hx) ⟨⟨trivial, (show (kword a.kind).length ≤ 2000000 by omega)⟩, ⟨(show I64 a.node from ⟨by omega, by omega⟩), trivial⟩, ⟨(show I64 a.group from ⟨by omega, by omega⟩), trivial⟩, trivial⟩ (by show 3 ≤ 1000; omega)
   repeat (first | refine W.w ?_ | refine aG rfl ?_ | (refine zz rfl ?_; first | refine qaj rfl ?_ | refine qad rfl ?_ | refine qaa rfl ?_ | refine qah rfl ?_ | refine qam (sz := 33) rfl rfl hg (Aa _) ?_ | refine qab rfl rfl cM ?_ | refine qab rfl rfl cn ?_ | refine qan rfl ?_ | refine qaf rfl rfl hg rfl ?_ | refine qa5 rfl rfl ?_ | refine qai rfl rfl rfl (by omega) ?_ | refine qaN (([.txt (kword a.kind), .num a.node, .num a.group] : List WArg).map argV) rfl rfl rfl rfl (qa1 _) ?_ | refine qab rfl rfl ct ?_ | refine qaF rfl ?_))
   exact ⟨_, bG rfl, bdd2 _ _, hx.trans (wfH.ext _), by rw [hv, lineM, he]; rfl, rfl⟩
end Go.Proofs.YtigmojilaadbhaaGreatDoor
/- . -/
namespace Go.Eng
open Go
section
variable {P : Program} {h : Heap}
theorem ResV.cellAC {fn : Func} {env : Env} {a u : Tmp} {t t' : TypeId} {i o sz by_ j p : Nat} {z v : Value} {s s' : Option Nat} {b b' : Blk} {d d' : TypeDesc} [td : TyD P t d] [ti : TyI P t sz by_ z] [td' : TyD P t' d'] (hr : fn.results = #[.cell a t, .cell u t']) (hx : env.get a = .pointer (some ⟨i, o, s⟩)) (ha : aggB d = true)
  (hi : h.get i = some b) (hl : o + sz ≤ b.cells.length) (hy : env.get u = .pointer (some ⟨j, p, s'⟩)) (hb : aggB d' = false) (hj : h.get j = some b') (hv : b'.cells[p]? = some v) : ResV P fn env h (.tuple #[.agg ((b.cells.drop o).take sz).toArray, v]) := by
 intro N φ tmps w r
 obtain ⟨x, h1, h2⟩ := qdO (P := P) (t := t) r.sim (hx ▸ r.env a) ha hi hl
 obtain ⟨_, _, e1⟩ := (hy ▸ r.env u).ptr_inv
 obtain ⟨c, hc, hr2⟩ := r.sim.cell hj hv
 refine ⟨.tuple #[x, c], ?_, .tuple2 h2 hr2⟩
 have h3 : (results fn tmps).run P w = (do let x ← loadVar t (← asAddr (tmps.getD a undef)); let y ← loadVar t' (← asAddr (tmps.getD u undef)); pure (.tuple #[x, y]) : Sem Value).run P w := by
  simp only [results, hr]
  simp only [De, Dr, El, Sem.run_bind, Sem.run_map, Sem.run_pure]
  cases (asAddr (tmps.getD a undef)).run P w with
  | halt x w1 => rfl
  | ok x w1 =>
   simp only [Result.andThen_ok]
   cases (loadVar t x).run P w1 with
   | halt y w2 => rfl
   | ok y w2 =>
    simp only [Result.andThen_ok]
    cases (asAddr (tmps.getD u undef)).run P w2 with
    | halt x w1 => rfl
    | ok x w1 =>
     simp only [Result.andThen_ok]
     cases (loadVar t' x).run P w1 with
     | halt y w2 => rfl
     | ok y w2 => rfl
 rw [h3]
 have h4 : (do loadVar t' (← asAddr (tmps.getD u undef)) : Sem Value).run P w = .ok c w := by
  simp only [Sem.run_bind, e1]
  simp [asAddr, loadVar, td'.isAgg, hb, hc]
 simp only [Sem.run_bind] at h1 h4 ⊢
 cases h5 : (asAddr (tmps.getD a undef)).run P w with
 | halt x w1 => rw [h5] at h1; cases h1
 | ok x w1 =>
  rw [h5] at h1
  simp only [Result.andThen_ok] at h1 ⊢
  rw [h1]
  simp only [Result.andThen_ok]
  cases h6 : (asAddr (tmps.getD u undef)).run P w with
  | halt x w1 => rw [h6] at h4; cases h4
  | ok x w1 =>
   rw [h6] at h4
   simp only [Result.andThen_ok] at h4 ⊢
   rw [h4]
   simp
end
end Go.Eng
