/-
  Texts of one claim, merged: 11 parts.
-/
import Derived.Test.YtigmojilaadbhaaGreatDoorMkav
import Derived.Test.YtigmojilaadbhaaGreatDoorMkak
import Derived.Test.YtigmojilaadbhaaGreatDoorMkas
import Derived.Test.YtigmojilaadbhaaGreatDoorMkae
import Derived.Test.YtigmojilaadbhaaGreatDoorMkaf
import Derived.Test.YtigmojilaadbhaaGreatDoorMkau
import Derived.Test.YtigmojilaadbhaaGreatDoorRows
import Derived.Test.YtigmojilaadbhaaGreatDoorMkai
import Derived.Lib.LaidTab
import Derived.LaidSub
import Derived.LaidMore
import Derived.LaidHandle
import Derived.Stop.Joined
/-
  Scripts: what the laws know (known, wrong, num of the laws).
-/
namespace Go.Proofs.YtigmojilaadbhaaGreatDoor
open Go Go.Eng Go.Pln Go.Lib
attribute [local irreducible] AWp AL DAL AOp TAL

instance i_lnum : FnC Tryz.prog 20 := ⟨Tryz.f20, Tryz.func20, by kernel_rfl, by kernel_rfl⟩
instance i_lwrong : FnC Tryz.prog 37 := ⟨Tryz.f37, Tryz.func37, by kernel_rfl, by kernel_rfl⟩
instance i_lknown : FnC Tryz.prog 15 := ⟨Tryz.f15, Tryz.func15, by kernel_rfl, by kernel_rfl⟩
theorem lnum_c (e : Int) (h : Heap) : ACalls Tryz.prog 20 [.int .i64 e] h fun u h' => u = .int .i64 e ∧ h' = h := by
  refine ACalls.body Tryz.func20 rfl rfl ?_
  repeat (first | refine AL.nil ?_ | refine AWp.seq ?_ | refine AWp.region ?_ | refine AWp.ret ?_ | refine AL.set rfl rfl (op_moveI rfl ?_) | refine AL.set rfl rfl (op_assignI rfl ?_))
  exact ⟨_, ResV.tmp rfl, rfl, rfl⟩
set_option maxHeartbeats 2000000 in
theorem lwrong_c (text : Bytes) (n : Int) (h : Heap) (t : Tabs h) (h8 : 8 ≤ h.next) (hl : text.length ≤ 100000000) (hr : (parseP text).2 = (n, 4) ∧ (parseP text).1.acts.length = 0) : ACalls Tryz.prog 37 [str text, .int .i64 n] h fun u h' => u = .bool true ∧ h' = h := by
  refine ACalls.wf fun wf => ACalls.reset ?_
  refine ACalls.body Tryz.func37 rfl rfl ?_
  obtain ⟨e1, e2⟩ := Prod.mk.inj hr.1
  have ea := hr.2
  repeat (first | refine AL.nil ?_ | refine AWp.seq ?_ | refine AWp.region ?_ | refine AL.set rfl rfl (op_moveStr rfl ?_) | refine AL.set rfl rfl (op_assignB rfl ?_))
  refine AL.set rfl rfl (op_call (evs := [str text]) rfl rfl ((parse_c text h t h8 hl).wf_post.mono ?_))
  rintro _ H1 ⟨⟨B, vg, va, rfl, hg, hav, x1⟩, w1, n1⟩
  rw [e1, e2]
  have h1 := scrC_one hg.one hav.one (parseP text).1.setup
  repeat (first | refine AL.set rfl rfl (op_moveT rfl ?_) | refine AL.set rfl rfl (op_extract rfl rfl ?_) | refine AL.set rfl rfl (op_alloc ?_))
  refine AL.eff rfl (op_storeW (vs := scrC vg va (parseP text).1.setup) rfl rfl rfl rfl h1 ?_)
  refine AL.heap (h := H1.alloc (scrB vg va (parseP text).1.setup)) rfl ?_
  have g2 := Heap.alloc_new H1 (scrB vg va (parseP text).1.setup)
  have x2 := w1.ext (scrB vg va (parseP text).1.setup)
  generalize H1.alloc (scrB vg va (parseP text).1.setup) = H2 at g2 x2 ⊢
  obtain ⟨rows, r1, r2, _⟩ := (hav.ra.ext x2).ex
  have c4 := lnum_c 4 H2
  repeat (first | refine AL.nil ?_ | refine AWp.seq ?_ | refine AWp.region ?_ | refine AWp.ret ?_ | refine AL.set rfl rfl (op_moveI rfl ?_) | refine AL.set rfl rfl (op_moveB rfl ?_) | refine AL.set rfl rfl (op_assignI rfl ?_) | refine AL.set rfl rfl (op_assignB rfl ?_) | refine AL.set rfl rfl (op_intT (a := n) (b := n) rfl rfl rfl rfl ?_) | refine AL.set rfl rfl (op_callS rfl rfl c4 ?_) | refine AL.set rfl rfl (op_fa rfl ?_) | refine AL.set rfl rfl (op_load rfl rfl g2 rfl ?_) | refine AL.set rfl rfl (op_lenN r1 rfl ?_) | refine AL.set rfl rfl (op_intT rfl rfl rfl (by omega) ?_) | refine AL.set rfl rfl (op_pick (v := .bool _) rfl rfl ?_))
  exact ⟨_, ResV.tmp rfl, rfl, x1.trans x2, rfl, rfl⟩
end Go.Proofs.YtigmojilaadbhaaGreatDoor

/-
  Scripts: what the laws know (known): it is true.
-/
namespace Go.Proofs.YtigmojilaadbhaaGreatDoor
open Go Go.Eng Go.Pln Go.Lib
attribute [local irreducible] AWp AL DAL AOp TAL

set_option maxHeartbeats 4000000 in
theorem lknown_c (h : Heap) (t : Tabs h) (h8 : 8 ≤ h.next) : ACalls Tryz.prog 15 [] h fun u h' => u = .bool true ∧ h' = h := by
  refine ACalls.wf fun wf => ACalls.reset ?_
  refine ACalls.body Tryz.func15 rfl rfl ?_
  have c1 := line_c actV0 knL h t ((ActO.nil 0 h knL rfl rfl rfl).r (Nat.zero_le _))
  rw [show lineV knL = .tuple #[str knA, .int .i64 0] by unfold lineV; rw [if_pos knL_line.1, knL_line.2]] at c1
  repeat (first | refine AL.nil ?_ | refine AWp.seq ?_ | refine AWp.region ?_ | refine AL.set rfl rfl (op_moveT rfl ?_) | refine AL.set rfl rfl (op_assignI rfl ?_) | refine AL.set rfl rfl (op_assignB rfl ?_) | refine AL.set rfl rfl (op_assignStr rfl ?_) | refine AL.set rfl rfl (op_buildS (out := actC actV0 knL) rfl rfl ?_) | refine AL.set rfl rfl (op_callS rfl rfl c1 ?_) | refine AL.set rfl rfl (op_extract rfl rfl ?_))
  refine AL.set rfl rfl (op_row (bv [97]) rfl rfl rfl rfl (bv_ones _) ?_)
  refine AL.heap (h := h.alloc ⟨bv [97], 5, true⟩) rfl ?_
  have x1 := wf.ext ⟨bv [97], 5, true⟩
  have w1 := wf.alloc ⟨bv [97], 5, true⟩
  have g1 := Heap.alloc_new h ⟨bv [97], 5, true⟩
  have o1 : OS 0 (h.alloc ⟨bv [97], 5, true⟩) 5 (.slice (some ⟨h.next, 0, some 1⟩) 1 1) (bv [97]) := OS.new (Nat.zero_le _) rfl
  have n1 : 8 ≤ (h.alloc ⟨bv [97], 5, true⟩).next := by show 8 ≤ h.next + 1; omega
  generalize h.alloc ⟨bv [97], 5, true⟩ = H1 at x1 w1 g1 o1 n1 ⊢
  have c2 := line_c ⟨⟨.slice (some ⟨h.next, 0, some 1⟩) 1 1, nilS, nilS, nilS⟩, cmdV0, nilS⟩ knM H1 (t.ext x1) ⟨⟨o1.rb, RB.nil _, RB.nil _, RB.nil _⟩, CmdR.nil _, RK.nil _⟩
  rw [show lineV knM = .tuple #[str knB, .int .i64 0] by unfold lineV; rw [if_pos knM_line.1, knM_line.2]] at c2
  have c3 := line_c actV0 knN H1 (t.ext x1) ((ActO.nil 0 H1 knN rfl rfl rfl).r (Nat.zero_le _))
  rw [show lineV knN = .tuple #[str [], .int .i64 2] by unfold lineV; rw [if_neg (by rw [knN_line]; decide)]] at c3
  refine AL.set rfl rfl (op_convSame rfl rfl g1 rfl ?_)
  repeat (first | refine AL.nil ?_ | refine AWp.seq ?_ | refine AWp.region ?_ | refine AL.set rfl rfl (op_moveT rfl ?_) | refine AL.set rfl rfl (op_assignI rfl ?_) | refine AL.set rfl rfl (op_assignStr rfl ?_) | refine AL.set rfl rfl (op_buildS (out := askC ⟨.slice (some ⟨h.next, 0, some 1⟩) 1 1, nilS, nilS, nilS⟩ knM.ask) rfl rfl ?_) | refine AL.set rfl rfl (op_buildS (out := actC ⟨⟨.slice (some ⟨h.next, 0, some 1⟩) 1 1, nilS, nilS, nilS⟩, cmdV0, nilS⟩ knM) rfl rfl ?_) | refine AL.set rfl rfl (op_callS rfl rfl c2 ?_) | refine AL.set rfl rfl (op_extract rfl rfl ?_) | refine AL.set rfl rfl (op_buildS (out := actC actV0 knN) rfl rfl ?_) | refine AL.set rfl rfl (op_callS rfl rfl c3 ?_))
  skip
  have c2 := (unline_c knC H1 (t.ext x1) (by omega) (by decide)).wf_post
  rw [show unA knC = (knO, 0) by unfold unA; rw [knC_act]] at c2
  refine AL.set rfl rfl (op_call (evs := [str knC]) rfl rfl (c2.mono ?_))
  rintro _ K2 ⟨⟨q2, rfl, ⟨⟨B2, o2⟩, k2⟩, y2⟩, v2, m2⟩
  have e2 := actC_one (o2.r k2)
  repeat (first | refine AL.set rfl rfl (op_moveT rfl ?_) | refine AL.set rfl rfl (op_extract rfl rfl ?_) | refine AL.set rfl rfl (op_alloc ?_))
  refine AL.eff rfl (op_storeW (vs := actC q2 knO) rfl rfl rfl rfl e2 ?_)
  refine AL.heap (h := K2.alloc ⟨actC q2 knO, 40, true⟩) rfl ?_
  have g2 := Heap.alloc_new K2 ⟨actC q2 knO, 40, true⟩
  have z2 := v2.ext ⟨actC q2 knO, 40, true⟩
  have w2 := v2.alloc ⟨actC q2 knO, 40, true⟩
  have n2 : 8 ≤ (K2.alloc ⟨actC q2 knO, 40, true⟩).next := by show 8 ≤ K2.next + 1; omega
  have x2 := x1.trans (y2.trans z2)
  generalize K2.alloc ⟨actC q2 knO, 40, true⟩ = H2 at g2 z2 w2 n2 x2 ⊢
  repeat (first | refine AL.nil ?_ | refine AWp.seq ?_ | refine AWp.region ?_ | refine AL.set rfl rfl (op_assignI rfl ?_))
  have c3 := (unline_c knD H2 (t.ext x2) (by omega) (by decide)).wf_post
  rw [show unA knD = (act0, 4) by unfold unA; rw [knD_act]] at c3
  refine AL.set rfl rfl (op_call (evs := [str knD]) rfl rfl (c3.mono ?_))
  rintro _ K3 ⟨⟨q3, rfl, ⟨⟨B3, o3⟩, k3⟩, y3⟩, v3, m3⟩
  have e3 := actC_one (o3.r k3)
  repeat (first | refine AL.set rfl rfl (op_moveT rfl ?_) | refine AL.set rfl rfl (op_extract rfl rfl ?_) | refine AL.set rfl rfl (op_alloc ?_))
  refine AL.eff rfl (op_storeW (vs := actC q3 act0) rfl rfl rfl rfl e3 ?_)
  refine AL.heap (h := K3.alloc ⟨actC q3 act0, 40, true⟩) rfl ?_
  have g3 := Heap.alloc_new K3 ⟨actC q3 act0, 40, true⟩
  have z3 := v3.ext ⟨actC q3 act0, 40, true⟩
  have w3 := v3.alloc ⟨actC q3 act0, 40, true⟩
  have n3 : 8 ≤ (K3.alloc ⟨actC q3 act0, 40, true⟩).next := by show 8 ≤ K3.next + 1; omega
  have x3 := x2.trans (y3.trans z3)
  generalize K3.alloc ⟨actC q3 act0, 40, true⟩ = H3 at g3 z3 w3 n3 x3 ⊢
  repeat (first | refine AL.nil ?_ | refine AWp.seq ?_ | refine AWp.region ?_ | refine AL.set rfl rfl (op_assignI rfl ?_))
  have c4 := (unline_c knE H3 (t.ext x3) (by omega) (by decide)).wf_post
  rw [show unA knE = (act0, 4) by unfold unA; rw [knE_act]] at c4
  refine AL.set rfl rfl (op_call (evs := [str knE]) rfl rfl (c4.mono ?_))
  rintro _ K4 ⟨⟨q4, rfl, ⟨⟨B4, o4⟩, k4⟩, y4⟩, v4, m4⟩
  have e4 := actC_one (o4.r k4)
  repeat (first | refine AL.set rfl rfl (op_moveT rfl ?_) | refine AL.set rfl rfl (op_extract rfl rfl ?_) | refine AL.set rfl rfl (op_alloc ?_))
  refine AL.eff rfl (op_storeW (vs := actC q4 act0) rfl rfl rfl rfl e4 ?_)
  refine AL.heap (h := K4.alloc ⟨actC q4 act0, 40, true⟩) rfl ?_
  have g4 := Heap.alloc_new K4 ⟨actC q4 act0, 40, true⟩
  have z4 := v4.ext ⟨actC q4 act0, 40, true⟩
  have w4 := v4.alloc ⟨actC q4 act0, 40, true⟩
  have n4 : 8 ≤ (K4.alloc ⟨actC q4 act0, 40, true⟩).next := by show 8 ≤ K4.next + 1; omega
  have x4 := x3.trans (y4.trans z4)
  generalize K4.alloc ⟨actC q4 act0, 40, true⟩ = H4 at g4 z4 w4 n4 x4 ⊢
  repeat (first | refine AL.nil ?_ | refine AWp.seq ?_ | refine AWp.region ?_ | refine AL.set rfl rfl (op_assignI rfl ?_))
  have c5 := (unline_c knF H4 (t.ext x4) (by omega) (by decide)).wf_post
  rw [show unA knF = (act0, 4) by unfold unA; rw [knF_act]] at c5
  refine AL.set rfl rfl (op_call (evs := [str knF]) rfl rfl (c5.mono ?_))
  rintro _ K5 ⟨⟨q5, rfl, ⟨⟨B5, o5⟩, k5⟩, y5⟩, v5, m5⟩
  have e5 := actC_one (o5.r k5)
  repeat (first | refine AL.set rfl rfl (op_moveT rfl ?_) | refine AL.set rfl rfl (op_extract rfl rfl ?_) | refine AL.set rfl rfl (op_alloc ?_))
  refine AL.eff rfl (op_storeW (vs := actC q5 act0) rfl rfl rfl rfl e5 ?_)
  refine AL.heap (h := K5.alloc ⟨actC q5 act0, 40, true⟩) rfl ?_
  have g5 := Heap.alloc_new K5 ⟨actC q5 act0, 40, true⟩
  have z5 := v5.ext ⟨actC q5 act0, 40, true⟩
  have w5 := v5.alloc ⟨actC q5 act0, 40, true⟩
  have n5 : 8 ≤ (K5.alloc ⟨actC q5 act0, 40, true⟩).next := by show 8 ≤ K5.next + 1; omega
  have x5 := x4.trans (y5.trans z5)
  generalize K5.alloc ⟨actC q5 act0, 40, true⟩ = H5 at g5 z5 w5 n5 x5 ⊢
  have u2 := z5.c _ _ (y5.c _ _ (z4.c _ _ (y4.c _ _ (z3.c _ _ (y3.c _ _ g2)))))
  have s2 : ActR H5 q2 knO := ((o2.r k2).ext (z2.trans (y3.trans z3))).ext ((y4.trans z4).trans (y5.trans z5))
  repeat (first | refine AL.nil ?_ | refine AWp.seq ?_ | refine AWp.region ?_ | refine AL.set rfl rfl (op_assignI rfl ?_) | refine AL.set rfl rfl (op_buildS (out := cmdC cmdV0 knO.cmd) rfl rfl ?_) | refine AL.set rfl rfl (op_buildS (out := actC actV0 knO) rfl rfl ?_) | refine AL.set rfl rfl (op_alloc ?_))
  refine AL.eff rfl (op_storeW (vs := actC actV0 knO) rfl rfl rfl rfl rfl ?_)
  refine AL.heap (h := H5.alloc ⟨actC actV0 knO, 40, true⟩) rfl ?_
  have g6 := Heap.alloc_new H5 ⟨actC actV0 knO, 40, true⟩
  have z6 := w5.ext ⟨actC actV0 knO, 40, true⟩
  have w6 := w5.alloc ⟨actC actV0 knO, 40, true⟩
  have n6 : 8 ≤ (H5.alloc ⟨actC actV0 knO, 40, true⟩).next := by show 8 ≤ H5.next + 1; omega
  have x6 := x5.trans z6
  generalize H5.alloc ⟨actC actV0 knO, 40, true⟩ = H6 at g6 z6 w6 n6 x6 ⊢
  repeat (first | refine AL.nil ?_ | refine AWp.seq ?_ | refine AWp.region ?_)
  refine AL.set rfl rfl (op_call (evs := [str knT]) rfl rfl ((parse_c knT H6 (t.ext x6) n6 (by decide)).wf_post.mono ?_))
  rintro _ K7 ⟨⟨B7, vg, va, rfl, hg, hav, y7⟩, v7, m7⟩
  obtain ⟨e1, e2⟩ := Prod.mk.inj knT_read.1
  obtain ⟨_, lg, la⟩ := knT_read
  rw [e1, e2]
  have h1 := scrC_one hg.one hav.one (parseP knT).1.setup
  repeat (first | refine AL.set rfl rfl (op_moveT rfl ?_) | refine AL.set rfl rfl (op_extract rfl rfl ?_) | refine AL.set rfl rfl (op_alloc ?_))
  refine AL.eff rfl (op_storeW (vs := scrC vg va (parseP knT).1.setup) rfl rfl rfl rfl h1 ?_)
  refine AL.heap (h := K7.alloc (scrB vg va (parseP knT).1.setup)) rfl ?_
  have g7 := Heap.alloc_new K7 (scrB vg va (parseP knT).1.setup)
  have z7 := v7.ext (scrB vg va (parseP knT).1.setup)
  have n7 : 8 ≤ (K7.alloc (scrB vg va (parseP knT).1.setup)).next := by show 8 ≤ K7.next + 1; omega
  have x7 := x6.trans (y7.trans z7)
  generalize K7.alloc (scrB vg va (parseP knT).1.setup) = H7 at g7 z7 n7 x7 ⊢
  obtain ⟨rows, r1, r2, _⟩ := (hav.ra.ext z7).ex
  obtain ⟨vs, q1, q2', _⟩ := (hg.rg.ext z7)
  have p2 := (z6.trans (y7.trans z7)).c _ _ u2
  have p6 := (y7.trans z7).c _ _ g6
  have d0 := lnum_c 0 H7
  have d2 := lnum_c 2 H7
  have d4 := lnum_c 4 H7
  have dS := sameActR_c q2 actV0 knO knO H7 (s2.ext (z6.trans (y7.trans z7))) ⟨AskR.nil _, ⟨AskR.nil _, ⟨RB.nil _, RB.nil _⟩, RE.nil _, RB.nil _, RB.nil _⟩, RK.nil _⟩
  rw [show decide (knO = knO) = true by decide] at dS
  have dU := lwrong_c knU 1 H7 (t.ext x7) n7 (by decide) knU_read
  have dV := lwrong_c knV 3 H7 (t.ext x7) n7 (by decide) knV_read
  have dW := lwrong_c knW 2 H7 (t.ext x7) n7 (by decide) knW_read
  have dX := lwrong_c knX 3 H7 (t.ext x7) n7 (by decide) knX_read
  repeat (first | refine AL.nil ?_ | refine AWp.seq ?_ | refine AWp.region ?_ | refine AWp.ret ?_ | refine AL.set rfl rfl (op_moveI rfl ?_) | refine AL.set rfl rfl (op_moveB rfl ?_) | refine AL.set rfl rfl (op_moveStr rfl ?_) | refine AL.set rfl rfl (op_assignI rfl ?_) | refine AL.set rfl rfl (op_assignB rfl ?_) | refine AL.set rfl rfl (op_sEqT (a := knA) (b := knA) rfl rfl rfl ?_) | refine AL.set rfl rfl (op_sEqT (a := knB) (b := knB) rfl rfl rfl ?_) | refine AL.set rfl rfl (op_pick (v := .bool _) rfl rfl ?_) | refine AL.set rfl rfl (op_callS rfl rfl d0 ?_) | refine AL.set rfl rfl (op_callS rfl rfl d2 ?_) | refine AL.set rfl rfl (op_callS rfl rfl d4 ?_) | refine AL.set rfl rfl (op_intT rfl rfl rfl (by omega) ?_) | refine AL.set rfl rfl (op_loadA (sz := 33) rfl rfl p2 (Nat.le_refl _) ?_) | refine AL.set rfl rfl (op_loadA (sz := 33) rfl rfl p6 (Nat.le_refl _) ?_) | refine AL.set rfl rfl (op_callS rfl rfl dS ?_) | refine AL.set rfl rfl (op_fa rfl ?_) | refine AL.set rfl rfl (op_load rfl rfl g7 rfl ?_) | refine AL.set rfl rfl (op_lenR q1 rfl ?_) | refine AL.set rfl rfl (op_lenN r1 rfl ?_) | refine AL.set rfl rfl (op_callS rfl rfl dU ?_) | refine AL.set rfl rfl (op_callS rfl rfl dV ?_) | refine AL.set rfl rfl (op_callS rfl rfl dW ?_) | refine AL.set rfl rfl (op_callS rfl rfl dX ?_) | refine AL.set rfl rfl (op_add64 rfl rfl (by omega) ?_))
  exact ⟨_, ResV.tmp rfl, rfl, x7, rfl, rfl⟩
end Go.Proofs.YtigmojilaadbhaaGreatDoor

/-
  Scripts: the document's own: bytes avs a word, and back.
-/
namespace Go.Proofs.YtigmojilaadbhaaGreatDoor
open Go Go.Eng Go.Pln Go.Lib
attribute [local irreducible] AWp AL DAL AOp TAL

structure Gr (h : Heap) (e : TypeId) (vs : List Value) (H : Heap) (u : Value) : Prop where
  os : OS h.next H e u vs
  ext : Ext h H
  wf : WF H
  nx : h.next ≤ H.next
section
variable {ρ : Operand → Value} {h : Heap} {K : Value → Heap → Prop} {dst : Option Tmp} {ty : TypeId} {pos : String} {aft : Array Edge} {g : Option (Nat × Bool)} {t t' : TypeId} {x y : Operand}
end
end Go.Proofs.YtigmojilaadbhaaGreatDoor

/-
  Scripts: the document's own: the bytes of a word; a line's words; words behind one.
-/
namespace Go.Proofs.YtigmojilaadbhaaGreatDoor
open Go Go.Eng Go.Pln Go.Lib
attribute [local irreducible] AWp AL DAL AOp TAL

instance i_rnames : FnC Tryz.prog 101 := ⟨Tryz.f101, Tryz.func101, by kernel_rfl, by kernel_rfl⟩
instance i_rName : FnC Tryz.prog 49 := ⟨Tryz.f49, Tryz.func49, by kernel_rfl, by kernel_rfl⟩
structure UrI (h : Heap) (s : Bytes) (i : Nat) (acc : Bytes) (H : Heap) (u : Value) : Prop where
  le : i ≤ s.length
  eq : unR s = (unR (s.drop i)).map (acc ++ ·)
  gr : Gr h 5 (bv acc) H u
  len : acc.length ≤ i
def UwOk (h : Heap) (s : Bytes) (u : Value) (h' : Heap) : Prop := ∃ v b, u = .tuple #[v, .bool (unwordR s).isSome] ∧ OS h.next h' 5 v (bv b) ∧ b.length ≤ s.length ∧ Ext h h' ∧ ((unwordR s).isSome = true → unwordR s = some b)
end Go.Proofs.YtigmojilaadbhaaGreatDoor

/-
  Scripts: the document's own: a line's words; the kinds' words; bytes avs words behind one.
-/
namespace Go.Proofs.YtigmojilaadbhaaGreatDoor
open Go Go.Eng Go.Pln Go.Lib
attribute [local irreducible] AWp AL DAL AOp TAL

abbrev noB (s : Bytes) : Prop := ∀ c ∈ s, c ≠ 32
structure WdI (h : Heap) (s : Bytes) (i at_ : Nat) (ws : List Bytes) (H : Heap) (u : Value) : Prop where
  gr : Gr h 9 (ws.map str) H u
  len : ws.length ≤ i
  alt : (i ≤ s.length ∧ at_ ≤ i ∧ wordsS s = ws ++ wordsS (s.drop at_) ∧ noB ((s.take i).drop at_)) ∨ (i = s.length + 1 ∧ wordsS s = ws)
def namesL : List Bytes := [[], [116, 105, 109, 101, 114], [98, 101, 97, 116], [104, 101, 97, 114], [100, 114, 111, 112], [100, 111, 117, 98, 108, 101], [97, 112, 112, 108, 121], [119, 111, 114, 107], [100, 114, 105, 118, 101], [112, 108, 97, 110], [97, 115, 107], [97, 103, 97, 105, 110], [99, 114, 97, 115, 104], [115, 116, 97, 114, 116]]
theorem names_at : ∀ i : Fin 13, namesL[i.val + 1]? = some (kword (i.val + 1)) := by decide +kernel
theorem strs_ones (ws : List Bytes) : ∀ v ∈ ws.map str, oneB v = true := by
  intro v hv
  obtain ⟨w, _, rfl⟩ := List.mem_map.1 hv
  rfl
theorem rnames_c (h : Heap) : ACalls Tryz.prog 101 [] h fun u h' => u = .slice (some ⟨h.next, 0, some 1⟩) 14 14 ∧ h' = h.alloc ⟨namesL.map str, 9, true⟩ := by
  refine ACalls.body Tryz.func101 rfl rfl ?_
  repeat (first | refine AL.nil ?_ | refine AWp.seq ?_ | refine AWp.region ?_ | refine AWp.ret ?_ | refine AL.set rfl rfl (op_assignS rfl ?_) | refine AL.set rfl rfl (op_row (namesL.map str) rfl rfl rfl rfl (strs_ones _) ?_))
  exact ⟨_, ResV.tmp rfl, rfl, rfl⟩
theorem rName_c (k : Int) (hk : 1 ≤ k ∧ k ≤ 13) (h : Heap) : ACalls Tryz.prog 49 [.int .i64 k] h fun u h' => u = str (kword k) ∧ h' = h := by
  refine ACalls.wf fun wf => ACalls.reset ?_
  refine ACalls.body Tryz.func49 rfl rfl ?_
  repeat (first | refine AL.nil ?_ | refine AWp.seq ?_ | refine AWp.region ?_ | refine AL.set rfl rfl (op_assignStr rfl ?_))
  refine AL.set rfl rfl (op_call rfl rfl ((rnames_c h).mono ?_))
  rintro _ H1 ⟨rfl, hH1⟩
  cases hH1.symm
  have g1 := Heap.alloc_new h ⟨namesL.map str, 9, true⟩
  have x1 := wf.ext ⟨namesL.map str, 9, true⟩
  generalize h.alloc ⟨namesL.map str, 9, true⟩ = H1 at g1 x1 ⊢
  have r1 : RS H1 (.slice (some ⟨h.next, 0, some 1⟩) 14 14) (namesL.map str) := RS.own g1 rfl
  have hn : (namesL.map str)[k.toNat]? = some (str (kword k)) := by
    have := names_at ⟨(k - 1).toNat, by omega⟩
    have e1 : (k - 1).toNat + 1 = k.toNat := by omega
    have e2 : (((k - 1).toNat : Nat) : Int) + 1 = k := by omega
    simp only [e1, e2] at this
    rw [List.getElem?_map, this]
    rfl
  repeat (first | refine AL.nil ?_ | refine AWp.ret ?_ | refine AL.set rfl rfl (op_moveI rfl ?_) | refine AL.set rfl rfl (op_assignStr rfl ?_) | refine AL.set rfl rfl (op_indexD r1 rfl rfl (by omega) hn fun _ => ?_) | refine AL.set rfl rfl (op_loadR (PT.of r1 hn) rfl rfl ?_))
  exact ⟨_, ResV.tmp rfl, rfl, x1, rfl, rfl⟩
end Go.Proofs.YtigmojilaadbhaaGreatDoor

/-
  Scripts: the law of kinds (once, ScriptKinds).
-/
namespace Go.Proofs.YtigmojilaadbhaaGreatDoor
open Go Go.Eng Go.Pln Go.Lib
attribute [local irreducible] AWp AL DAL AOp XWp XL YDAL

instance i_once : FnC Tryz.prog 25 := ⟨Tryz.f25, Tryz.func25, by kernel_rfl, by kernel_rfl⟩
instance i_TyD_iter_Seq2_hectare_api_ActKind_string_ : TyD Tryz.prog 92 (.func #[149] #[] false) := ⟨Tryz.underlying92⟩
structure OnY (h : Heap) (most : Int) (i : Nat) (H : Heap) : Prop where
  ext : Ext h H
  box : H.get h.next = some ⟨[.int .i64 most], 3, true⟩
  res : H.get (h.next + 1) = some ⟨[.bool false], 4, true⟩
  cnt : H.get (h.next + 2) = some ⟨[.int .i64 (i : Nat)], 3, true⟩
structure OnZ (h : Heap) (H : Heap) (c : Code) : Prop where
  ret : c = .ret
  ext : Ext h H
  res : H.get (h.next + 1) = some ⟨[.bool true], 4, true⟩
set_option maxHeartbeats 4000000 in
theorem once_c (most : Int) (h : Heap) (t : Tabs h) : ACalls Tryz.prog 25 [.int .i64 most] h fun u h' => u = .bool true ∧ h' = h := by
  refine ACalls.wf fun wf => ACalls.reset ?_
  refine ACalls.bodyX Tryz.func25 rfl (Nat.le_of_ble_eq_true rfl) fun bb => ?_
  repeat (first | refine XWp.seq ?_ | refine XWp.region ?_ | refine XL.set rfl rfl rfl (op_box rfl (by intro e; cases e) ?_))
  generalize hH : h.alloc _ = H1
  have g1 : H1.get h.next = some ⟨[.int .i64 most], 3, true⟩ := hH ▸ Heap.alloc_new _ _
  have x1 : Ext h H1 := hH ▸ wf.ext _
  have wf1 : WF H1 := hH ▸ wf.alloc _
  have n1 : H1.next = h.next + 1 := hH ▸ rfl
  clear hH
  refine XL.set rfl rfl rfl (op_alloc ?_)
  rw [n1]
  generalize hH : H1.alloc _ = H2
  have g2 : H2.get (h.next + 1) = some ⟨[.bool false], 4, true⟩ := by rw [← n1, ← hH]; exact Heap.alloc_new _ _
  have x2 : Ext H1 H2 := hH ▸ wf1.ext _
  have wf2 : WF H2 := hH ▸ wf1.alloc _
  have n2 : H2.next = h.next + 2 := by rw [← hH]; show H1.next + 1 = _; omega
  clear hH
  repeat (first | refine XL.nil ?_ | refine XWp.seq ?_ | refine XWp.region ?_)
  refine XL.set rfl rfl rfl (op_alloc ?_)
  rw [n2]
  generalize hH : H2.alloc _ = H4
  have g4 : H4.get (h.next + 2) = some ⟨[.int .i64 0], 3, true⟩ := by rw [← n2, ← hH]; exact Heap.alloc_new _ _
  have x4 : Ext H2 H4 := hH ▸ wf2.ext _
  have wf4 : WF H4 := hH ▸ wf2.alloc _
  clear hH
  have l4 := wf4.lt g4
  refine XL.eff rfl rfl (op_store (v := .int .i64 0) rfl rfl rfl g4 rfl (Nat.zero_lt_one) ?_)
  refine XL.heap (h := H4.set (h.next + 2) ⟨[.int .i64 0], 3, true⟩) rfl ?_
  have g3 := Heap.set_at H4 (h.next + 2) ⟨[.int .i64 0], 3, true⟩
  have xh : Ext h (H4.set (h.next + 2) ⟨[.int .i64 0], 3, true⟩) := wf.ext_set (x1.trans (x2.trans x4)) (by omega) _
  have l3 : h.next + 2 < (H4.set (h.next + 2) ⟨[.int .i64 0], 3, true⟩).next := l4
  have y0 : OnY h most 0 (H4.set (h.next + 2) ⟨[.int .i64 0], 3, true⟩) := ⟨xh, (Heap.set_other (by omega)).trans (x4.c _ _ (x2.c _ _ g1)), (Heap.set_other (by omega)).trans (x4.c _ _ g2), g3⟩
  generalize H4.set (h.next + 2) ⟨[.int .i64 0], 3, true⟩ = H3 at g3 xh l3 y0 ⊢
  repeat (first | refine XL.nil ?_ | refine XWp.seq ?_ | refine XWp.region ?_ | refine XL.set rfl rfl rfl (op_moveF rfl ?_) | refine XL.set rfl rfl rfl (op_assignF rfl ?_) | refine XL.set rfl rfl rfl (op_callS rfl rfl (kinds_v H3) ?_))
  refine XL.set rfl rfl rfl (op_eqFuncNil (fn := .func 95) (f := #[]) (c := #[]) rfl rfl ?_)
  repeat (first | refine XL.nil ?_ | refine XWp.seq ?_ | refine XWp.region ?_ | refine XWp.condF rfl ?_ | refine XWp.block ?_ | refine XWp.skip ?_ | refine XL.set rfl rfl rfl (op_moveF rfl ?_))
  refine XWp.rangeFunc (ι := Nat × Heap) (fi := []) (ca := []) (PreK (OnY h most)) (TK (fun j => j = h.next + 2) (OnY h most)) (fun _ H c => OnZ h H c) (fun H => OnY h most 13 H) (fun H c => OnZ h H c) rfl (fun k e => e) (fun _ _ l => l) rfl ?_ ?_ ?_ ?_ ?_
  · rintro i H args ⟨rfl, _⟩; rfl
  · intro C1 y hq ys
    exact kinds1_x C1 hq y H3 (t.ext xh) (fun j => j = h.next + 2) (by rintro j rfl; exact l3) _ _ (fun i H H' hY hx _ => ⟨hY.ext.trans hx, hx.c _ _ hY.box, hx.c _ _ hY.res, hx.c _ _ hY.cnt⟩) ys y0
  · rintro Ca Cb y ⟨i, H⟩ H' args ⟨rfl, hi, hY, rfl, wfH⟩
    replace hi : i < 13 := hi
    replace hY : OnY h most i H := hY
    replace wfH : WF H := wfH
    show XWp Ca _ _ _ _ (setPs _ [.int .i64 ((i : Nat) + 1), str (kword ((i : Nat) + 1))] _) H none
    repeat (first | refine XL.nil ?_ | refine XWp.seq ?_ | refine XWp.region ?_ | refine XWp.block ?_ | refine XL.set rfl rfl rfl (op_assignI rfl ?_) | refine XL.set rfl rfl rfl (op_assignStr rfl ?_) | refine XL.set rfl rfl rfl (op_load rfl rfl hY.cnt rfl ?_) | refine XL.set rfl rfl rfl (op_add64 rfl rfl (by omega) ?_))
    refine XL.eff rfl rfl (op_store (v := .int .i64 ((i : Nat) + 1)) rfl rfl rfl hY.cnt rfl (Nat.zero_lt_one) ?_)
    refine XL.heap (h := H.set (h.next + 2) ⟨[.int .i64 ((i + 1 : Nat) : Int)], 3, true⟩) rfl ?_
    have c1 := Heap.set_at H (h.next + 2) ⟨[.int .i64 ((i + 1 : Nat) : Int)], 3, true⟩
    have c2 : (H.set (h.next + 2) ⟨[.int .i64 ((i + 1 : Nat) : Int)], 3, true⟩).get (h.next + 1) = _ := (Heap.set_other (by omega)).trans hY.res
    have c3 : (H.set (h.next + 2) ⟨[.int .i64 ((i + 1 : Nat) : Int)], 3, true⟩).get h.next = _ := (Heap.set_other (by omega)).trans hY.box
    have c4 : Ext h (H.set (h.next + 2) ⟨[.int .i64 ((i + 1 : Nat) : Int)], 3, true⟩) := wf.ext_set hY.ext (by omega) _
    have c5 : Kp (fun j => j = h.next + 2) H (H.set (h.next + 2) ⟨[.int .i64 ((i + 1 : Nat) : Int)], 3, true⟩) := ⟨fun j b hj hn => (Heap.set_other hn).trans hj, fun j b hj _ => hj⟩
    generalize H.set (h.next + 2) ⟨[.int .i64 ((i + 1 : Nat) : Int)], 3, true⟩ = H1 at c1 c2 c3 c4 c5 ⊢
    have cN := rName_c ((i : Int) + 1) (by omega) H1
    by_cases hm : ((i + 1 : Nat) : Int) = most
    · repeat (first | refine XL.nil ?_ | refine XWp.seq ?_ | refine XWp.region ?_ | refine XWp.condT rfl ?_ | refine XWp.condF rfl ?_ | refine XWp.skip ?_ | refine XL.set rfl rfl rfl (op_moveI rfl ?_) | refine XL.set rfl rfl rfl (op_moveB rfl ?_) | refine XL.set rfl rfl rfl (op_moveStr rfl ?_) | refine XL.set rfl rfl rfl (op_load rfl rfl c1 rfl ?_) | refine XL.set rfl rfl rfl (op_load rfl rfl c3 rfl ?_) | refine XL.set rfl rfl rfl (op_pick (v := .bool _) rfl rfl ?_) | refine XL.set rfl rfl rfl (op_callS rfl rfl cN ?_) | refine XL.set rfl rfl rfl (op_sNeF rfl rfl rfl ?_) | refine XL.set rfl rfl rfl (op_intT rfl rfl rfl (by omega) ?_) | refine XL.set rfl rfl rfl (op_intF rfl rfl rfl (by omega) ?_))
      refine XL.eff rfl rfl (op_store (v := .bool true) rfl rfl rfl c2 rfl (Nat.zero_lt_one) ?_)
      repeat (first | refine XL.nil ?_ | refine XWp.ret ?_)
      exact ⟨rfl, wf.ext_set c4 (Nat.le_succ _) _, Heap.set_at _ _ _⟩
    · repeat (first | refine XL.nil ?_ | refine XWp.seq ?_ | refine XWp.region ?_ | refine XWp.condF rfl ?_ | refine XWp.skip ?_ | refine XL.set rfl rfl rfl (op_moveI rfl ?_) | refine XL.set rfl rfl rfl (op_moveB rfl ?_) | refine XL.set rfl rfl rfl (op_moveStr rfl ?_) | refine XL.set rfl rfl rfl (op_load rfl rfl c1 rfl ?_) | refine XL.set rfl rfl rfl (op_load rfl rfl c3 rfl ?_) | refine XL.set rfl rfl rfl (op_pick (v := .bool _) rfl rfl ?_) | refine XL.set rfl rfl rfl (op_callS rfl rfl cN ?_) | refine XL.set rfl rfl rfl (op_sNeF rfl rfl rfl ?_) | refine XL.set rfl rfl rfl (op_intF rfl rfl rfl (by omega) ?_))
      exact ⟨⟨c4, c3, c2, c1⟩, c5⟩
  · rintro H hn hY
    repeat (first | refine XWp.seq ?_ | refine XWp.region ?_ | refine XL.set rfl rfl rfl (op_load rfl rfl hY.cnt rfl ?_) | refine XL.set rfl rfl rfl (op_intT rfl rfl rfl (by omega) ?_))
    refine XL.eff rfl rfl (op_store (v := .bool true) rfl rfl rfl hY.res rfl (Nat.zero_lt_one) ?_)
    repeat (first | refine XL.nil ?_ | refine XWp.ret ?_)
    exact ⟨_, ResV.cell rfl rfl rfl (Heap.set_at _ _ _) rfl, rfl, wf.ext_set hY.ext (Nat.le_succ _) _, rfl, rfl⟩
  · rintro H j hn ⟨rfl, hx, hc⟩
    repeat (first | refine XWp.ret ?_)
    exact ⟨_, ResV.cell rfl rfl rfl hc rfl, rfl, hx, rfl, rfl⟩
theorem kinds_walk (n : Int) (h : Heap) (t : Tabs h) (h8 : 8 ≤ h.next) : ACalls Tryz.prog 6 [.int .i64 n] h fun u h' => u = .bool true ∧ h' = h := by
  refine ACalls.body Tryz.func6 rfl rfl ?_
  repeat (first | refine AL.nil ?_ | refine AWp.seq ?_ | refine AWp.region ?_ | refine AWp.ret ?_ | refine AL.set rfl rfl (op_moveI rfl ?_) | refine AL.set rfl rfl (op_moveB rfl ?_) | refine AL.set rfl rfl (op_assignB rfl ?_) | refine AL.set rfl rfl (op_callS rfl rfl (once_c n h t) ?_) | refine AL.set rfl rfl (op_callS rfl rfl (once_c 0 h t) ?_) | refine AL.set rfl rfl (op_callS rfl rfl (lknown_c h t h8) ?_) | refine AL.set rfl rfl (op_pick (v := .bool _) rfl rfl ?_))
  exact ⟨_, ResV.tmp rfl, rfl, rfl⟩
end Go.Proofs.YtigmojilaadbhaaGreatDoor

/-
  The engine: what plain arguments read avs, by the forms that contracts ask for.
-/
namespace Go.Eng
open Go

section
variable {P : Program} {h : Heap} {n : Nat} {t e : TypeId} {cs : List Value}
theorem Rd.int {k : IntKind} (hu : P.underlying t = some (.int k)) (r : Rd P h (n + 1) t cs) : ∃ a, cs = [.int k a] ∧ (Lit.int k a).wf = true := by
  unfold Rd at r
  rw [hu] at r
  exact r
theorem RdV.cell {v : Value} (hw : wholeB (P.underlying t) = false) (r : RdV P h n t v) : Rd P h n t [v] := by
  unfold RdV at r
  rw [hw] at r
  exact r
end
end Go.Eng

/-
  Scripts: what comes in, read.
-/
namespace Go.Proofs.YtigmojilaadbhaaGreatDoor
open Go Go.Eng Go.Pln Go.Lib
attribute [local irreducible] Rd RdV AWp AL DAL AOp TAL

def entX (x : EntM × Value × Value) : List Value := [x.2.1, .int .i64 x.1.seq, .int .i64 x.1.kind, x.2.2]
theorem int_in {h : Heap} {v : Value} (r : RdV Tryz.prog h 9 3 v) : ∃ a, v = .int .i64 a ∧ (Lit.int .i64 a).wf = true := by
  obtain ⟨a, h1, h2⟩ := (r.cell (by rw [Tryz.underlying3]; rfl)).int Tryz.underlying3
  cases h1
  exact ⟨a, rfl, h2⟩
end Go.Proofs.YtigmojilaadbhaaGreatDoor

/-
  The engine: a law over variables that are laid, told how many variables there are.
-/
namespace Go.Eng
open Go

section
variable {P : Program} {W : World} {H : Type} {enc : TypeId × Value → H}
theorem law_laidN {f : FuncId} {n : Nat} {ts : List TypeId} {args : Array Value} {ds : List (DataW H)} {ps : List MemPlace} {r : Reach} {base : Nat} {held : Bool} (T : List (Nat × Blk)) (hT : (T.map (·.1)).Nodup)
    (ht : ∀ x ∈ T, Told P W x.1 x.2) (h0 : DataW.TrodAll enc P W 0 (fun _ => true) held ts args.toList ds ps)
    (hp : ∀ t ∈ ts, plainT P (n + 1) t = true) (hk : ∀ (j : Nat) t v, ts[j]? = some t → args.toList[j]? = some v → Value.okWide P W r base t v) (hs : (DataW.weightsEach P ts ds).all (· ≤ reachBytes) = true)
    (p : ∀ h avs, P.globals.size ≤ h.next → avs.length = ts.length → (∀ (j : Nat) t a, ts[j]? = some t → avs[j]? = some a → RdV P h (n + 1) t a) → (∀ x ∈ T, h.get x.1 = some x.2) → ACalls P f avs h fun v _ => v = .bool true) :
    Calls P f args W fun e W' => e = .returned (.bool true) ∧ Go.RowKit.Below W.heap.size W W' := by
  obtain ⟨bs, avs, r1, v1, d1⟩ := opens_args (G := P.globals.size) (n := n) (fun _ => rfl) ts args.toList ds ps h0 hp hk hs []
  rw [List.nil_append] at r1 v1 d1
  have hlen : args.toList.length = ts.length := trodAll_len h0
  obtain ⟨h', q1, q2, q3, q4, q5⟩ := tells T (roSim r1) roHeap_free (fun x hx => by
    have a := ht x hx
    exact ⟨a, by simp only [roHeap]; rw [if_pos a.isg]⟩) hT
  have hn : P.globals.size ≤ h'.next := by
    rw [q3]
    show P.globals.size ≤ P.globals.size + bs.length
    omega
  have := law_free (args := avs) (cargs := args.toList) q1 q2 (q3 ▸ v1) (p _ avs hn (by rw [v1.length, hlen]) (fun j t a hj hja => (d1 j t a hj hja).ext q4) q5)
  simpa using this
end
end Go.Eng

/-
  Scripts: the variables that are laid, told «to» the engine.
-/
namespace Go.Proofs.YtigmojilaadbhaaGreatDoor
open Go Go.Eng Go.Lib

noncomputable abbrev laidL : List (String × DataW Unit) := Rows.scriptUnlinesRow.laid
def tabsT : List (Nat × Blk) := [(powG, tabB .u64 Lib.pow10Tab), (spaceG, tabB .u8 Lib.asciiSpaceTab), (synG, errB 262), (rngG, errB 262)]
theorem tabsT_nodup : (tabsT.map (·.1)).Nodup := by decide
theorem star : "*" ++ "errors.errorString" = "*errors.errorString" := by decide
theorem star_row (u : TypeId) (h : Tryz.prog.typeName? 3 u = some "*errors.errorString") : u = 262 :=
  typeName_ptr_named (nm := "errors.errorString") (by rw [star]; kernel_rfl) (by kernel_rfl) (by decide) u (by rw [star]; exact h)
theorem laid_plain {W : World} (h : laidMetH Tryz.prog laidL W) : laidMet Tryz.prog laidL W := by
  rwa [MakeChecks.laidMetH_plain _ _ _ (by kernel_rfl)] at h
theorem told_of_tab {W : World} {name : String} {g : Nat} {k : IntKind} {zs : List Int} (hn : Tryz.prog.globalNamed name = some g) (hg : g < Tryz.prog.globals.size) (h : TabIs Tryz.prog W name k zs) : Go.Eng.Told Tryz.prog W g (tabB k zs) := by
  unfold TabIs World.var? at h
  rw [hn] at h
  simp only [Option.bind_some] at h
  cases hw : W.heap[g]? with
  | none => rw [hw] at h; cases h
  | some o =>
    rw [hw] at h
    cases o <;> try (cases h; done)
    rename_i cs t fr
    cases h
    exact told_tab (t := t) (fr := fr) hg hw
theorem told_of_err {W : World} {name : String} {g : Nat} {d : DataW Unit} {rest : List (String × DataW Unit)} (hn : Tryz.prog.globalNamed name = some g) (hg : g < Tryz.prog.globals.size) (hty : (Tryz.prog.globals[g]?).map (·.type) = some 131)
    (h : laidMet Tryz.prog ((name, .iface "*errors.errorString" d) :: rest) W) : Go.Eng.Told Tryz.prog W g (errB 262) := by
  obtain ⟨ps, ⟨g', t', cs, fuel, p, q, hg', ht', hvar, hd, _, _⟩, _⟩ := h
  obtain rfl := Option.some.inj (hn.symm.trans hg')
  obtain rfl := Option.some.inj (hty.symm.trans ht')
  obtain ⟨_, u, v, hcs, hu, _⟩ := iface_of_trod Tryz.underlying131 hd
  obtain rfl := star_row u hu
  refine told_err (v := v) hg ?_
  have := World.var?_cell hn hvar 0
  rw [Array.eq_one_of_toList hcs] at this
  simpa using this
theorem told_tabs {W : World} (h : laidMetH Tryz.prog laidL W) : ∀ x ∈ tabsT, Go.Eng.Told Tryz.prog W x.1 x.2 := by
  have hp := laid_plain h
  have h1 := hp.filter fun x => x.1 == "internal/strconv.uint64pow10"
  have h2 := hp.filter fun x => x.1 == "strings.asciiSpace"
  have h3 := hp.filter fun x => x.1 == "strconv.ErrSyntax"
  have h4 := hp.filter fun x => x.1 == "strconv.ErrRange"
  rw [show laidL.filter (fun x => x.1 == "internal/strconv.uint64pow10") = [("internal/strconv.uint64pow10", Lib.tabData .u64 Lib.pow10Tab)] by kernel_rfl] at h1
  rw [show laidL.filter (fun x => x.1 == "strings.asciiSpace") = [("strings.asciiSpace", Lib.tabData .u8 Lib.asciiSpaceTab)] by kernel_rfl] at h2
  rw [show laidL.filter (fun x => x.1 == "strconv.ErrSyntax") = [("strconv.ErrSyntax", Rows.laid_strconv_ErrSyntax)] by kernel_rfl] at h3
  rw [show laidL.filter (fun x => x.1 == "strconv.ErrRange") = [("strconv.ErrRange", Rows.laid_strconv_ErrRange)] by kernel_rfl] at h4
  intro x hx
  simp only [tabsT, List.mem_cons, List.not_mem_nil, or_false] at hx
  rcases hx with rfl | rfl | rfl | rfl
  · exact told_of_tab pow_n (by decide +kernel) (tabIs_of_head pow_n (t := 252) (e := 221) (n := 20) (by kernel_rfl) Tryz.underlying252 Tryz.underlying221 (by kernel_rfl) (by kernel_rfl) h1)
  · exact told_of_tab space_n (by decide +kernel) (tabIs_of_head space_n (t := 184) (e := 5) (n := 256) (by kernel_rfl) Tryz.underlying184 Tryz.underlying5 (by kernel_rfl) (by kernel_rfl) h2)
  · exact told_of_err (name := "strconv.ErrSyntax") (by kernel_rfl) (by decide +kernel) (by kernel_rfl) h3
  · exact told_of_err (name := "strconv.ErrRange") (by kernel_rfl) (by decide +kernel) (by kernel_rfl) h4
theorem tabs_of {h : Heap} (ht : ∀ x ∈ tabsT, h.get x.1 = some x.2) : Tabs h :=
  ⟨ht (powG, tabB .u64 Lib.pow10Tab) (by simp [tabsT]), ht (spaceG, tabB .u8 Lib.asciiSpaceTab) (by simp [tabsT]), ht (synG, errB 262) (by simp [tabsT]), ht (rngG, errB 262) (by simp [tabsT])⟩
theorem door_met (os : Os) (args : Array Value) : laidMetH Tryz.prog laidL ((World.doorLaid Tryz.prog 86 os).forCall (fun _ _ => 0) ⟨#[], args, []⟩).memory :=
  laidMetH_of_parts3 (fuel := 8) (laidMet_of_run' 8 (by kernel_rfl) (by kernel_rfl)) (by kernel_rfl) (by kernel_rfl)
end Go.Proofs.YtigmojilaadbhaaGreatDoor

/-
  Scripts: the door's own heap may be a world.
-/
namespace Go.Proofs.YtigmojilaadbhaaGreatDoor
open Go Go.Eng Go.Lib

theorem door_shaped (os : Os) (args : Array Value) : ((World.doorLaid Tryz.prog 86 os).forCall (fun _ _ => 0) ⟨#[], args, []⟩).Shaped Tryz.prog := World.shaped_of_RefB (by kernel_rfl) (by kernel_rfl)
end Go.Proofs.YtigmojilaadbhaaGreatDoor
