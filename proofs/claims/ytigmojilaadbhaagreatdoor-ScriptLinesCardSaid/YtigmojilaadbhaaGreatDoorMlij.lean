/-
  Texts of one claim, merged: 8 parts.
-/
import Derived.Test.YtigmojilaadbhaaGreatDoorMlii
import Derived.Test.YtigmojilaadbhaaGreatDoorMlih
import Derived.Test.YtigmojilaadbhaaGreatDoorMlie
import Derived.Test.YtigmojilaadbhaaGreatDoorMlig
/-
 Scripts: commands and acts, their cells; moves, entries and commands, the same.
-/
namespace Go.Proofs.YtigmojilaadbhaaGreatDoor
open Go Go.Eng Go.Pln Go.Lib
attribute [local irreducible] AWp AL DAL AOp

instance i_TyD_int64 : TyD Tryz.prog 2 (.int .i64) := ⟨Tryz.underlying2⟩
instance i_TyI_int64 : TyI Tryz.prog 2 1 8 (.int .i64 0) := ⟨qaO (by kernel_rfl), rfl, rfl⟩
instance i_TyD_api_CmdKind : TyD Tryz.prog 30 (.int .i64) := ⟨Tryz.underlying30⟩
instance i_TyI_api_CmdKind : TyI Tryz.prog 30 1 8 (.int .i64 0) := ⟨qaO (by kernel_rfl), rfl, rfl⟩
instance i_TyD_api_Kind : TyD Tryz.prog 169 (.int .i64) := ⟨Tryz.underlying169⟩
instance i_TyI_api_Kind : TyI Tryz.prog 169 1 8 (.int .i64 0) := ⟨qaO (by kernel_rfl), rfl, rfl⟩
instance i_TyD_api_ActKind : TyD Tryz.prog 25 (.int .i64) := ⟨Tryz.underlying25⟩
instance i_TyI_api_ActKind : TyI Tryz.prog 25 1 8 (.int .i64 0) := ⟨qaO (by kernel_rfl), rfl, rfl⟩
instance i_TyD_api_Errno : TyD Tryz.prog 48 (.int .i64) := ⟨Tryz.underlying48⟩
instance i_TyI_api_Errno : TyI Tryz.prog 48 1 8 (.int .i64 0) := ⟨qaO (by kernel_rfl), rfl, rfl⟩
instance i_TyD_api_Request : TyD Tryz.prog 32 (.struct #[fd "Client" 3 0 "" 0, fd "Number" 2 1 "" 8, fd "Ask" 29 2 "" 16]) := ⟨Tryz.underlying32⟩
instance i_TyI_api_Request : TyI Tryz.prog 32 9 136 (.agg #[.int .i64 0, .int .i64 0, .int .i64 0, .slice none 0 0, .slice none 0 0, .slice none 0 0, .slice none 0 0, .bool false, .int .i64 0]) := ⟨qaO (by kernel_rfl), rfl, rfl⟩
instance i_StD_api_Request : StD Tryz.prog 32 [(0, 1), (1, 1), (2, 7)] := ⟨_, Tryz.underlying32, by kernel_rfl⟩
instance qfQ : FAd Tryz.prog 32 0 0 := FAd.mk' (ft := 3) Tryz.underlying32 rfl rfl rfl rfl
instance qft : FAd Tryz.prog 32 1 1 := FAd.mk' (ft := 2) Tryz.underlying32 rfl rfl rfl rfl
instance qf5 : FAd Tryz.prog 32 2 2 := FAd.mk' (ft := 29) Tryz.underlying32 rfl rfl rfl rfl
instance i_TyD_api_Move : TyD Tryz.prog 34 (.struct #[fd "Number" 2 0 "" 0, fd "From" 27 1 "" 8, fd "To" 27 2 "" 32, fd "End" 4 3 "" 56, fd "Old" 3 4 "" 64, fd "New" 3 5 "" 72]) := ⟨Tryz.underlying34⟩
instance i_TyI_api_Move : TyI Tryz.prog 34 6 80 (.agg #[.int .i64 0, .slice none 0 0, .slice none 0 0, .bool false, .int .i64 0, .int .i64 0]) := ⟨qaO (by kernel_rfl), rfl, rfl⟩
instance qg6 : FAd Tryz.prog 34 0 0 := FAd.mk' (ft := 2) Tryz.underlying34 rfl rfl rfl rfl
instance qhh : FAd Tryz.prog 34 1 1 := FAd.mk' (ft := 27) Tryz.underlying34 rfl rfl rfl rfl
instance qhc : FAd Tryz.prog 34 2 2 := FAd.mk' (ft := 27) Tryz.underlying34 rfl rfl rfl rfl
instance qhb : FAd Tryz.prog 34 3 3 := FAd.mk' (ft := 4) Tryz.underlying34 rfl rfl rfl rfl
instance qhJ : FAd Tryz.prog 34 4 4 := FAd.mk' (ft := 3) Tryz.underlying34 rfl rfl rfl rfl
instance qhC : FAd Tryz.prog 34 5 5 := FAd.mk' (ft := 3) Tryz.underlying34 rfl rfl rfl rfl
instance i_TyD_api_Entry : TyD Tryz.prog 171 (.struct #[fd "Key" 27 0 "" 0, fd "Seq" 2 1 "" 24, fd "Kind" 169 2 "" 32, fd "Value" 27 3 "" 40]) := ⟨Tryz.underlying171⟩
instance i_TyI_api_Entry : TyI Tryz.prog 171 4 64 (.agg #[.slice none 0 0, .int .i64 0, .int .i64 0, .slice none 0 0]) := ⟨qaO (by kernel_rfl), rfl, rfl⟩
instance qgQ : FAd Tryz.prog 171 0 0 := FAd.mk' (ft := 27) Tryz.underlying171 rfl rfl rfl rfl
instance qgZ : FAd Tryz.prog 171 1 1 := FAd.mk' (ft := 2) Tryz.underlying171 rfl rfl rfl rfl
instance qgq : FAd Tryz.prog 171 2 2 := FAd.mk' (ft := 169) Tryz.underlying171 rfl rfl rfl rfl
instance qgl : FAd Tryz.prog 171 3 3 := FAd.mk' (ft := 27) Tryz.underlying171 rfl rfl rfl rfl
instance qhH : TyD Tryz.prog 35 (.slice 171) := ⟨Tryz.underlying35⟩
instance qhy : TyI Tryz.prog 35 1 24 (.slice none 0 0) := ⟨qaO (by kernel_rfl), rfl, rfl⟩
instance i_TyD_api_Command : TyD Tryz.prog 37 (.struct #[fd "Kind" 30 0 "" 0, fd "Request" 32 1 "" 8, fd "Move" 34 10 "" 144, fd "Entries" 35 16 "" 224, fd "Answers" 27 17 "" 248, fd "Key" 27 18 "" 272, fd "Group" 3 19 "" 296]) := ⟨Tryz.underlying37⟩
instance i_TyI_api_Command : TyI Tryz.prog 37 20 304 (.agg #[.int .i64 0, .int .i64 0, .int .i64 0, .int .i64 0, .slice none 0 0, .slice none 0 0, .slice none 0 0, .slice none 0 0, .bool false, .int .i64 0, .int .i64 0, .slice none 0 0, .slice none 0 0, .bool false, .int .i64 0, .int .i64 0, .slice none 0 0, .slice none 0 0, .slice none 0 0, .int .i64 0]) := ⟨qaO (by kernel_rfl), rfl, rfl⟩
instance i_StD_api_Command : StD Tryz.prog 37 [(0, 1), (1, 9), (10, 6), (16, 1), (17, 1), (18, 1), (19, 1)] := ⟨_, Tryz.underlying37, by kernel_rfl⟩
instance qfz : FAd Tryz.prog 37 0 0 := FAd.mk' (ft := 30) Tryz.underlying37 rfl rfl rfl rfl
instance qfG : FAd Tryz.prog 37 1 1 := FAd.mk' (ft := 32) Tryz.underlying37 rfl rfl rfl rfl
instance qfl : FAd Tryz.prog 37 2 10 := FAd.mk' (ft := 34) Tryz.underlying37 rfl rfl rfl rfl
instance qfr : FAd Tryz.prog 37 3 16 := FAd.mk' (ft := 35) Tryz.underlying37 rfl rfl rfl rfl
instance qfo : FAd Tryz.prog 37 4 17 := FAd.mk' (ft := 27) Tryz.underlying37 rfl rfl rfl rfl
instance qfj : FAd Tryz.prog 37 5 18 := FAd.mk' (ft := 27) Tryz.underlying37 rfl rfl rfl rfl
instance qfp : FAd Tryz.prog 37 6 19 := FAd.mk' (ft := 3) Tryz.underlying37 rfl rfl rfl rfl
instance i_TyD_api_Kept : TyD Tryz.prog 79 (.struct #[fd "Name" 9 0 "" 0, fd "Loose" 3 1 "" 16]) := ⟨Tryz.underlying79⟩
instance i_TyI_api_Kept : TyI Tryz.prog 79 2 24 (.agg #[.string ⟨#[]⟩, .int .i64 0]) := ⟨qaO (by kernel_rfl), rfl, rfl⟩
instance i_StD_api_Kept : StD Tryz.prog 79 [(0, 1), (1, 1)] := ⟨_, Tryz.underlying79, by kernel_rfl⟩
instance qhd : FAd Tryz.prog 79 0 0 := FAd.mk' (ft := 9) Tryz.underlying79 rfl rfl rfl rfl
instance qg9 : FAd Tryz.prog 79 1 1 := FAd.mk' (ft := 3) Tryz.underlying79 rfl rfl rfl rfl
instance i_TyD_Sl_api_Kept : TyD Tryz.prog 38 (.slice 79) := ⟨Tryz.underlying38⟩
instance i_TyI_Sl_api_Kept : TyI Tryz.prog 38 1 24 (.slice none 0 0) := ⟨qaO (by kernel_rfl), rfl, rfl⟩
instance i_TyD_api_Act : TyD Tryz.prog 40 (.struct #[fd "Kind" 25 0 "" 0, fd "Node" 3 1 "" 8, fd "Group" 3 2 "" 16, fd "Client" 3 3 "" 24, fd "N" 3 4 "" 32, fd "Ask" 29 5 "" 40, fd "Command" 37 12 "" 160, fd "Keep" 38 32 "" 464]) := ⟨Tryz.underlying40⟩
instance i_TyI_api_Act : TyI Tryz.prog 40 33 488 (.agg #[.int .i64 0, .int .i64 0, .int .i64 0, .int .i64 0, .int .i64 0, .int .i64 0, .slice none 0 0, .slice none 0 0, .slice none 0 0, .slice none 0 0, .bool false, .int .i64 0, .int .i64 0, .int .i64 0, .int .i64 0, .int .i64 0, .slice none 0 0, .slice none 0 0, .slice none 0 0, .slice none 0 0, .bool false, .int .i64 0, .int .i64 0, .slice none 0 0, .slice none 0 0, .bool false, .int .i64 0, .int .i64 0, .slice none 0 0, .slice none 0 0, .slice none 0 0, .int .i64 0, .slice none 0 0]) := ⟨qaO (by kernel_rfl), rfl, rfl⟩
instance i_StD_api_Act : StD Tryz.prog 40 [(0, 1), (1, 1), (2, 1), (3, 1), (4, 1), (5, 7), (12, 20), (32, 1)] := ⟨_, Tryz.underlying40, by kernel_rfl⟩
instance i_FAd_api_Act_0_0 : FAd Tryz.prog 40 0 0 := FAd.mk' (ft := 25) Tryz.underlying40 rfl rfl rfl rfl
instance i_FAd_api_Act_1_1 : FAd Tryz.prog 40 1 1 := FAd.mk' (ft := 3) Tryz.underlying40 rfl rfl rfl rfl
instance i_FAd_api_Act_2_2 : FAd Tryz.prog 40 2 2 := FAd.mk' (ft := 3) Tryz.underlying40 rfl rfl rfl rfl
instance i_FAd_api_Act_3_3 : FAd Tryz.prog 40 3 3 := FAd.mk' (ft := 3) Tryz.underlying40 rfl rfl rfl rfl
instance i_FAd_api_Act_4_4 : FAd Tryz.prog 40 4 4 := FAd.mk' (ft := 3) Tryz.underlying40 rfl rfl rfl rfl
instance i_FAd_api_Act_5_5 : FAd Tryz.prog 40 5 5 := FAd.mk' (ft := 29) Tryz.underlying40 rfl rfl rfl rfl
instance qhf : FAd Tryz.prog 40 6 12 := FAd.mk' (ft := 37) Tryz.underlying40 rfl rfl rfl rfl
instance qhN : FAd Tryz.prog 40 7 32 := FAd.mk' (ft := 38) Tryz.underlying40 rfl rfl rfl rfl
instance i_TyD_Sl_api_Act : TyD Tryz.prog 42 (.slice 40) := ⟨Tryz.underlying42⟩
instance i_TyI_Sl_api_Act : TyI Tryz.prog 42 1 24 (.slice none 0 0) := ⟨qaO (by kernel_rfl), rfl, rfl⟩
structure MoveV where
 f : Value
 t : Value
structure CmdV where
 r : AskV
 m : MoveV
 e : Value
 n : Value
 k : Value
structure ActV where
 q : AskV
 c : CmdV
 k : Value
def moveC (q : MoveV) (m : MoveM) : List Value := [.int .i64 m.number, q.f, q.t, .bool m.end_, .int .i64 m.old, .int .i64 m.new]
def cmdC (q : CmdV) (c : CmdM) : List Value := [.int .i64 c.kind, .int .i64 c.req.client, .int .i64 c.req.number, .int .i64 c.req.ask.kind, q.r.k, q.r.t, q.r.v, q.r.w, .bool c.req.ask.none, .int .i64 c.req.ask.most,
 .int .i64 c.move.number, q.m.f, q.m.t, .bool c.move.end_, .int .i64 c.move.old, .int .i64 c.move.new, q.e, q.n, q.k, .int .i64 c.group]
def actC (q : ActV) (a : ActM) : List Value := [.int .i64 a.kind, .int .i64 a.node, .int .i64 a.group, .int .i64 a.client, .int .i64 a.n, .int .i64 a.ask.kind, q.q.k, q.q.t, q.q.v, q.q.w, .bool a.ask.none, .int .i64 a.ask.most,
 .int .i64 a.cmd.kind, .int .i64 a.cmd.req.client, .int .i64 a.cmd.req.number, .int .i64 a.cmd.req.ask.kind, q.c.r.k, q.c.r.t, q.c.r.v, q.c.r.w, .bool a.cmd.req.ask.none, .int .i64 a.cmd.req.ask.most,
 .int .i64 a.cmd.move.number, q.c.m.f, q.c.m.t, .bool a.cmd.move.end_, .int .i64 a.cmd.move.old, .int .i64 a.cmd.move.new, q.c.e, q.c.n, q.c.k, .int .i64 a.cmd.group, q.k]
structure MoveR (h : Heap) (q : MoveV) (m : MoveM) : Prop where
 f : RB h q.f m.from_
 t : RB h q.t m.to
def EntR (h : Heap) (row : List Value) (e : EntM) : Prop := ∃ kv vv, row = [kv, .int .i64 e.seq, .int .i64 e.kind, vv] ∧ RB h kv e.key ∧ RB h vv e.value
structure RE (h : Heap) (v : Value) (l : List EntM) : Prop where
 ex : ∃ rows, RN 4 h v rows ∧ rows.length = l.length ∧ ∀ (k : Nat) row e, rows[k]? = some row → l[k]? = some e → EntR h row e
 len : l.length ≤ 140737488351232
def keptR (x : Bytes × Int) : List Value := [str x.1, .int .i64 x.2]
structure RK (h : Heap) (v : Value) (l : List (Bytes × Int)) : Prop where
 rn : RN 2 h v (l.map keptR)
 len : l.length ≤ 140737488351232
structure CmdR (h : Heap) (q : CmdV) (c : CmdM) : Prop where
 r : AskR h q.r c.req.ask
 m : MoveR h q.m c.move
 e : RE h q.e c.entries
 n : RB h q.n c.answers
 k : RB h q.k c.key
structure ActR (h : Heap) (q : ActV) (a : ActM) : Prop where
 ra : AskR h q.q a.ask
 rc : CmdR h q.c a.cmd
 rk : RK h q.k a.keep
theorem MoveR.ext {h h' : Heap} {q : MoveV} {a : MoveM} (r : MoveR h q a) (hx : Ext h h') : MoveR h' q a := ⟨r.f.ext hx, r.t.ext hx⟩
theorem EntR.ext {h h' : Heap} {row : List Value} {e : EntM} (r : EntR h row e) (hx : Ext h h') : EntR h' row e := by
 obtain ⟨kv, vv, h1, h2, h3⟩ := r
 exact ⟨kv, vv, h1, h2.ext hx, h3.ext hx⟩
theorem RE.ext {h h' : Heap} {v : Value} {l : List EntM} (r : RE h v l) (hx : Ext h h') : RE h' v l := by
 obtain ⟨rows, h1, h2, h3⟩ := r.ex
 exact ⟨⟨rows, h1.ext hx, h2, fun k row e hr he => (h3 k row e hr he).ext hx⟩, r.len⟩
theorem RK.ext {h h' : Heap} {v : Value} {l : List (Bytes × Int)} (r : RK h v l) (hx : Ext h h') : RK h' v l := ⟨r.rn.ext hx, r.len⟩
theorem CmdR.ext {h h' : Heap} {q : CmdV} {a : CmdM} (r : CmdR h q a) (hx : Ext h h') : CmdR h' q a := ⟨r.r.ext hx, r.m.ext hx, r.e.ext hx, r.n.ext hx, r.k.ext hx⟩
theorem ActR.ext {h h' : Heap} {q : ActV} {a : ActM} (r : ActR h q a) (hx : Ext h h') : ActR h' q a := ⟨r.ra.ext hx, r.rc.ext hx, r.rk.ext hx⟩
theorem RE.nil (h : Heap) : RE h (.slice none 0 0) [] := ⟨⟨[], RN.nil _ _, rfl, fun k row e hr => by simp at hr⟩, Nat.zero_le _⟩
theorem RK.nil (h : Heap) : RK h (.slice none 0 0) [] := ⟨RN.nil _ _, Nat.zero_le _⟩
def askV0 : AskV := ⟨.slice none 0 0, .slice none 0 0, .slice none 0 0, .slice none 0 0⟩
def cmdV0 : CmdV := ⟨askV0, ⟨.slice none 0 0, .slice none 0 0⟩, .slice none 0 0, .slice none 0 0, .slice none 0 0⟩
def actV0 : ActV := ⟨askV0, cmdV0, .slice none 0 0⟩
theorem AskR.nil (h : Heap) : AskR h askV0 ask0 := ⟨RB.nil h, RB.nil h, RB.nil h, RB.nil h⟩
theorem CmdR.nil (h : Heap) : CmdR h cmdV0 cmd0 := ⟨AskR.nil h, ⟨RB.nil h, RB.nil h⟩, RE.nil h, RB.nil h, RB.nil h⟩
theorem ActR.nil (h : Heap) : ActR h actV0 act0 := ⟨AskR.nil h, CmdR.nil h, RK.nil h⟩
end Go.Proofs.YtigmojilaadbhaaGreatDoor

/-
 Scripts: moves, entries and commands, the same.
-/
namespace Go.Proofs.YtigmojilaadbhaaGreatDoor
open Go Go.Eng Go.Pln Go.Lib
attribute [local irreducible] AWp AL DAL AOp

instance qe5 : FnC Tryz.prog 145 := ⟨Tryz.f145, Tryz.func145, by kernel_rfl, by kernel_rfl⟩
instance qdm : FnC Tryz.prog 146 := ⟨Tryz.f146, Tryz.func146, by kernel_rfl, by kernel_rfl⟩
instance qds : FnC Tryz.prog 111 := ⟨Tryz.f111, Tryz.func111, by kernel_rfl, by kernel_rfl⟩
theorem qhD {a b : MoveM} : a = b ↔ a.number = b.number ∧ a.from_ = b.from_ ∧ a.to = b.to ∧ a.end_ = b.end_ ∧ a.old = b.old ∧ a.new = b.new := by
 cases a; cases b; simp
theorem ent_ext {a b : EntM} : a = b ↔ a.key = b.key ∧ a.seq = b.seq ∧ a.kind = b.kind ∧ a.value = b.value := by
 cases a; cases b; simp
theorem cmd_ext {a b : CmdM} : a = b ↔ a.kind = b.kind ∧ a.req.client = b.req.client ∧ a.req.number = b.req.number ∧ a.req.ask = b.req.ask ∧ a.move = b.move ∧ a.entries = b.entries ∧ a.answers = b.answers ∧ a.key = b.key ∧ a.group = b.group := by
 obtain ⟨_, ⟨_, _, _⟩, _, _, _, _, _⟩ := a
 obtain ⟨_, ⟨_, _, _⟩, _, _, _, _, _⟩ := b
 simp [and_assoc]
theorem act_ext {a b : ActM} : a = b ↔ a.kind = b.kind ∧ a.node = b.node ∧ a.group = b.group ∧ a.client = b.client ∧ a.n = b.n ∧ a.ask = b.ask ∧ a.cmd = b.cmd ∧ a.keep = b.keep := by
 cases a; cases b; simp
set_option maxHeartbeats 4000000 in
theorem sameMove_c (p q : MoveV) (a b : MoveM) (h : Heap) (ra : MoveR h p a) (rb : MoveR h q b) : ACalls Tryz.prog 146 [.agg (moveC p a).toArray, .agg (moveC q b).toArray] h fun u h' => u = .bool (decide (a = b)) ∧ h' = h := by
 refine ACalls.wf fun wf => ACalls.reset ?_
 refine ACalls.body Tryz.func146 rfl rfl ?_
 repeat (first | refine AL.nil ?_ | refine AWp.seq ?_ | refine AWp.r9 ?_ | refine AL.set rfl rfl (qaa rfl ?_) | refine AL.set rfl rfl (qaL rfl (by intro e; cases e) ?_))
 generalize hH : h.alloc _ = H1
 have hg0 : H1.get h.next = some ⟨moveC p a, 34, true⟩ := hH ▸ Heap.alloc_new _ _
 have hx1 : Ext h H1 := hH ▸ wf.ext _
 have wf1 : WF H1 := hH ▸ wf.alloc _
 skip
 generalize hH2 : H1.alloc _ = H
 have hg2 : H.get H1.next = some ⟨moveC q b, 34, true⟩ := hH2 ▸ Heap.alloc_new _ _
 have hx2 : Ext H1 H := hH2 ▸ wf1.ext _
 have hg1 : H.get h.next = some ⟨moveC p a, 34, true⟩ := hx2.c _ _ hg0
 have hx : Ext h H := hx1.trans hx2
 clear hH hH2
 obtain ⟨a1, a2⟩ := ra.ext hx
 obtain ⟨b1, b2⟩ := rb.ext hx
 repeat' (first | refine AL.nil ?_ | refine AL.skip rfl rfl ?_ | refine AWp.ret ?_ | refine AL.set rfl rfl (qag rfl ?_) | refine AL.set rfl rfl (qaa rfl ?_) | refine AL.set rfl rfl (qao rfl ?_) | refine AL.set rfl rfl (qad rfl rfl hg1 rfl ?_) | refine AL.set rfl rfl (qad rfl rfl hg2 rfl ?_) | refine AL.set rfl rfl (qaN rfl rfl (qco _ _ _ _ _ (by assumption) (by assumption)) (fun c => ?_) (fun c => ?_)) | refine AL.set rfl rfl (qev rfl rfl (fun c => ?_) (fun c => ?_)) | refine AL.set rfl rfl (qaM rfl rfl rfl (fun c => ?_) (fun c => ?_)) | refine AL.set rfl rfl (qai (v := .bool _) rfl rfl ?_))
 all_goals refine ⟨_, ResV.tmp rfl, rfl, hx, congrArg Value.bool ?_, rfl⟩
 all_goals grind [qhD]
def entC (kv vv : Value) (e : EntM) : List Value := [kv, .int .i64 e.seq, .int .i64 e.kind, vv]
set_option maxHeartbeats 4000000 in
theorem sameEnt_c (k1 v1 k2 v2 : Value) (a b : EntM) (h : Heap) (ra1 : RB h k1 a.key) (ra2 : RB h v1 a.value) (rb1 : RB h k2 b.key) (rb2 : RB h v2 b.value) : ACalls Tryz.prog 145 [.agg (entC k1 v1 a).toArray, .agg (entC k2 v2 b).toArray] h fun u h' => u = .bool (decide (a = b)) ∧ h' = h := by
 refine ACalls.wf fun wf => ACalls.reset ?_
 refine ACalls.body Tryz.func145 rfl rfl ?_
 repeat (first | refine AL.nil ?_ | refine AWp.seq ?_ | refine AWp.r9 ?_ | refine AL.set rfl rfl (qaa rfl ?_) | refine AL.set rfl rfl (qaL rfl (by intro e; cases e) ?_))
 generalize hH : h.alloc _ = H1
 have hg0 : H1.get h.next = some ⟨entC k1 v1 a, 171, true⟩ := hH ▸ Heap.alloc_new _ _
 have hx1 : Ext h H1 := hH ▸ wf.ext _
 have wf1 : WF H1 := hH ▸ wf.alloc _
 skip
 generalize hH2 : H1.alloc _ = H
 have hg2 : H.get H1.next = some ⟨entC k2 v2 b, 171, true⟩ := hH2 ▸ Heap.alloc_new _ _
 have hx2 : Ext H1 H := hH2 ▸ wf1.ext _
 have hg1 : H.get h.next = some ⟨entC k1 v1 a, 171, true⟩ := hx2.c _ _ hg0
 have hx : Ext h H := hx1.trans hx2
 clear hH hH2
 have a1 := ra1.ext hx
 have a2 := ra2.ext hx
 have b1 := rb1.ext hx
 have b2 := rb2.ext hx
 repeat' (first | refine AL.nil ?_ | refine AL.skip rfl rfl ?_ | refine AWp.ret ?_ | refine AL.set rfl rfl (qag rfl ?_) | refine AL.set rfl rfl (qaa rfl ?_) | refine AL.set rfl rfl (qao rfl ?_) | refine AL.set rfl rfl (qad rfl rfl hg1 rfl ?_) | refine AL.set rfl rfl (qad rfl rfl hg2 rfl ?_) | refine AL.set rfl rfl (qaN rfl rfl (qco _ _ _ _ _ (by assumption) (by assumption)) (fun c => ?_) (fun c => ?_)) | refine AL.set rfl rfl (qaM rfl rfl rfl (fun c => ?_) (fun c => ?_)) | refine AL.set rfl rfl (qai (v := .bool _) rfl rfl ?_))
 all_goals refine ⟨_, ResV.tmp rfl, rfl, hx, congrArg Value.bool ?_, rfl⟩
 all_goals grind [ent_ext]
theorem qdT {α : Type} {a b : List α} {k : Nat} {x y : α} (h : a.take k = b.take k) (hx : a[k]? = some x) (hy : b[k]? = some y) : a.take (k + 1) = b.take (k + 1) ↔ x = y := by
 rw [List.take_add_one, List.take_add_one, h, hx, hy]
 simp
set_option maxHeartbeats 4000000 in
theorem eqEnt_c (u v : Value) (a b : List EntM) (h : Heap) (ra : RE h u a) (rb : RE h v b) : ACalls Tryz.prog 144 [u, v, .func (.func 145) #[] #[]] h fun x h' => x = .bool (decide (a = b)) ∧ h' = h := by
 refine ACalls.wf fun wf => ACalls.reset ?_
 refine ACalls.body Tryz.func144 rfl rfl ?_
 obtain ⟨ro, r1, r2, r3⟩ := ra.ex
 obtain ⟨so, s1, s2, s3⟩ := rb.ex
 obtain ⟨ua, uc, hu⟩ := r1.slice
 obtain ⟨va, vc, hv⟩ := s1.slice
 by_cases hl : a.length = b.length
 ·
  repeat (first | refine AL.nil ?_ | refine AWp.seq ?_ | refine AWp.r9 ?_ | refine AWp.c9 rfl ?_ | refine AWp.b9 ?_ | refine AWp.k9 ?_ | refine AL.set rfl rfl (qac rfl ?_) | refine AL.set rfl rfl (qaa rfl ?_) | refine AL.set rfl rfl (qav r1 rfl ?_) | refine AL.set rfl rfl (qav s1 rfl ?_) | refine AL.set rfl rfl (qak rfl rfl rfl (by omega) ?_) | refine AL.set rfl rfl (qam (v := u) rfl ?_) | refine AL.set rfl rfl (qam (v := v) rfl ?_))
  refine AWp.loop (α := Nat × Heap) (fun d => [(0, u), (1, v), (2, .func (.func 145) #[] #[]), (15, u), (16, .int .i64 (ro.length : Nat)), (17, .int .i64 (d.1 : Nat))]) (fun d => d.2) (fun d => d.1 ≤ a.length ∧ a.take d.1 = b.take d.1 ∧ Ext h d.2 ∧ WF d.2) (fun d => a.length - d.1) (0, h) ⟨Nat.zero_le _, rfl, Ext.refl h, wf⟩ (Weak.same (EW.cons rfl (EW.cons rfl (EW.cons rfl (EW.cons rfl (EW.cons rfl (EW.cons rfl EW.nil))))))) ?_
  rintro ⟨k, H⟩ ⟨hk, hp, hx, wfH⟩
  replace hk : k ≤ a.length := hk
  replace hp : a.take k = b.take k := hp
  replace hx : Ext h H := hx
  replace wfH : WF H := wfH
  show AWp _ _ _ _ [(0, u), (1, v), (2, .func (.func 145) #[] #[]), (15, u), (16, .int .i64 (ro.length : Nat)), (17, .int .i64 (k : Nat))] H
  have hlen := ra.len
  by_cases hlt : k < a.length
  ·
   obtain ⟨x, hxa⟩ : ∃ x, a[k]? = some x := ⟨_, List.getElem?_eq_getElem hlt⟩
   obtain ⟨y, hyb⟩ : ∃ y, b[k]? = some y := ⟨_, List.getElem?_eq_getElem (by omega)⟩
   obtain ⟨p, hpa⟩ : ∃ p, ro[k]? = some p := ⟨_, List.getElem?_eq_getElem (by omega)⟩
   obtain ⟨q, hqb⟩ : ∃ q, so[k]? = some q := ⟨_, List.getElem?_eq_getElem (by omega)⟩
   obtain ⟨k1, v1, rfl, a1, a2⟩ := r3 k p x hpa hxa
   obtain ⟨k2, v2, rfl, b1, b2⟩ := s3 k q y hqb hyb
   have hte := qdT hp hxa hyb
   have o1 := a1.one
   have o2 := a2.one
   have o3 := b1.one
   have o4 := b2.one
   repeat (first | refine AL.nil ?_ | refine AWp.seq ?_ | refine AWp.r9 ?_ | refine AWp.c8 rfl ?_ | refine AWp.b9 ?_ | refine AWp.k9 ?_ | refine AL.set rfl rfl (qac rfl ?_) | refine AL.set rfl rfl (qaj rfl rfl rfl (by omega) ?_) | refine AL.set rfl rfl (qdQ (r1.ext hx) rfl rfl (by omega) (show ro[((k : Nat) : Int).toNat]? = some _ from hpa) ?_))
   intro pp hpp
   repeat (first | refine AL.nil ?_ | refine AWp.seq ?_ | refine AWp.r9 ?_ | refine AL.set rfl rfl (qac rfl ?_) | refine AL.set rfl rfl (qae rfl ?_) | refine AL.set rfl rfl (qaT hpp rfl rfl rfl ?_) | refine AL.set rfl rfl (qas ?_) | refine AL.eff rfl (qaF (vs := entC k1 v1 x) rfl rfl rfl rfl (by unfold entC; simp only [List.all_cons, o1.1, o2.1]; rfl) ?_) | refine AL.set rfl rfl (qam (by conv => lhs; whnf) ?_))
   have g1 := Heap.alloc_new H ⟨entC k1 v1 x, 171, true⟩
   have x1 := wfH.ext ⟨entC k1 v1 x, 171, true⟩
   have wf1 := wfH.alloc ⟨entC k1 v1 x, 171, true⟩
   generalize H.alloc ⟨entC k1 v1 x, 171, true⟩ = H1 at g1 x1 wf1 ⊢
   repeat (first | refine AL.set rfl rfl (qdQ (s1.ext (hx.trans x1)) rfl rfl (by omega) (show so[((k : Nat) : Int).toNat]? = some _ from hqb) ?_))
   intro qq hqq
   repeat (first | refine AL.nil ?_ | refine AWp.seq ?_ | refine AWp.r9 ?_ | refine AL.set rfl rfl (qaX rfl ?_) | refine AL.set rfl rfl (qaT hqq rfl rfl rfl ?_) | refine AL.set rfl rfl (qas ?_) | refine AL.eff rfl (qaF (vs := entC k2 v2 y) rfl rfl rfl rfl (by unfold entC; simp only [List.all_cons, o3.1, o4.1]; rfl) ?_))
   have g2 := Heap.alloc_new H1 ⟨entC k2 v2 y, 171, true⟩
   have x2 := wf1.ext ⟨entC k2 v2 y, 171, true⟩
   have wf2 := wf1.alloc ⟨entC k2 v2 y, 171, true⟩
   generalize H1.alloc ⟨entC k2 v2 y, 171, true⟩ = H2 at g2 x2 wf2 ⊢
   have hx2 := hx.trans (x1.trans x2)
   have ce := sameEnt_c k1 v1 k2 v2 x y H2 (a1.ext hx2) (a2.ext hx2) (b1.ext hx2) (b2.ext hx2)
   repeat' (first | refine AL.nil ?_ | refine AWp.seq ?_ | refine AWp.r9 ?_ | refine AWp.c8 rfl ?_ | refine AWp.c9 rfl ?_ | refine AWp.ret ?_ | refine AWp.k9 ?_ | refine AL.set rfl rfl (qac rfl ?_) | refine AL.set rfl rfl (qaa rfl ?_) | refine AL.set rfl rfl (qah (sz := 4) rfl rfl (x2.c _ _ g1) (Nat.le_refl _) ?_) | refine AL.set rfl rfl (qah (sz := 4) rfl rfl g2 (Nat.le_refl _) ?_) | refine AL.set rfl rfl (qaN rfl rfl ce (fun c => ?_) (fun c => ?_)) | refine AL.set rfl rfl (qax rfl rfl (by omega) ?_) | refine AL.set rfl rfl (qaH rfl ?_))
   ·
    exact ⟨(k + 1, H2), ⟨hlt, hte.2 (of_decide_eq_true c), hx2, wf2⟩, by show a.length - (k + 1) < a.length - k; omega, Weak.same (EW.cons rfl (EW.cons rfl (EW.cons rfl (EW.cons rfl (EW.cons rfl (EW.cons rfl EW.nil))))))⟩
   ·
    refine ⟨_, ResV.tmp rfl, rfl, hx2, congrArg Value.bool (decide_eq_false fun e => ?_).symm, rfl⟩
    exact of_decide_eq_false c (hte.1 (by rw [e]))
  ·
   obtain rfl : k = a.length := by omega
   rw [List.take_length, hl, List.take_length] at hp
   repeat (first | refine AL.nil ?_ | refine AWp.seq ?_ | refine AWp.r9 ?_ | refine AWp.c9 rfl ?_ | refine AWp.ret ?_ | refine AWp.exit ?_ | refine AL.set rfl rfl (qaa rfl ?_) | refine AL.set rfl rfl (qak rfl rfl rfl (by omega) ?_))
   exact ⟨_, ResV.tmp rfl, rfl, hx, congrArg Value.bool (decide_eq_true hp).symm, rfl⟩
 ·
  repeat (first | refine AL.nil ?_ | refine AWp.seq ?_ | refine AWp.r9 ?_ | refine AWp.c8 rfl ?_ | refine AWp.ret ?_ | refine AL.set rfl rfl (qaa rfl ?_) | refine AL.set rfl rfl (qav r1 rfl ?_) | refine AL.set rfl rfl (qav s1 rfl ?_) | refine AL.set rfl rfl (qaj rfl rfl rfl (by omega) ?_) | refine AL.set rfl rfl (qam (by conv => lhs; whnf) ?_))
  refine ⟨_, ResV.tmp rfl, rfl, Ext.refl h, congrArg Value.bool (decide_eq_false fun e => hl (by rw [e])).symm, rfl⟩
end Go.Proofs.YtigmojilaadbhaaGreatDoor

/-
 Scripts: commands, what a crash keeps, and acts, the same.
-/
namespace Go.Proofs.YtigmojilaadbhaaGreatDoor
open Go Go.Eng Go.Pln Go.Lib
attribute [local irreducible] AWp AL DAL AOp

instance qa5 : FnC Tryz.prog 144 := ⟨Tryz.f144, Tryz.func144, by kernel_rfl, by kernel_rfl⟩
instance qeb : FnC Tryz.prog 112 := ⟨Tryz.f112, Tryz.func112, by kernel_rfl, by kernel_rfl⟩
instance qbO : FnC Tryz.prog 113 := ⟨Tryz.f113, Tryz.func113, by kernel_rfl, by kernel_rfl⟩
instance qdD : FnC Tryz.prog 70 := ⟨Tryz.f70, Tryz.func70, by kernel_rfl, by kernel_rfl⟩
set_option maxHeartbeats 8000000 in
theorem qfT (p q : CmdV) (a b : CmdM) (h : Heap) (ra : CmdR h p a) (rb : CmdR h q b) : ACalls Tryz.prog 112 [.agg (cmdC p a).toArray, .agg (cmdC q b).toArray] h fun u h' => u = .bool (decide (a = b)) ∧ h' = h := by
 refine ACalls.wf fun wf => ACalls.reset ?_
 refine ACalls.body Tryz.func112 rfl rfl ?_
 repeat (first | refine AL.nil ?_ | refine AWp.seq ?_ | refine AWp.r9 ?_ | refine AL.set rfl rfl (qaa rfl ?_) | refine AL.set rfl rfl (qaL rfl (by intro e; cases e) ?_))
 generalize hH : h.alloc _ = H1
 have hg0 : H1.get h.next = some ⟨cmdC p a, 37, true⟩ := hH ▸ Heap.alloc_new _ _
 have hx1 : Ext h H1 := hH ▸ wf.ext _
 have wf1 : WF H1 := hH ▸ wf.alloc _
 skip
 generalize hH2 : H1.alloc _ = H
 have hg2 : H.get H1.next = some ⟨cmdC q b, 37, true⟩ := hH2 ▸ Heap.alloc_new _ _
 have hx2 : Ext H1 H := hH2 ▸ wf1.ext _
 have hg1 : H.get h.next = some ⟨cmdC p a, 37, true⟩ := hx2.c _ _ hg0
 have hx : Ext h H := hx1.trans hx2
 clear hH hH2
 obtain ⟨a1, a2, a3, a4, a5⟩ := ra.ext hx
 obtain ⟨b1, b2, b3, b4, b5⟩ := rb.ext hx
 have cA := qf6 p.r q.r a.req.ask b.req.ask H a1 b1
 have cM := sameMove_c p.m q.m a.move b.move H a2 b2
 have cE := eqEnt_c p.e q.e a.entries b.entries H a3 b3
 repeat' (first | refine AL.nil ?_ | refine AL.skip rfl rfl ?_ | refine AWp.seq ?_ | refine AWp.r9 ?_ | refine AWp.ret ?_ | refine AL.set rfl rfl (qag rfl ?_) | refine AL.set rfl rfl (qaa rfl ?_) | refine AL.set rfl rfl (qao rfl ?_) | refine AL.set rfl rfl (qad rfl rfl hg1 rfl ?_) | refine AL.set rfl rfl (qad rfl rfl hg2 rfl ?_) | refine AL.set rfl rfl (qah (sz := 7) rfl rfl hg1 (Nat.le_of_ble_eq_true rfl) ?_) | refine AL.set rfl rfl (qah (sz := 7) rfl rfl hg2 (Nat.le_of_ble_eq_true rfl) ?_) | refine AL.set rfl rfl (qah (sz := 6) rfl rfl hg1 (Nat.le_of_ble_eq_true rfl) ?_) | refine AL.set rfl rfl (qah (sz := 6) rfl rfl hg2 (Nat.le_of_ble_eq_true rfl) ?_) | refine AL.set rfl rfl (qaN rfl rfl cA (fun c => ?_) (fun c => ?_)) | refine AL.set rfl rfl (qaN rfl rfl cM (fun c => ?_) (fun c => ?_)) | refine AL.set rfl rfl (qaN rfl rfl cE (fun c => ?_) (fun c => ?_)) | refine AL.set rfl rfl (qaN rfl rfl (qco _ _ _ _ _ (by assumption) (by assumption)) (fun c => ?_) (fun c => ?_)) | refine AL.set rfl rfl (qaM rfl rfl rfl (fun c => ?_) (fun c => ?_)) | refine AL.set rfl rfl (qai (v := .bool _) rfl rfl ?_))
 all_goals refine ⟨_, ResV.tmp rfl, rfl, hx, congrArg Value.bool ?_, rfl⟩
 all_goals clear a1 a2 a3 a4 a5 b1 b2 b3 b4 b5 cA cM cE hg0 hg1 hg2 hx1 hx2 hx wf wf1 ra rb
 all_goals grind [cmd_ext]
end Go.Proofs.YtigmojilaadbhaaGreatDoor

/-
 Scripts: what a crash keeps, and acts, the same.
-/
namespace Go.Proofs.YtigmojilaadbhaaGreatDoor
open Go Go.Eng Go.Pln Go.Lib
attribute [local irreducible] AWp AL DAL AOp

instance i_EqD_api_Kept : EqD Tryz.prog 79 [(0, .string), (1, .int .i64)] := ⟨_, Tryz.underlying79, by kernel_rfl, by kernel_rfl, by kernel_rfl⟩
theorem qfw (x y : Bytes × Int) : eqRows [(0, .string), (1, .int .i64)] (keptR x) (keptR y) = decide (x = y) := by
 show (eqV (.string (bstr x.1)) (.string (bstr y.1)) && (eqV (.int .i64 x.2) (.int .i64 y.2) && true)) = _
 rw [eqV_str]
 obtain ⟨a, b⟩ := x
 obtain ⟨c, d⟩ := y
 rw [Bool.eq_iff_iff]
 simp [eqV]
set_option maxHeartbeats 4000000 in
theorem eqKept_c (u v : Value) (a b : List (Bytes × Int)) (h : Heap) (ra : RK h u a) (rb : RK h v b) : ACalls Tryz.prog 113 [u, v] h fun x h' => x = .bool (decide (a = b)) ∧ h' = h := by
 refine ACalls.body Tryz.func113 rfl rfl ?_
 have r1 := ra.rn
 have s1 := rb.rn
 obtain ⟨ua, uc, hu⟩ := r1.slice
 obtain ⟨va, vc, hv⟩ := s1.slice
 have l1 : (a.map keptR).length = a.length := List.length_map _
 have l2 : (b.map keptR).length = b.length := List.length_map _
 have hlen := ra.len
 by_cases hl : a.length = b.length
 ·
  repeat (first | refine AL.nil ?_ | refine AWp.seq ?_ | refine AWp.r9 ?_ | refine AWp.c9 rfl ?_ | refine AWp.b9 ?_ | refine AWp.k9 ?_ | refine AL.set rfl rfl (qac rfl ?_) | refine AL.set rfl rfl (qaa rfl ?_) | refine AL.set rfl rfl (qav r1 rfl ?_) | refine AL.set rfl rfl (qav s1 rfl ?_) | refine AL.set rfl rfl (qak rfl rfl rfl (by omega) ?_) | refine AL.set rfl rfl (qam (v := u) rfl ?_) | refine AL.set rfl rfl (qam (v := v) rfl ?_))
  refine AWp.loop (α := Nat) (fun k => [(0, u), (1, v), (12, .int .i64 ((a.map keptR).length : Nat)), (13, .int .i64 (k : Nat))]) (fun _ => h) (fun k => k ≤ a.length ∧ a.take k = b.take k) (fun k => a.length - k) 0 ⟨Nat.zero_le _, rfl⟩ (Weak.same (EW.cons rfl (EW.cons rfl (EW.cons rfl (EW.cons rfl EW.nil))))) ?_
  rintro k ⟨hk, hp⟩
  by_cases hlt : k < a.length
  ·
   obtain ⟨x, hxa⟩ : ∃ x, a[k]? = some x := ⟨_, List.getElem?_eq_getElem hlt⟩
   obtain ⟨y, hyb⟩ : ∃ y, b[k]? = some y := ⟨_, List.getElem?_eq_getElem (by omega)⟩
   have hx2 : (a.map keptR)[((k : Nat) : Int).toNat]? = some (keptR x) := by simp [hxa]
   have hy2 : (b.map keptR)[((k : Nat) : Int).toNat]? = some (keptR y) := by simp [hyb]
   have px := r1.elt hx2
   have py := s1.elt hy2
   have hte := qdT hp hxa hyb
   have heq := qfw x y
   by_cases hxy : x = y
   ·
    rw [decide_eq_true hxy] at heq
    repeat (first | refine AL.nil ?_ | refine AWp.seq ?_ | refine AWp.r9 ?_ | refine AWp.c8 rfl ?_ | refine AWp.b9 ?_ | refine AWp.k9 ?_ | refine AL.set rfl rfl (qac rfl ?_) | refine AL.set rfl rfl (qae rfl ?_) | refine AL.set rfl rfl (qaj rfl rfl rfl (by omega) ?_))
    refine AWp.draw (σ := [(0, .R), (1, .R), (2, .R), (3, .R), (4, .R), (5, .R), (6, .R), (7, .R), (8, .R)]) mixed (by kernel_rfl) ?_
    repeat (first | refine DAL.r rfl rfl rfl (fun h' hx hn => qac rfl ⟨rfl, rfl⟩) ?_ | refine DAL.r rfl rfl rfl (fun h' hx hn => qam (v := u) rfl ⟨rfl, rfl⟩) ?_ | refine DAL.r rfl rfl rfl (fun h' hx hn => qam (v := v) rfl ⟨rfl, rfl⟩) ?_ | refine DAL.r rfl rfl rfl (fun h' hx hn => qay (r1.ext hx) rfl rfl (by omega) hx2 ⟨rfl, rfl⟩) ?_ | refine DAL.r rfl rfl rfl (fun h' hx hn => qay (s1.ext hx) rfl rfl (by omega) hy2 ⟨rfl, rfl⟩) ?_ | refine DAL.r rfl rfl rfl (fun h' hx hn => qaT (px.ext hx) rfl rfl rfl ⟨rfl, rfl⟩) ?_ | refine DAL.r rfl rfl rfl (fun h' hx hn => qaT (py.ext hx) rfl rfl rfl ⟨rfl, rfl⟩) ?_ | refine DAL.r rfl rfl rfl (fun h' hx hn => qdA (xs := keptR x) (ys := keptR y) rfl rfl rfl heq ⟨rfl, rfl⟩) ?_)
    refine DAL.nil ?_
    repeat (first | refine AL.nil ?_ | refine AWp.r9 ?_ | refine AWp.c9 rfl ?_ | refine AWp.k9 ?_ | refine AL.set rfl rfl (qac rfl ?_) | refine AL.set rfl rfl (qax rfl rfl (by omega) ?_))
    exact ⟨k + 1, ⟨hlt, hte.2 hxy⟩, by omega, Weak.same (EW.cons rfl (EW.cons rfl (EW.cons rfl (EW.cons rfl EW.nil))))⟩
   ·
    rw [decide_eq_false hxy] at heq
    repeat (first | refine AL.nil ?_ | refine AWp.seq ?_ | refine AWp.r9 ?_ | refine AWp.c8 rfl ?_ | refine AWp.b9 ?_ | refine AWp.k9 ?_ | refine AL.set rfl rfl (qac rfl ?_) | refine AL.set rfl rfl (qae rfl ?_) | refine AL.set rfl rfl (qaj rfl rfl rfl (by omega) ?_))
    refine AWp.draw (σ := [(0, .R), (1, .R), (2, .R), (3, .R), (4, .R), (5, .R), (6, .R), (7, .R), (8, .R)]) mixed (by kernel_rfl) ?_
    repeat (first | refine DAL.r rfl rfl rfl (fun h' hx hn => qac rfl ⟨rfl, rfl⟩) ?_ | refine DAL.r rfl rfl rfl (fun h' hx hn => qam (v := u) rfl ⟨rfl, rfl⟩) ?_ | refine DAL.r rfl rfl rfl (fun h' hx hn => qam (v := v) rfl ⟨rfl, rfl⟩) ?_ | refine DAL.r rfl rfl rfl (fun h' hx hn => qay (r1.ext hx) rfl rfl (by omega) hx2 ⟨rfl, rfl⟩) ?_ | refine DAL.r rfl rfl rfl (fun h' hx hn => qay (s1.ext hx) rfl rfl (by omega) hy2 ⟨rfl, rfl⟩) ?_ | refine DAL.r rfl rfl rfl (fun h' hx hn => qaT (px.ext hx) rfl rfl rfl ⟨rfl, rfl⟩) ?_ | refine DAL.r rfl rfl rfl (fun h' hx hn => qaT (py.ext hx) rfl rfl rfl ⟨rfl, rfl⟩) ?_ | refine DAL.r rfl rfl rfl (fun h' hx hn => qdA (xs := keptR x) (ys := keptR y) rfl rfl rfl heq ⟨rfl, rfl⟩) ?_)
    refine DAL.nil ?_
    repeat (first | refine AL.nil ?_ | refine AWp.seq ?_ | refine AWp.r9 ?_ | refine AWp.c8 rfl ?_ | refine AWp.ret ?_ | refine AL.set rfl rfl (qaa rfl ?_))
    refine ⟨_, ResV.tmp rfl, congrArg Value.bool (decide_eq_false fun e => hxy (hte.1 (by rw [e]))).symm, rfl⟩
  ·
   obtain rfl : k = a.length := by omega
   rw [List.take_length, hl, List.take_length] at hp
   repeat (first | refine AL.nil ?_ | refine AWp.seq ?_ | refine AWp.r9 ?_ | refine AWp.c9 rfl ?_ | refine AWp.ret ?_ | refine AWp.exit ?_ | refine AL.set rfl rfl (qaa rfl ?_) | refine AL.set rfl rfl (qak rfl rfl rfl (by omega) ?_))
   exact ⟨_, ResV.tmp rfl, congrArg Value.bool (decide_eq_true hp).symm, rfl⟩
 ·
  repeat (first | refine AL.nil ?_ | refine AWp.seq ?_ | refine AWp.r9 ?_ | refine AWp.c8 rfl ?_ | refine AWp.ret ?_ | refine AL.set rfl rfl (qaa rfl ?_) | refine AL.set rfl rfl (qav r1 rfl ?_) | refine AL.set rfl rfl (qav s1 rfl ?_) | refine AL.set rfl rfl (qaj rfl rfl rfl (by omega) ?_) | refine AL.set rfl rfl (qam (by conv => lhs; whnf) ?_))
  exact ⟨_, ResV.tmp rfl, congrArg Value.bool (decide_eq_false fun e => hl (by rw [e])).symm, rfl⟩
set_option maxHeartbeats 8000000 in
theorem sameAct_c (p q : ActV) (a b : ActM) (h : Heap) (ra : ActR h p a) (rb : ActR h q b) : ACalls Tryz.prog 70 [.agg (actC p a).toArray, .agg (actC q b).toArray] h fun u h' => u = .bool (decide (a = b)) ∧ h' = h := by
 refine ACalls.wf fun wf => ACalls.reset ?_
 refine ACalls.body Tryz.func70 rfl rfl ?_
 repeat (first | refine AL.nil ?_ | refine AWp.seq ?_ | refine AWp.r9 ?_ | refine AL.set rfl rfl (qaa rfl ?_) | refine AL.set rfl rfl (qaL rfl (by intro e; cases e) ?_))
 generalize hH : h.alloc _ = H1
 have hg0 : H1.get h.next = some ⟨actC p a, 40, true⟩ := hH ▸ Heap.alloc_new _ _
 have hx1 : Ext h H1 := hH ▸ wf.ext _
 have wf1 : WF H1 := hH ▸ wf.alloc _
 skip
 generalize hH2 : H1.alloc _ = H
 have hg2 : H.get H1.next = some ⟨actC q b, 40, true⟩ := hH2 ▸ Heap.alloc_new _ _
 have hx2 : Ext H1 H := hH2 ▸ wf1.ext _
 have hg1 : H.get h.next = some ⟨actC p a, 40, true⟩ := hx2.c _ _ hg0
 have hx : Ext h H := hx1.trans hx2
 clear hH hH2
 obtain ⟨a1, a2, a3⟩ := ra.ext hx
 obtain ⟨b1, b2, b3⟩ := rb.ext hx
 have cA := qf6 p.q q.q a.ask b.ask H a1 b1
 have cM := qfT p.c q.c a.cmd b.cmd H a2 b2
 have cE := eqKept_c p.k q.k a.keep b.keep H a3 b3
 repeat' (first | refine AL.nil ?_ | refine AL.skip rfl rfl ?_ | refine AWp.seq ?_ | refine AWp.r9 ?_ | refine AWp.ret ?_ | refine AL.set rfl rfl (qag rfl ?_) | refine AL.set rfl rfl (qaa rfl ?_) | refine AL.set rfl rfl (qao rfl ?_) | refine AL.set rfl rfl (qad rfl rfl hg1 rfl ?_) | refine AL.set rfl rfl (qad rfl rfl hg2 rfl ?_) | refine AL.set rfl rfl (qah (sz := 7) rfl rfl hg1 (Nat.le_of_ble_eq_true rfl) ?_) | refine AL.set rfl rfl (qah (sz := 7) rfl rfl hg2 (Nat.le_of_ble_eq_true rfl) ?_) | refine AL.set rfl rfl (qah (sz := 20) rfl rfl hg1 (Nat.le_of_ble_eq_true rfl) ?_) | refine AL.set rfl rfl (qah (sz := 20) rfl rfl hg2 (Nat.le_of_ble_eq_true rfl) ?_) | refine AL.set rfl rfl (qaN rfl rfl cA (fun c => ?_) (fun c => ?_)) | refine AL.set rfl rfl (qaN rfl rfl cM (fun c => ?_) (fun c => ?_)) | refine AL.set rfl rfl (qaN rfl rfl cE (fun c => ?_) (fun c => ?_)) | refine AL.set rfl rfl (qaM rfl rfl rfl (fun c => ?_) (fun c => ?_)) | refine AL.set rfl rfl (qai (v := .bool _) rfl rfl ?_))
 all_goals refine ⟨_, ResV.tmp rfl, rfl, hx, congrArg Value.bool ?_, rfl⟩
 all_goals clear a1 a2 a3 b1 b2 b3 cA cM cE hg0 hg1 hg2 hx1 hx2 hx wf wf1 ra rb
 all_goals grind [act_ext]
end Go.Proofs.YtigmojilaadbhaaGreatDoor

/-
 The engine: bytes against bytes, by the model's own comparison.
-/
namespace Go.Eng
open Go

section
variable {P : Program} {ρ : Operand → Value} {h : Heap} {K : Value → Heap → Prop} {dst : Option Tmp} {ty : TypeId} {pos : String} {aft : Array Edge} {g : Option (Nat × Bool)}
theorem qcT {w : World} {b : Nat} : ∀ (l : List UInt8) (o : Nat) (acc : ByteArray), (∀ (j : Nat) x, l[j]? = some x → w.cell? ⟨b, o + j, none⟩ = some (.int .u8 (x.toNat : Int))) →
  ∃ r, (Extern.Bytes.loadBytes ⟨b, o, none⟩ l.length acc).run P w = .ok r w ∧ r.data.toList = acc.data.toList ++ l
 | [], o, acc, _ => ⟨acc, rfl, by simp⟩
 | x :: l, o, acc, hc => by
  have h0 := hc 0 x rfl
  obtain ⟨r, h1, h2⟩ := qcT l (o + 1) (acc.push x) fun j y hj => by
   have := hc (j + 1) y hj
   rw [show o + 1 + j = o + (j + 1) by omega]
   exact this
  refine ⟨r, ?_, by rw [h2]; simp [ByteArray.push]⟩
  simp only [List.length_cons, Extern.Bytes.loadBytes, Sem.run_bind]
  rw [Nat.add_zero] at h0
  rw [show (load ⟨b, o, none⟩).run P w = .ok (.int .u8 (x.toNat : Int)) w from by
   rw [run_load, h0]]
  simp only [Result.andThen_ok]
  simpa [Addr.add] using h1
theorem qdK {φ : Ren} {w : World} (s : Sim P φ h w) {v c : Value} {l : List UInt8} (r : RB h v l) (rv : VRel φ h.next v c) : ∃ x, (Extern.Bytes.bytesOf c).run P w = .ok x w ∧ x.data.toList = l := by
 obtain ⟨a, cap, rfl, h1, h2, h3⟩ := RS.conc r (List.all_eq_true.2 fun x hx => by obtain ⟨b, _, rfl⟩ := List.mem_map.1 hx; rfl) s rv
 rw [qaE]
 rcases h3 with h3 | ⟨b, o, rfl, _, h3⟩
 ·
  have : l = [] := List.map_eq_nil_iff.1 h3
  subst this
  cases a with
  | none => exact ⟨.empty, rfl, rfl⟩
  | some a => exact ⟨.empty, rfl, rfl⟩
 ·
  obtain ⟨x, q1, q2⟩ := qcT (P := P) (w := w) (b := b) l o .empty fun j y hj => h3 j _ (qfL l j y hj)
  exact ⟨x, q1, by rw [q2]; rfl⟩
theorem qgC {f : FuncId} {fo x y : Operand} {aT : Array TypeId} {u v : Value} {a b : List UInt8} [xt : XtC P f Extern.BytealgCompare.compare] (hf : ρ fo = .func (.func f) #[] #[]) (ra : RB h u a) (rb : RB h v b) (hx : ρ x = u) (hy : ρ y = v)
  (kk : K (.int .i64 (Extern.BytealgCompare.cmp (bstr a) (bstr b))) h) : AOp P ⟨dst, .call ⟨.value fo, #[x, y], aT⟩, ty, pos, aft, g⟩ ρ h K :=
 .of_pure kk fun φ ac w r => by
  obtain ⟨f1, d1, e0, s1, s2, _, _⟩ := (hf ▸ r.ev fo (by simp [Op.operands, Call.operands])).func_inv
  obtain rfl : f1 = #[] := by apply Array.eq_empty_of_size_eq_zero; rw [← s1]; rfl
  obtain rfl : d1 = #[] := by apply Array.eq_empty_of_size_eq_zero; rw [← s2]; rfl
  have e1 := hx ▸ r.ev x (by simp [Op.operands, Call.operands])
  have e2 := hy ▸ r.ev y (by simp [Op.operands, Call.operands])
  obtain ⟨p, p1, p2⟩ := qdK r.sim ra e1
  obtain ⟨q, z1, z2⟩ := qdK r.sim rb e2
  obtain ⟨fn, q1, q2, q3, q4, q5⟩ := xt.ex
  have hp : p = bstr a := by cases p with | mk d => simp only [bstr] at p2 ⊢; congr 1; apply Array.ext'; simpa using p2
  have hq : q = bstr b := by cases q with | mk d => simp only [bstr] at z2 ⊢; congr 1; apply Array.ext'; simpa using z2
  subst hp hq
  refine ⟨.int .i64 (Extern.BytealgCompare.cmp (bstr a) (bstr b)), ?_, .int _ _⟩
  have := run_callFunc_extern (P := P) q1 q2 q3 q4 q5 #[ac.eval x, ac.eval y] w
  have hcmp : (Extern.BytealgCompare.compare #[ac.eval x, ac.eval y]).run P w = .ok (.int .i64 (Extern.BytealgCompare.cmp (bstr a) (bstr b))) w := by
   change Sem.run P (do pure (goInt (Extern.BytealgCompare.cmp (← Extern.Bytes.bytesOf (ac.eval x)) (← Extern.Bytes.bytesOf (ac.eval y))))) w = _
   simp only [Sem.run_bind, p1, z1, Result.andThen_ok, Sem.run_pure]
   rfl
  rw [hcmp] at this
  simp [execOp, resolve, e0, Deferred.ofValue, invoke, this]
end
end Go.Eng

/-
 Scripts: what commands are made of: keys, numbers, entries and their order.
-/
namespace Go.Proofs.YtigmojilaadbhaaGreatDoor
open Go Go.Eng Go.Pln Go.Lib
attribute [local irreducible] AWp AL DAL AOp

instance qdo : XtC Tryz.prog 192 Extern.BytealgCompare.compare := ⟨Tryz.f192, by kernel_rfl, by kernel_rfl, by kernel_rfl, by kernel_rfl, by kernel_rfl⟩
instance qef : FnC Tryz.prog 151 := ⟨Tryz.f151, Tryz.func151, by kernel_rfl, by kernel_rfl⟩
instance qdM : FnC Tryz.prog 152 := ⟨Tryz.f152, Tryz.func152, by kernel_rfl, by kernel_rfl⟩
instance qdE : FnC Tryz.prog 169 := ⟨Tryz.f169, Tryz.func169, by kernel_rfl, by kernel_rfl⟩
instance qfk : FnC Tryz.prog 215 := ⟨Tryz.f215, Tryz.func215, by kernel_rfl, by kernel_rfl⟩
instance qew : FnC Tryz.prog 214 := ⟨Tryz.f214, Tryz.func214, by kernel_rfl, by kernel_rfl⟩
instance qgs : FnC Tryz.prog 170 := ⟨Tryz.f170, Tryz.func170, by kernel_rfl, by kernel_rfl⟩
instance qdi : FnC Tryz.prog 213 := ⟨Tryz.f213, Tryz.func213, by kernel_rfl, by kernel_rfl⟩
instance i_FnC_cmp_Or_int_ : FnC Tryz.prog 212 := ⟨Tryz.f212, Tryz.func212, by kernel_rfl, by kernel_rfl⟩
instance qee : FnC Tryz.prog 206 := ⟨Tryz.f206, Tryz.func206, by kernel_rfl, by kernel_rfl⟩
instance qfm : FnC Tryz.prog 205 := ⟨Tryz.f205, Tryz.func205, by kernel_rfl, by kernel_rfl⟩
instance qel : FnC Tryz.prog 194 := ⟨Tryz.f194, Tryz.func194, by kernel_rfl, by kernel_rfl⟩
def cmpI (a b : Bytes) : Int := Extern.BytealgCompare.cmp (bstr a) (bstr b)
def cmp3 (a b : Int) : Int := if a < b then -1 else if b < a then 1 else 0
def icmpM (a b : EntM) : Int := if cmpI a.key b.key ≠ 0 then cmpI a.key b.key else cmp3 b.seq a.seq
def entOk (e : EntM) : Bool := decide (1 ≤ e.key.length ∧ e.key.length ≤ 32 ∧ 1 ≤ e.seq ∧ e.seq ≤ 2147483647 ∧ e.value.length ≤ 65536 ∧ (e.kind = 1 ∨ e.kind = 2 ∧ e.value.length = 0))
theorem key_c (v : Value) (b : Bytes) (h : Heap) (r : RB h v b) : ACalls Tryz.prog 151 [v] h fun u h' => u = .bool (decide (1 ≤ b.length ∧ b.length ≤ 24)) ∧ h' = h := by
 refine ACalls.body Tryz.func151 rfl rfl ?_
 repeat' (first | refine AL.nil ?_ | refine AL.skip rfl rfl ?_ | refine AWp.seq ?_ | refine AWp.r9 ?_ | refine AWp.ret ?_ | refine AL.set rfl rfl (qag rfl ?_) | refine AL.set rfl rfl (qaa rfl ?_) | refine AL.set rfl rfl (qaD r rfl ?_) | refine AL.set rfl rfl (qaM rfl rfl rfl (fun c => ?_) (fun c => ?_)) | refine AL.set rfl rfl (qai (v := .bool _) rfl rfl ?_) | refine AL.set rfl rfl (qam (by conv => lhs; whnf) ?_))
 all_goals refine ⟨_, ResV.tmp rfl, congrArg Value.bool ?_, rfl⟩
 all_goals grind
theorem qhw (n : Int) (h : Heap) : ACalls Tryz.prog 152 [.int .i64 n] h fun u h' => u = .bool (decide (1 ≤ n ∧ n < 5)) ∧ h' = h := by
 refine ACalls.body Tryz.func152 rfl rfl ?_
 repeat' (first | refine AL.nil ?_ | refine AL.skip rfl rfl ?_ | refine AWp.seq ?_ | refine AWp.r9 ?_ | refine AWp.ret ?_ | refine AL.set rfl rfl (qac rfl ?_) | refine AL.set rfl rfl (qag rfl ?_) | refine AL.set rfl rfl (qaa rfl ?_) | refine AL.set rfl rfl (qaM rfl rfl rfl (fun c => ?_) (fun c => ?_)) | refine AL.set rfl rfl (qai (v := .bool _) rfl rfl ?_))
 all_goals refine ⟨_, ResV.tmp rfl, congrArg Value.bool ?_, rfl⟩
 all_goals grind
theorem qhk (n : Int) (h : Heap) : ACalls Tryz.prog 169 [.int .i64 n] h fun u h' => u = .bool (decide (1 ≤ n ∧ n ≤ 2147483647)) ∧ h' = h := by
 refine ACalls.body Tryz.func169 rfl rfl ?_
 repeat' (first | refine AL.nil ?_ | refine AL.skip rfl rfl ?_ | refine AWp.seq ?_ | refine AWp.r9 ?_ | refine AWp.ret ?_ | refine AL.set rfl rfl (qac rfl ?_) | refine AL.set rfl rfl (qag rfl ?_) | refine AL.set rfl rfl (qaa rfl ?_) | refine AL.set rfl rfl (qaM rfl rfl rfl (fun c => ?_) (fun c => ?_)) | refine AL.set rfl rfl (qai (v := .bool _) rfl rfl ?_))
 all_goals refine ⟨_, ResV.tmp rfl, congrArg Value.bool ?_, rfl⟩
 all_goals grind
theorem isNaN_c (n : Int) (h : Heap) : ACalls Tryz.prog 215 [.int .i64 n] h fun u h' => u = .bool false ∧ h' = h := by
 refine ACalls.body Tryz.func215 rfl rfl ?_
 repeat' (first | refine AL.nil ?_ | refine AWp.seq ?_ | refine AWp.r9 ?_ | refine AWp.ret ?_ | refine AL.set rfl rfl (qac rfl ?_) | refine AL.set rfl rfl (qaa rfl ?_) | refine AL.set rfl rfl (qak rfl rfl rfl (by omega) ?_))
 all_goals exact ⟨_, ResV.tmp rfl, rfl, rfl⟩
theorem cmp_c (a b : Int) (h : Heap) : ACalls Tryz.prog 214 [.int .i64 a, .int .i64 b] h fun u h' => u = .int .i64 (cmp3 a b) ∧ h' = h := by
 refine ACalls.body Tryz.func214 rfl rfl ?_
 repeat' (first | refine AL.nil ?_ | refine AWp.seq ?_ | refine AWp.r9 ?_ | refine AWp.c8 rfl ?_ | refine AWp.c9 rfl ?_ | refine AWp.ret ?_ | refine AWp.k9 ?_ | refine AL.set rfl rfl (qac rfl ?_) | refine AL.set rfl rfl (qag rfl ?_) | refine AL.set rfl rfl (qae rfl ?_) | refine AL.set rfl rfl (qaa rfl ?_) | refine AL.set rfl rfl (qab rfl rfl (isNaN_c _ _) ?_) | refine AL.set rfl rfl (qaM rfl rfl rfl (fun c => ?_) (fun c => ?_)))
 all_goals refine ⟨_, ResV.tmp rfl, congrArg (Value.int .i64) ?_, rfl⟩
 all_goals grind [cmp3]
theorem bcmp_c (u v : Value) (a b : Bytes) (h : Heap) (ra : RB h u a) (rb : RB h v b) : ACalls Tryz.prog 170 [u, v] h fun x h' => x = .int .i64 (cmpI a b) ∧ h' = h := by
 refine ACalls.body Tryz.func170 rfl rfl ?_
 repeat (first | refine AL.nil ?_ | refine AWp.seq ?_ | refine AWp.r9 ?_ | refine AWp.ret ?_ | refine AL.set rfl rfl (qae rfl ?_) | refine AL.set rfl rfl (qam (v := u) rfl ?_) | refine AL.set rfl rfl (qam (v := v) rfl ?_) | refine AL.set rfl rfl (qgC rfl ra rb rfl rfl ?_))
 exact ⟨_, ResV.tmp rfl, rfl, rfl⟩
theorem ckeys_c (u v : Value) (a b : Bytes) (h : Heap) (ra : RB h u a) (rb : RB h v b) : ACalls Tryz.prog 213 [u, v] h fun x h' => x = .int .i64 (cmpI a b) ∧ h' = h := by
 refine ACalls.body Tryz.func213 rfl rfl ?_
 repeat (first | refine AL.nil ?_ | refine AWp.seq ?_ | refine AWp.r9 ?_ | refine AWp.ret ?_ | refine AL.set rfl rfl (qae rfl ?_) | refine AL.set rfl rfl (qam (v := u) rfl ?_) | refine AL.set rfl rfl (qam (v := v) rfl ?_) | refine AL.set rfl rfl (qab rfl rfl (bcmp_c u v a b h ra rb) ?_))
 exact ⟨_, ResV.tmp rfl, rfl, rfl⟩
set_option maxHeartbeats 1000000 in
theorem or_c (v : Value) (a b : Int) (h : Heap) (r : RS h v [.int .i64 a, .int .i64 b]) : ACalls Tryz.prog 212 [v] h fun u h' => u = .int .i64 (if a ≠ 0 then a else b) ∧ h' = h := by
 refine ACalls.body Tryz.func212 rfl rfl ?_
 obtain ⟨va, vc, rfl⟩ := r.slice
 repeat (first | refine AL.nil ?_ | refine AWp.seq ?_ | refine AWp.r9 ?_ | refine AWp.b9 ?_ | refine AL.set rfl rfl (qac rfl ?_) | refine AL.set rfl rfl (qcc rfl ?_) | refine AL.set rfl rfl (qae rfl ?_) | refine AL.set rfl rfl (qa0 r rfl ?_))
 refine AWp.loop (α := Nat) (fun k => [(3, .int .i64 0), (6, .slice va 2 vc), (7, .int .i64 2), (8, .int .i64 (k : Nat))]) (fun _ => h) (fun k => k ≤ 2 ∧ (0 < k → a = 0) ∧ (1 < k → b = 0)) (fun k => 2 - k) 0 ⟨by omega, by omega, by omega⟩ (Weak.same (EW.cons rfl (EW.cons rfl (EW.cons rfl (EW.cons rfl EW.nil))))) ?_
 rintro k ⟨hk, h0, h1⟩
 match k, hk, h0, h1 with
 | 0, _, _, _ =>
  repeat (first | refine AL.nil ?_ | refine AWp.seq ?_ | refine AWp.r9 ?_ | refine AWp.c8 rfl ?_ | refine AWp.b9 ?_ | refine AWp.k9 ?_ | refine AL.set rfl rfl (qaj rfl rfl rfl (by omega) ?_) | refine AL.set rfl rfl (qa7 r rfl rfl (by omega) (show [Value.int .i64 a, .int .i64 b][((0 : Nat) : Int).toNat]? = some _ from rfl) ?_))
  intro p hp
  repeat' (first | refine AL.nil ?_ | refine AWp.seq ?_ | refine AWp.r9 ?_ | refine AWp.c8 rfl ?_ | refine AWp.c9 rfl ?_ | refine AWp.ret ?_ | refine AWp.k9 ?_ | refine AL.set rfl rfl (qac rfl ?_) | refine AL.set rfl rfl (qae rfl ?_) | refine AL.set rfl rfl (qaz hp rfl rfl ?_) | refine AL.set rfl rfl (qax rfl rfl (by omega) ?_) | refine AL.set rfl rfl (qaM rfl rfl rfl (fun c => ?_) (fun c => ?_)))
  ·
   refine ⟨_, ResV.tmp rfl, congrArg (Value.int .i64) ?_, rfl⟩
   grind
  ·
   exact ⟨1, ⟨by omega, by grind, by omega⟩, by omega, Weak.same (EW.cons rfl (EW.cons rfl (EW.cons rfl (EW.cons rfl EW.nil))))⟩
 | 1, _, h0, _ =>
  repeat (first | refine AL.nil ?_ | refine AWp.seq ?_ | refine AWp.r9 ?_ | refine AWp.c8 rfl ?_ | refine AWp.b9 ?_ | refine AWp.k9 ?_ | refine AL.set rfl rfl (qaj rfl rfl rfl (by omega) ?_) | refine AL.set rfl rfl (qa7 r rfl rfl (by omega) (show [Value.int .i64 a, .int .i64 b][((1 : Nat) : Int).toNat]? = some _ from rfl) ?_))
  intro p hp
  repeat' (first | refine AL.nil ?_ | refine AWp.seq ?_ | refine AWp.r9 ?_ | refine AWp.c8 rfl ?_ | refine AWp.c9 rfl ?_ | refine AWp.ret ?_ | refine AWp.k9 ?_ | refine AL.set rfl rfl (qac rfl ?_) | refine AL.set rfl rfl (qae rfl ?_) | refine AL.set rfl rfl (qaz hp rfl rfl ?_) | refine AL.set rfl rfl (qax rfl rfl (by omega) ?_) | refine AL.set rfl rfl (qaM rfl rfl rfl (fun c => ?_) (fun c => ?_)))
  ·
   refine ⟨_, ResV.tmp rfl, congrArg (Value.int .i64) ?_, rfl⟩
   grind
  ·
   exact ⟨2, ⟨by omega, by grind, by grind⟩, by omega, Weak.same (EW.cons rfl (EW.cons rfl (EW.cons rfl (EW.cons rfl EW.nil))))⟩
 | 2, _, h0, h1 =>
  repeat (first | refine AL.nil ?_ | refine AWp.seq ?_ | refine AWp.r9 ?_ | refine AWp.c9 rfl ?_ | refine AWp.ret ?_ | refine AWp.exit ?_ | refine AL.set rfl rfl (qac rfl ?_) | refine AL.set rfl rfl (qae rfl ?_) | refine AL.set rfl rfl (qak rfl rfl rfl (by omega) ?_))
  refine ⟨_, ResV.tmp rfl, congrArg (Value.int .i64) ?_, rfl⟩
  grind
 | k + 3, hk, _, _ => omega
set_option maxHeartbeats 1000000 in
theorem imay_c (kv vv : Value) (e : EntM) (h : Heap) (r1 : RB h kv e.key) (r2 : RB h vv e.value) : ACalls Tryz.prog 205 [.agg (entC kv vv e).toArray] h fun u h' => u = .bool (entOk e) ∧ h' = h := by
 refine ACalls.wf fun wf => ACalls.reset ?_
 refine ACalls.body Tryz.func205 rfl rfl ?_
 repeat (first | refine AL.nil ?_ | refine AWp.seq ?_ | refine AWp.r9 ?_ | refine AL.set rfl rfl (qaa rfl ?_) | refine AL.set rfl rfl (qaL rfl (by intro e; cases e) ?_))
 generalize hH : h.alloc _ = H
 have hg : H.get h.next = some ⟨entC kv vv e, 171, true⟩ := hH ▸ Heap.alloc_new _ _
 have hx : Ext h H := hH ▸ wf.ext _
 have wfH : WF H := hH ▸ wf.alloc _
 clear hH
 have q1 := r1.ext hx
 have q2 := r2.ext hx
 repeat' (first | refine AL.nil ?_ | refine AL.skip rfl rfl ?_ | refine AWp.seq ?_ | refine AWp.r9 ?_ | refine AWp.c8 rfl ?_ | refine AWp.c9 rfl ?_ | refine AWp.ret ?_ | refine AWp.k9 ?_ | refine AL.set rfl rfl (qag rfl ?_) | refine AL.set rfl rfl (qaa rfl ?_) | refine AL.set rfl rfl (qao rfl ?_) | refine AL.set rfl rfl (qad rfl rfl hg rfl ?_) | refine AL.set rfl rfl (qaD q1 rfl ?_) | refine AL.set rfl rfl (qaD q2 rfl ?_) | refine AL.set rfl rfl (qaM rfl rfl rfl (fun c => ?_) (fun c => ?_)) | refine AL.set rfl rfl (qai (v := .bool _) rfl rfl ?_))
 all_goals refine ⟨_, ResV.tmp rfl, rfl, hx, congrArg Value.bool ?_, rfl⟩
 all_goals clear q1 q2 r1 r2 hg hx wf wfH
 all_goals grind [entOk]
set_option maxHeartbeats 1000000 in
theorem icmp_c (k1 v1 k2 v2 : Value) (a b : EntM) (h : Heap) (ra : RB h k1 a.key) (rb : RB h k2 b.key) : ACalls Tryz.prog 206 [.agg (entC k1 v1 a).toArray, .agg (entC k2 v2 b).toArray] h fun u h' => u = .int .i64 (icmpM a b) ∧ h' = h := by
 refine ACalls.wf fun wf => ACalls.reset ?_
 refine ACalls.body Tryz.func206 rfl rfl ?_
 repeat (first | refine AL.nil ?_ | refine AWp.seq ?_ | refine AWp.r9 ?_ | refine AL.set rfl rfl (qae rfl ?_) | refine AL.set rfl rfl (qaL rfl (by intro e; cases e) ?_))
 generalize hH : h.alloc _ = H1
 have hg0 : H1.get h.next = some ⟨entC k1 v1 a, 171, true⟩ := hH ▸ Heap.alloc_new _ _
 have hx1 : Ext h H1 := hH ▸ wf.ext _
 have wf1 : WF H1 := hH ▸ wf.alloc _
 skip
 generalize hH2 : H1.alloc _ = H
 have hg2 : H.get H1.next = some ⟨entC k2 v2 b, 171, true⟩ := hH2 ▸ Heap.alloc_new _ _
 have hx2 : Ext H1 H := hH2 ▸ wf1.ext _
 have hg1 : H.get h.next = some ⟨entC k1 v1 a, 171, true⟩ := hx2.c _ _ hg0
 have hx : Ext h H := hx1.trans hx2
 have wfH : WF H := hH2 ▸ wf1.alloc _
 clear hH hH2
 have qa := ra.ext hx
 have qb := rb.ext hx
 have q0 := hx
 skip
 refine AWp.draw (σ := [(0, .R), (1, .R), (2, .R), (3, .R), (4, .R), (5, .R), (6, .R), (7, .R), (8, .R), (9, .R), (10, .X), (11, .R), (12, .R)]) mixed (by kernel_rfl) ?_
 repeat (first | refine DAL.r rfl rfl rfl (fun h' hx hn => qao rfl ⟨rfl, rfl⟩) ?_ | refine DAL.r rfl rfl rfl (fun h' hx hn => qad rfl rfl (hx.c _ _ hg1) rfl ⟨rfl, rfl⟩) ?_ | refine DAL.r rfl rfl rfl (fun h' hx hn => qad rfl rfl (hx.c _ _ hg2) rfl ⟨rfl, rfl⟩) ?_ | refine DAL.r rfl rfl rfl (fun h' hx hn => qab rfl rfl (ckeys_c k1 k2 a.key b.key h' (qa.ext hx) (qb.ext hx)) ⟨rfl, rfl⟩) ?_ | refine DAL.r rfl rfl rfl (fun h' hx hn => qab rfl rfl (cmp_c b.seq a.seq h') ⟨rfl, rfl⟩) ?_)
 refine DAL.x rfl rfl rfl (qaI [.int .i64 (cmpI a.key b.key), .int .i64 (cmp3 b.seq a.seq)] rfl rfl rfl rfl (by intro u hu; rcases List.mem_cons.1 hu with rfl | hu; rfl; rw [List.mem_singleton.1 hu]; rfl) ⟨wfH.ext _, ?_⟩)
 have gr := Heap.alloc_new H ⟨[.int .i64 (cmpI a.key b.key), .int .i64 (cmp3 b.seq a.seq)], 3, true⟩
 have xr := wfH.ext ⟨[.int .i64 (cmpI a.key b.key), .int .i64 (cmp3 b.seq a.seq)], 3, true⟩
 generalize H.alloc ⟨[.int .i64 (cmpI a.key b.key), .int .i64 (cmp3 b.seq a.seq)], 3, true⟩ = H3 at gr xr ⊢
 have rr : RS H3 (.slice (some ⟨H.next, 0, some 1⟩) 2 2) [.int .i64 (cmpI a.key b.key), .int .i64 (cmp3 b.seq a.seq)] := RS.own gr rfl
 repeat (first | refine DAL.r rfl rfl rfl (fun h' hx hn => qae rfl ⟨rfl, rfl⟩) ?_ | refine DAL.r rfl rfl rfl (fun h' hx hn => qab rfl rfl (or_c _ _ _ h' (rr.ext hx)) ⟨rfl, rfl⟩) ?_)
 refine DAL.nil ?_
 repeat (first | refine AWp.ret ?_)
 exact ⟨_, ResV.tmp rfl, rfl, q0.trans xr, rfl, rfl⟩
end Go.Proofs.YtigmojilaadbhaaGreatDoor

/-
 The engine: arrays avs literals, and an array's elements of several cells.
-/
namespace Go.Eng
open Go

section
variable {P : Program} {ρ : Operand → Value} {h : Heap} {K : Value → Heap → Prop} {dst : Option Tmp} {ty : TypeId} {pos : String} {aft : Array Edge} {g : Option (Nat × Bool)}
theorem op_buildAr {t e sz by_ n es eb : Nat} {z ez : Value} {parts : Array (Nat × Operand)} {out : List Value} [td : TyD P t (.array n e)] [ti : TyI P t sz by_ z] [te : TyI P e es eb ez]
  (hu : (parts.toList.all fun p => nuB (ρ p.2)) = true) (hf : fillA (fun i => some (i * es, es)) z.cells.toList (parts.toList.map fun p => (p.1, ρ p.2)) = some out) (kk : K (.agg out.toArray) h) : AOp P ⟨dst, .build t parts, ty, pos, aft, g⟩ ρ h K :=
 .of_pure kk fun φ ac w r => by
  obtain ⟨arr', h1, h2⟩ := qcH (φ := φ) (n := h.next) (fun i => some (i * es, es)) ac parts.toList z.cells.toList out z.cells (VRels.scalars ti.plain) (fun p hp => r.ev p.2 (by simp [Op.operands]; exact ⟨p.1, by simpa using hp⟩)) (fun p hp => nuB_ne (List.all_eq_true.1 hu p hp)) hf
  refine ⟨.agg arr', ?_, .agg _ _ (by have := h2.length; simpa using this) (fun k x y hx hy => ?_)⟩
  ·
   have he : (parts.map fun (p : Nat × Operand) => (p.1, ac.eval p.2)).toList = parts.toList.map fun p => (p.1, ac.eval p.2) := by simp
   have hrun : (Instr.build t (parts.map fun (p : Nat × Operand) => (p.1, ac.eval p.2))).run P w = .ok (.agg arr') w := by
    simp only [Instr.build, Sem.run_bind, ti.zero, Result.andThen_ok, td.run, te.size, he]
    rw [h1]
    rfl
   simp [execOp, hrun]
  ·
   obtain ⟨c, hc, hv⟩ := h2.get (j := k) (x := x) (by simpa using hx)
   simp only [Array.getElem?_toList] at hc
   rw [hy] at hc; cases hc; exact hv
theorem op_indexVA {t e : TypeId} {d : TypeDesc} {n : Nat} {x y : Operand} {sz by_ : Nat} {z : Value} {k : IntKind} {a : Int} {vs : List Value} (u : List Value) [td : TyD P t (.array n e)] [te : TyD P e d] [ti : TyI P e sz by_ z]
  (ha : aggB d = true) (hx : ρ x = .agg vs.toArray) (hy : ρ y = .int k a) (h0 : 0 ≤ a) (h1 : a < n) (hl : a.toNat * sz + sz ≤ vs.length) (hu : (vs.drop (a.toNat * sz)).take sz = u) (kk : K (.agg u.toArray) h) : AOp P ⟨dst, .index t x y, ty, pos, aft, g⟩ ρ h K :=
 .of_pure kk fun φ ac w r => by
  obtain ⟨cs, e1, hs, hr⟩ := (hx ▸ r.ev x (by simp [Op.operands])).agg_inv
  have e2 := (hy ▸ r.ev y (by simp [Op.operands])).int_inv
  have hsz : cs.size = vs.length := by rw [← hs]; simp
  refine ⟨.agg (cs.extract (a.toNat * sz) (a.toNat * sz + sz)), ?_, .agg _ _ ?_ fun j p q hp hq => ?_⟩
  ·
   simp [execOp, e1, e2, Instr.index, asIntOf, td.run, h0, h1, ti.size, part, te.isAgg, ha]
  ·
   subst hu
   simp
   omega
  ·
   subst hu
   simp only [List.getElem?_toArray] at hp
   have hj : j < sz := by
    have := (List.getElem?_eq_some_iff.1 hp).1
    simp at this
    omega
   rw [List.getElem?_take_of_lt hj, List.getElem?_drop] at hp
   rw [Array.getElem?_extract] at hq
   split at hq
   ·
    exact hr _ _ _ (by simpa using hp) hq
   ·
    cases hq
end
end Go.Eng

/-
 Scripts: what may be asked.
-/
namespace Go.Proofs.YtigmojilaadbhaaGreatDoor
open Go Go.Eng Go.Pln Go.Lib
attribute [local irreducible] AWp AL DAL AOp

instance qec : FnC Tryz.prog 118 := ⟨Tryz.f118, Tryz.func118, by kernel_rfl, by kernel_rfl⟩
instance qde : FnC Tryz.prog 119 := ⟨Tryz.f119, Tryz.func119, by kernel_rfl, by kernel_rfl⟩
instance qdx : FnC Tryz.prog 89 := ⟨Tryz.f89, Tryz.func89, by kernel_rfl, by kernel_rfl⟩
instance qgx : TyD Tryz.prog 175 (.struct #[fd "key" 4 0 "hectare/command" 0, fd "to" 4 1 "hectare/command" 1, fd "value" 4 2 "hectare/command" 2, fd "was" 4 3 "hectare/command" 3, fd "most" 4 4 "hectare/command" 4]) := ⟨Tryz.underlying175⟩
instance qgS : TyI Tryz.prog 175 5 5 (.agg #[.bool false, .bool false, .bool false, .bool false, .bool false]) := ⟨qaO (by kernel_rfl), rfl, rfl⟩
instance qgA : StD Tryz.prog 175 [(0, 1), (1, 1), (2, 1), (3, 1), (4, 1)] := ⟨_, Tryz.underlying175, by kernel_rfl⟩
instance qe8 : FAd Tryz.prog 175 0 0 := FAd.mk' (ft := 4) Tryz.underlying175 rfl rfl rfl rfl
instance qeV : FAd Tryz.prog 175 1 1 := FAd.mk' (ft := 4) Tryz.underlying175 rfl rfl rfl rfl
instance qfd : FAd Tryz.prog 175 2 2 := FAd.mk' (ft := 4) Tryz.underlying175 rfl rfl rfl rfl
instance qfa : FAd Tryz.prog 175 3 3 := FAd.mk' (ft := 4) Tryz.underlying175 rfl rfl rfl rfl
instance qe6 : FAd Tryz.prog 175 4 4 := FAd.mk' (ft := 4) Tryz.underlying175 rfl rfl rfl rfl
instance qfJ : TyD Tryz.prog 176 (.array 6 175) := ⟨Tryz.underlying176⟩
instance qfZ : TyI Tryz.prog 176 30 30 (.agg (Array.replicate 30 (.bool false))) := ⟨qaO (by kernel_rfl), rfl, rfl⟩
abbrev bT : Value := .bool true
abbrev bF : Value := .bool false
def asksV : List Value := [bF, bF, bF, bF, bF, bT, bF, bF, bF, bF, bT, bF, bT, bF, bF, bT, bF, bF, bF, bF, bT, bF, bT, bT, bF, bF, bT, bF, bF, bT]
theorem asks_c (h : Heap) : ACalls Tryz.prog 118 [] h fun u h' => u = .agg asksV.toArray ∧ h' = h := by
 refine ACalls.wf fun wf => ACalls.resetB ?_
 refine ACalls.body Tryz.func118 rfl rfl ?_
 repeat (first | refine AL.nil ?_ | refine AWp.seq ?_ | refine AWp.r9 ?_ | refine AWp.ret ?_ | refine AL.set rfl rfl (qas ?_) | refine AL.set rfl rfl (qaw (places := [(0, 1), (1, 1), (2, 1), (3, 1), (4, 1)]) rfl rfl ?_) | refine AL.set rfl rfl (op_buildAr (out := asksV) rfl rfl ?_) | refine AL.eff rfl (qaF (vs := asksV) rfl rfl rfl rfl rfl ?_))
 exact ⟨_, ResV.cellA rfl rfl rfl (Heap.alloc_new _ _) (Nat.le_refl _), Bdd.plain (by kernel_rfl), wf.ext _, rfl, rfl⟩
theorem most_c (b : Bool) (n : Int) (h : Heap) : ACalls Tryz.prog 119 [.bool b, .int .i64 n] h fun u h' => u = .int .i64 (if b then n else 0) ∧ h' = h := by
 refine ACalls.body Tryz.func119 rfl rfl ?_
 cases b with
 | true =>
  repeat (first | refine AL.nil ?_ | refine AWp.seq ?_ | refine AWp.r9 ?_ | refine AWp.c9 rfl ?_ | refine AWp.ret ?_ | refine AWp.k9 ?_ | refine AL.set rfl rfl (qac rfl ?_) | refine AL.set rfl rfl (qag rfl ?_) | refine AL.set rfl rfl (qae rfl ?_) | refine AL.set rfl rfl (qaH rfl ?_))
  exact ⟨_, ResV.tmp rfl, rfl, rfl⟩
 | false =>
  repeat (first | refine AL.nil ?_ | refine AWp.seq ?_ | refine AWp.r9 ?_ | refine AWp.c8 rfl ?_ | refine AWp.ret ?_ | refine AL.set rfl rfl (qag rfl ?_) | refine AL.set rfl rfl (qae rfl ?_) | refine AL.set rfl rfl (qaH rfl ?_))
  exact ⟨_, ResV.tmp rfl, rfl, rfl⟩
theorem most_t (n : Int) (h : Heap) : ACalls Tryz.prog 119 [.bool true, .int .i64 n] h fun u h' => u = .int .i64 n ∧ h' = h := most_c true n h
theorem most_f (n : Int) (h : Heap) : ACalls Tryz.prog 119 [.bool false, .int .i64 n] h fun u h' => u = .int .i64 0 ∧ h' = h := most_c false n h
structure Nm where
 k : Bool
 t : Bool
 v : Bool
 w : Bool
 m : Bool
def nmC (n : Nm) : List Value := [.bool n.k, .bool n.t, .bool n.v, .bool n.w, .bool n.m]
def nmOf (k : Int) : Nm := if k = 1 ∨ k = 3 then ⟨true, false, false, false, false⟩ else if k = 2 then ⟨true, false, true, false, false⟩ else if k = 4 then ⟨true, false, true, true, false⟩ else ⟨false, true, false, false, true⟩
abbrev P5 (n : Nm) (a : AskM) : Prop := (n.k = false ∨ 0 < a.key.length) ∧ a.key.length ≤ 24 ∧ a.to.length ≤ if n.t then 24 else 0
abbrev P6 (n : Nm) (a : AskM) : Prop := (a.value.length ≤ if n.v then 40 else 0) ∧ (a.was.length ≤ if n.w then 40 else 0) ∧ (a.none = false ∨ n.w = true ∧ a.was.length = 0)
abbrev P7 (n : Nm) (a : AskM) : Prop := P5 n a ∧ P6 n a ∧ (if n.m then 1 else 0) ≤ a.most ∧ a.most ≤ if n.m then 32 else 0
theorem mayAsk_nm {a : AskM} (h : 1 ≤ a.kind ∧ a.kind ≤ 5) : mayAsk a = decide (P7 (nmOf a.kind) a) := by
 have hk : a.kind = 1 ∨ a.kind = 2 ∨ a.kind = 3 ∨ a.kind = 4 ∨ a.kind = 5 := by omega
 unfold mayAsk
 rcases hk with e | e | e | e | e <;> simp only [e, nmOf, ← List.length_eq_zero_iff] <;> grind
theorem mayAsk_no {a : AskM} (h : ¬ (1 ≤ a.kind ∧ a.kind ≤ 5)) : mayAsk a = false := by
 unfold mayAsk
 grind
set_option maxHeartbeats 8000000 in
theorem qhv (p : AskV) (a : AskM) (h : Heap) (r : AskR h p a) : ACalls Tryz.prog 89 [.agg (askC p a).toArray] h fun u h' => u = .bool (mayAsk a) ∧ h' = h := by
 refine ACalls.wf fun wf => ACalls.reset ?_
 refine ACalls.body Tryz.func89 rfl rfl ?_
 repeat (first | refine AL.nil ?_ | refine AWp.seq ?_ | refine AWp.r9 ?_ | refine AL.set rfl rfl (qaa rfl ?_) | refine AL.set rfl rfl (qaL rfl (by intro e; cases e) ?_))
 generalize hH : h.alloc _ = H
 have hg : H.get h.next = some ⟨askC p a, 29, true⟩ := hH ▸ Heap.alloc_new _ _
 have hx : Ext h H := hH ▸ wf.ext _
 have wfH : WF H := hH ▸ wf.alloc _
 clear hH
 obtain ⟨q1, q2, q3, q4⟩ := r.ext hx
 have xh := hx
 by_cases hk : 1 ≤ a.kind ∧ a.kind ≤ 5
 ·
  rw [mayAsk_nm hk]
  repeat (first | refine AL.nil ?_ | refine AWp.seq ?_ | refine AWp.c9 rfl ?_ | refine AWp.k9 ?_ | refine AL.set rfl rfl (qag rfl ?_) | refine AL.set rfl rfl (qao rfl ?_) | refine AL.set rfl rfl (qad rfl rfl hg rfl ?_) | refine AL.set rfl rfl (qak rfl rfl rfl (by omega) ?_) | refine AL.set rfl rfl (qai (v := .bool _) rfl rfl ?_))
  refine AWp.cutI (α := Nm) (fun n => [(1, ptr h.next), (3, ptr H.next)]) (fun n => H.alloc ⟨nmC n, 175, true⟩) (fun n => n = nmOf a.kind) ?_ ?_
  ·
   have hu : (asksV.drop (a.kind.toNat * 5)).take 5 = nmC (nmOf a.kind) := by
    have hk5 : a.kind = 1 ∨ a.kind = 2 ∨ a.kind = 3 ∨ a.kind = 4 ∨ a.kind = 5 := by omega
    rcases hk5 with e | e | e | e | e <;> rw [e] <;> rfl
   refine AWp.draw (σ := [(0, .R), (1, .R), (2, .R), (3, .R), (4, .X), (5, .W)]) mixed (by kernel_rfl) ?_
   repeat (first | refine DAL.r rfl rfl rfl (fun h' hx hn => qao rfl ⟨rfl, rfl⟩) ?_ | refine DAL.r rfl rfl rfl (fun h' hx hn => qad rfl rfl (hx.c _ _ hg) rfl ⟨rfl, rfl⟩) ?_ | refine DAL.r rfl rfl rfl (fun h' hx hn => qab rfl rfl (asks_c _) ⟨rfl, rfl⟩) ?_ | refine DAL.r rfl rfl rfl (fun h' hx hn => op_indexVA (nmC (nmOf a.kind)) rfl rfl rfl (by omega) (by omega) (by show a.kind.toNat * 5 + 5 ≤ 30; omega) hu ⟨rfl, rfl⟩) ?_)
   refine DAL.x rfl rfl rfl (qas ⟨wfH.ext _, ?_⟩)
   refine DAL.w0 rfl rfl (qaF (vs := nmC (nmOf a.kind)) rfl rfl rfl rfl rfl ?_)
   refine DAL.nil ?_
   exact ⟨nmOf a.kind, rfl, Weak.same (EW.cons rfl (EW.cons rfl EW.nil))⟩
  ·
   rintro n hn
   have gn := Heap.alloc_new H ⟨nmC n, 175, true⟩
   have xn := wfH.ext ⟨nmC n, 175, true⟩
   generalize hHn : H.alloc ⟨nmC n, 175, true⟩ = Hn at gn xn ⊢
   clear hHn
   have hg' := xn.c _ _ hg
   have q1 := q1.ext xn
   have q2 := q2.ext xn
   have q3 := q3.ext xn
   have q4 := q4.ext xn
   clear hg
   have hg := hg'
   clear hg'
   repeat (first | refine AL.nil ?_ | refine AWp.seq ?_ | refine AWp.r9 ?_ | refine AL.set rfl rfl (qaR rfl ?_))
   refine AWp.cutI (α := Bool) (fun c => [(1, ptr h.next), (3, ptr H.next), (4, .func (.func 119) #[] #[]), (5, .bool c)]) (fun _ => Hn) (fun c => c = decide (P5 n a)) ?_ ?_
   ·
    refine AWp.drawR mixed (by kernel_rfl) ?_
    repeat' (first | refine DAL.skip rfl rfl rfl ?_ | refine DAL.nil ?_ | refine DAL.r rfl rfl rfl (fun h' hx hn => qag rfl ⟨rfl, rfl⟩) ?_ | refine DAL.r rfl rfl rfl (fun h' hx hn => qaX rfl ⟨rfl, rfl⟩) ?_ | refine DAL.r rfl rfl rfl (fun h' hx hn => qaa rfl ⟨rfl, rfl⟩) ?_ | refine DAL.rB rfl rfl rfl (fun h' hx hn => qad rfl rfl (hx.c _ _ gn) rfl ⟨rfl, rfl⟩) (fun c => ?_) (fun c => ?_) | refine DAL.r rfl rfl rfl (fun h' hx hn => qao rfl ⟨rfl, rfl⟩) ?_ | refine DAL.r rfl rfl rfl (fun h' hx hn => qad rfl rfl (hx.c _ _ hg) rfl ⟨rfl, rfl⟩) ?_ | refine DAL.r rfl rfl rfl (fun h' hx hn => qaD (q1.ext hx) rfl ⟨rfl, rfl⟩) ?_ | refine DAL.r rfl rfl rfl (fun h' hx hn => qaD (q2.ext hx) rfl ⟨rfl, rfl⟩) ?_ | refine DAL.r rfl rfl rfl (fun h' hx hn => qab rfl rfl (most_t _ _) ⟨rfl, rfl⟩) ?_ | refine DAL.r rfl rfl rfl (fun h' hx hn => qab rfl rfl (most_f _ _) ⟨rfl, rfl⟩) ?_ | refine DAL.rP rfl rfl rfl (fun h' hx hn => qa6 rfl rfl rfl ⟨rfl, rfl⟩) (fun c => ?_) (fun c => ?_) | refine DAL.r rfl rfl rfl (fun h' hx hn => qaH rfl ⟨rfl, rfl⟩) ?_ | refine DAL.r rfl rfl rfl (fun h' hx hn => qai (v := .bool _) rfl rfl ⟨rfl, rfl⟩) ?_)
    all_goals refine ⟨_, ?_, Weak.same (EW.cons rfl (EW.cons rfl (EW.cons rfl (EW.cons rfl EW.nil))))⟩
    all_goals clear q1 q2 q3 q4 hg gn xn hx wf wfH r xh
    all_goals grind
   rintro b5 h5
   repeat (first | refine AWp.seq ?_)
   refine AWp.cutI (α := Bool) (fun c => [(1, ptr h.next), (3, ptr H.next), (4, .func (.func 119) #[] #[]), (5, .bool b5), (6, .bool c)]) (fun _ => Hn) (fun c => c = decide (P6 n a)) ?_ ?_
   ·
    refine AWp.drawR mixed (by kernel_rfl) ?_
    repeat' (first | refine DAL.skip rfl rfl rfl ?_ | refine DAL.nil ?_ | refine DAL.r rfl rfl rfl (fun h' hx hn => qag rfl ⟨rfl, rfl⟩) ?_ | refine DAL.r rfl rfl rfl (fun h' hx hn => qaX rfl ⟨rfl, rfl⟩) ?_ | refine DAL.r rfl rfl rfl (fun h' hx hn => qaa rfl ⟨rfl, rfl⟩) ?_ | refine DAL.rB rfl rfl rfl (fun h' hx hn => qad rfl rfl (hx.c _ _ gn) rfl ⟨rfl, rfl⟩) (fun c => ?_) (fun c => ?_) | refine DAL.rB rfl rfl rfl (fun h' hx hn => qad rfl rfl (hx.c _ _ hg) rfl ⟨rfl, rfl⟩) (fun c => ?_) (fun c => ?_) | refine DAL.r rfl rfl rfl (fun h' hx hn => qao rfl ⟨rfl, rfl⟩) ?_ | refine DAL.r rfl rfl rfl (fun h' hx hn => qad rfl rfl (hx.c _ _ hg) rfl ⟨rfl, rfl⟩) ?_ | refine DAL.r rfl rfl rfl (fun h' hx hn => qaD (q3.ext hx) rfl ⟨rfl, rfl⟩) ?_ | refine DAL.r rfl rfl rfl (fun h' hx hn => qaD (q4.ext hx) rfl ⟨rfl, rfl⟩) ?_ | refine DAL.r rfl rfl rfl (fun h' hx hn => qab rfl rfl (most_t _ _) ⟨rfl, rfl⟩) ?_ | refine DAL.r rfl rfl rfl (fun h' hx hn => qab rfl rfl (most_f _ _) ⟨rfl, rfl⟩) ?_ | refine DAL.r rfl rfl rfl (fun h' hx hn => qaj rfl rfl rfl (by omega) ⟨rfl, rfl⟩) ?_ | refine DAL.rP rfl rfl rfl (fun h' hx hn => qa6 rfl rfl rfl ⟨rfl, rfl⟩) (fun c => ?_) (fun c => ?_) | refine DAL.r rfl rfl rfl (fun h' hx hn => qaH rfl ⟨rfl, rfl⟩) ?_ | refine DAL.r rfl rfl rfl (fun h' hx hn => qai (v := .bool _) rfl rfl ⟨rfl, rfl⟩) ?_)
    all_goals refine ⟨_, ?_, Weak.same (EW.cons rfl (EW.cons rfl (EW.cons rfl (EW.cons rfl (EW.cons rfl EW.nil)))))⟩
    all_goals clear q1 q2 q3 q4 hg gn xn hx wf wfH r xh
    all_goals grind
   rintro b6 h6
   have hx2 := xh.trans xn
   cases b5 with
   | false =>
    cases b6 with
    | false =>
     repeat (first | refine AWp.seq ?_)
     refine AWp.drawR mixed (by kernel_rfl) ?_
     repeat' (first | refine DAL.skip rfl rfl rfl ?_ | refine DAL.nil ?_ | refine DAL.r rfl rfl rfl (fun h' hx hn => qag rfl ⟨rfl, rfl⟩) ?_ | refine DAL.r rfl rfl rfl (fun h' hx hn => qaa rfl ⟨rfl, rfl⟩) ?_ | refine DAL.r rfl rfl rfl (fun h' hx hn => qai (v := .bool _) rfl rfl ⟨rfl, rfl⟩) ?_)
     repeat' (first | refine AWp.ret ?_)
     all_goals refine ⟨_, ResV.tmp rfl, rfl, hx2, congrArg Value.bool ?_, rfl⟩
     all_goals clear q1 q2 q3 q4 hg gn xn hx wf wfH r xh hx2
     all_goals grind
    | true =>
     repeat (first | refine AWp.seq ?_)
     refine AWp.drawR mixed (by kernel_rfl) ?_
     repeat' (first | refine DAL.skip rfl rfl rfl ?_ | refine DAL.nil ?_ | refine DAL.r rfl rfl rfl (fun h' hx hn => qag rfl ⟨rfl, rfl⟩) ?_ | refine DAL.r rfl rfl rfl (fun h' hx hn => qaa rfl ⟨rfl, rfl⟩) ?_ | refine DAL.r rfl rfl rfl (fun h' hx hn => qai (v := .bool _) rfl rfl ⟨rfl, rfl⟩) ?_)
     repeat' (first | refine AWp.ret ?_)
     all_goals refine ⟨_, ResV.tmp rfl, rfl, hx2, congrArg Value.bool ?_, rfl⟩
     all_goals clear q1 q2 q3 q4 hg gn xn hx wf wfH r xh hx2
     all_goals grind
   | true =>
    cases b6 with
    | false =>
     repeat (first | refine AWp.seq ?_)
     refine AWp.drawR mixed (by kernel_rfl) ?_
     repeat' (first | refine DAL.skip rfl rfl rfl ?_ | refine DAL.nil ?_ | refine DAL.r rfl rfl rfl (fun h' hx hn => qag rfl ⟨rfl, rfl⟩) ?_ | refine DAL.r rfl rfl rfl (fun h' hx hn => qaa rfl ⟨rfl, rfl⟩) ?_ | refine DAL.r rfl rfl rfl (fun h' hx hn => qai (v := .bool _) rfl rfl ⟨rfl, rfl⟩) ?_)
     repeat' (first | refine AWp.ret ?_)
     all_goals refine ⟨_, ResV.tmp rfl, rfl, hx2, congrArg Value.bool ?_, rfl⟩
     all_goals clear q1 q2 q3 q4 hg gn xn hx wf wfH r xh hx2
     all_goals grind
    | true =>
     repeat (first | refine AWp.seq ?_)
     refine AWp.drawR mixed (by kernel_rfl) ?_
     repeat' (first | refine DAL.skip rfl rfl rfl ?_ | refine DAL.nil ?_ | refine DAL.r rfl rfl rfl (fun h' hx hn => qag rfl ⟨rfl, rfl⟩) ?_ | refine DAL.r rfl rfl rfl (fun h' hx hn => qaX rfl ⟨rfl, rfl⟩) ?_ | refine DAL.r rfl rfl rfl (fun h' hx hn => qaa rfl ⟨rfl, rfl⟩) ?_ | refine DAL.rB rfl rfl rfl (fun h' hx hn => qad rfl rfl (hx.c _ _ gn) rfl ⟨rfl, rfl⟩) (fun c => ?_) (fun c => ?_) | refine DAL.r rfl rfl rfl (fun h' hx hn => qao rfl ⟨rfl, rfl⟩) ?_ | refine DAL.r rfl rfl rfl (fun h' hx hn => qad rfl rfl (hx.c _ _ hg) rfl ⟨rfl, rfl⟩) ?_ | refine DAL.r rfl rfl rfl (fun h' hx hn => qab rfl rfl (most_t _ _) ⟨rfl, rfl⟩) ?_ | refine DAL.r rfl rfl rfl (fun h' hx hn => qab rfl rfl (most_f _ _) ⟨rfl, rfl⟩) ?_ | refine DAL.r rfl rfl rfl (fun h' hx hn => qak rfl rfl rfl (by omega) ⟨rfl, rfl⟩) ?_ | refine DAL.rP rfl rfl rfl (fun h' hx hn => qa6 rfl rfl rfl ⟨rfl, rfl⟩) (fun c => ?_) (fun c => ?_) | refine DAL.r rfl rfl rfl (fun h' hx hn => qai (v := .bool _) rfl rfl ⟨rfl, rfl⟩) ?_)
     repeat' (first | refine AWp.ret ?_)
     all_goals refine ⟨_, ResV.tmp rfl, rfl, hx2, congrArg Value.bool ?_, rfl⟩
     all_goals clear q1 q2 q3 q4 hg gn xn hx wf wfH r xh hx2
     all_goals grind
 ·
  rw [mayAsk_no hk]
  repeat' (first | refine AL.nil ?_ | refine AL.skip rfl rfl ?_ | refine AWp.seq ?_ | refine AWp.r9 ?_ | refine AWp.c8 rfl ?_ | refine AWp.ret ?_ | refine AL.set rfl rfl (qag rfl ?_) | refine AL.set rfl rfl (qaa rfl ?_) | refine AL.set rfl rfl (qao rfl ?_) | refine AL.set rfl rfl (qad rfl rfl hg rfl ?_) | refine AL.set rfl rfl (qaj rfl rfl rfl (by omega) ?_) | refine AL.set rfl rfl (qaM rfl rfl rfl (fun c => ?_) (fun c => ?_)) | refine AL.set rfl rfl (qai (v := .bool _) rfl rfl ?_))
  all_goals refine ⟨_, ResV.tmp rfl, rfl, hx, ?_, rfl⟩
  all_goals first | rfl | omega
end Go.Proofs.YtigmojilaadbhaaGreatDoor
