/-
  Texts of one claim, merged: 8 parts.
-/
import Derived.Test.YtigmojilaadbhaaGreatDoorMph
import Derived.Test.YtigmojilaadbhaaGreatDoorMpj
import Derived.Test.YtigmojilaadbhaaGreatDoorMpe
set_option maxHeartbeats 16000000
/- . -/
namespace Go.Proofs.YtigmojilaadbhaaGreatDoor
open Go Go.Eng Go.Pln Go.Lib Go.Proofs.Tryz
attribute [local irreducible] AWp AL DAL AOp
instance i_TyD_api_AskKind : TyD prog 26 (.int .i64) := ⟨underlying26⟩
instance i_TyI_api_AskKind : TyI prog 26 1 8 (.int .i64 0) := ⟨qaV (by kernel_rfl), rfl, rfl⟩
instance i_TyD_api_Ask : TyD prog 29 (.struct #[fd "Kind" 26 0 "" 0, fd "Key" 27 1 "" 8, fd "To" 27 2 "" 32, fd "Value" 27 3 "" 56, fd "Was" 27 4 "" 80, fd "None" 4 5 "" 104, fd "Most" 3 6 "" 112]) := ⟨underlying29⟩
instance i_TyI_api_Ask : TyI prog 29 7 120 (.agg #[.int .i64 0, .slice none 0 0, .slice none 0 0, .slice none 0 0, .slice none 0 0, .bool false, .int .i64 0]) := ⟨qaV (by kernel_rfl), rfl, rfl⟩
instance i_FAd_api_Ask_0_0 : FAd prog 29 0 0 := bA (ft := 26) underlying29 rfl rfl rfl rfl
instance i_FAd_api_Ask_1_1 : FAd prog 29 1 1 := bA (ft := 27) underlying29 rfl rfl rfl rfl
instance i_FAd_api_Ask_2_2 : FAd prog 29 2 2 := bA (ft := 27) underlying29 rfl rfl rfl rfl
instance i_FAd_api_Ask_3_3 : FAd prog 29 3 3 := bA (ft := 27) underlying29 rfl rfl rfl rfl
instance i_FAd_api_Ask_4_4 : FAd prog 29 4 4 := bA (ft := 27) underlying29 rfl rfl rfl rfl
instance i_FAd_api_Ask_5_5 : FAd prog 29 5 5 := bA (ft := 4) underlying29 rfl rfl rfl rfl
instance i_FAd_api_Ask_6_6 : FAd prog 29 6 6 := bA (ft := 3) underlying29 rfl rfl rfl rfl
instance i_FnC_bytes_Equal : FnC prog 143 := ⟨Tryz.f143, func143, by kernel_rfl, by kernel_rfl⟩
theorem qfd {ρ : Operand → Value} {h : Heap} {K : Value → Heap → Prop} {dst : Option Tmp} {ty : TypeId} {pos : String} {aft : Array Edge} {g : Option (Nat × Bool)} {t t' : TypeId} {x y : Operand} {a b : Bool} [ti : TyD prog t .bool] (hx : ρ x = .bool a) (hy : ρ y = .bool b) (he : ¬ a = b) (kk : K (.bool false) h) : AOp prog ⟨dst, .binOp .eql t x y t', ty, pos, aft, g⟩ ρ h K :=
 qeL hx hy (by rw [beq_eq_false_iff_ne.2 he]; exact kk)
structure AskV where
 k : Value
 t : Value
 v : Value
 w : Value
def askC (q : AskV) (a : AskM) : List Value := [.int .i64 a.kind, q.k, q.t, q.v, q.w, .bool a.none, .int .i64 a.most]
structure AskR (h : Heap) (q : AskV) (a : AskM) : Prop where
 k : RB h q.k a.key
 t : RB h q.t a.to
 v : RB h q.v a.value
 w : RB h q.w a.was
theorem AskR.ext {h h' : Heap} {q : AskV} {a : AskM} (r : AskR h q a) (hx : Ext h h') : AskR h' q a := ⟨r.k.ext hx, r.t.ext hx, r.v.ext hx, r.w.ext hx⟩
theorem qb2 {u v : Value} {a b : Bytes} {h : Heap} (ra : RB h u a) (rb : RB h v b) (e : a = b) : ACalls prog 143 [u, v] h fun x h' => x = .bool true ∧ h' = h := by
 have := qcn u v a b h ra rb
 rwa [show (a == b) = true from beq_iff_eq.2 e] at this
theorem beq_n {u v : Value} {a b : Bytes} {h : Heap} (ra : RB h u a) (rb : RB h v b) (e : ¬ a = b) : ACalls prog 143 [u, v] h fun x h' => x = .bool false ∧ h' = h := by
 have := qcn u v a b h ra rb
 rwa [show (a == b) = false from beq_eq_false_iff_ne.2 e] at this
theorem ask_ext {a b : AskM} (h1 : a.kind = b.kind) (h2 : a.key = b.key) (h3 : a.to = b.to) (h4 : a.value = b.value) (h5 : a.was = b.was) (h6 : a.none = b.none) (h7 : a.most = b.most) : a = b := by
 cases a; cases b; simp_all
theorem qgv (p q : AskV) (a b : AskM) (h : Heap) (ra : AskR h p a) (rb : AskR h q b) : ACalls prog 111 [.agg (askC p a).toArray, .agg (askC q b).toArray] h fun u h' => u = .bool (decide (a = b)) ∧ h' = h := by
 refine aL fun wf => aO ?_
 refine aD func111 rfl rfl ?_
 repeat (first | refine W.w ?_ | refine zz rfl (qaa rfl ?_) | refine zz rfl (qaS rfl (by intro e; cases e) ?_))
 generalize hH : h.alloc _ = H1
 have hg0 : H1.get h.next = some ⟨askC p a, 29, true⟩ := hH ▸ aB _ _
 have hx1 : Ext h H1 := hH ▸ wf.ext _
 have wf1 : WF H1 := hH ▸ wf.alloc _
 have ra1 := ra.ext hx1
 skip
 generalize hH2 : H1.alloc _ = H
 have hg2 : H.get H1.next = some ⟨askC q b, 29, true⟩ := hH2 ▸ aB _ _
 have hx2 : Ext H1 H := hH2 ▸ wf1.ext _
 have hg1 : H.get h.next = some ⟨askC p a, 29, true⟩ := hx2.c _ _ hg0
 have hx : Ext h H := ⟨fun i o e => hx2.c i o (hx1.c i o e), fun i o e => hx2.o i o (hx1.o i o e)⟩
 have ra2 := ra.ext hx
 have rb2 := rb.ext hx
 by_cases c_key : a.key = b.key
 ·
  by_cases c_to : a.to = b.to
  ·
   by_cases c_value : a.value = b.value
   ·
    by_cases c_was : a.was = b.was
    ·
     by_cases c_kind : a.kind = b.kind
     ·
      by_cases c_none : a.none = b.none
      ·
       by_cases c_most : a.most = b.most
       ·
        repeat (first | refine W.w ?_ | (refine zz rfl ?_; first | refine qae rfl ?_ | refine qaa rfl ?_ | refine qan rfl ?_ | refine qaf rfl rfl hg1 rfl ?_ | refine qaf rfl rfl hg2 rfl ?_ | refine qab rfl rfl (qb2 ra2.k rb2.k c_key) ?_ | refine qab rfl rfl (qb2 ra2.t rb2.t c_to) ?_ | refine qab rfl rfl (qb2 ra2.v rb2.v c_value) ?_ | refine qab rfl rfl (qb2 ra2.w rb2.w c_was) ?_ | refine qak rfl rfl rfl c_kind ?_ | refine qb5 rfl rfl c_none ?_ | refine qak rfl rfl rfl c_most ?_ | refine qag (v := .bool _) rfl rfl ?_))
        exact ⟨_, aC rfl, rfl, hx, by rw [Al (ask_ext c_kind c_key c_to c_value c_was c_none c_most)]; rfl, rfl⟩
       ·
        repeat (first | refine W.w ?_ | (refine zz rfl ?_; first | refine qae rfl ?_ | refine qaa rfl ?_ | refine qan rfl ?_ | refine qaf rfl rfl hg1 rfl ?_ | refine qaf rfl rfl hg2 rfl ?_ | refine qab rfl rfl (qb2 ra2.k rb2.k c_key) ?_ | refine qab rfl rfl (qb2 ra2.t rb2.t c_to) ?_ | refine qab rfl rfl (qb2 ra2.v rb2.v c_value) ?_ | refine qab rfl rfl (qb2 ra2.w rb2.w c_was) ?_ | refine qak rfl rfl rfl c_kind ?_ | refine qb5 rfl rfl c_none ?_ | refine qai rfl rfl rfl c_most ?_ | refine qag (v := .bool _) rfl rfl ?_))
        exact ⟨_, aC rfl, rfl, hx, by rw [Af fun e => c_most (congrArg AskM.most e)]; rfl, rfl⟩
      ·
       repeat (first | refine W.w ?_ | refine aK rfl rfl ?_ | (refine zz rfl ?_; first | refine qae rfl ?_ | refine qaa rfl ?_ | refine qan rfl ?_ | refine qaf rfl rfl hg1 rfl ?_ | refine qaf rfl rfl hg2 rfl ?_ | refine qab rfl rfl (qb2 ra2.k rb2.k c_key) ?_ | refine qab rfl rfl (qb2 ra2.t rb2.t c_to) ?_ | refine qab rfl rfl (qb2 ra2.v rb2.v c_value) ?_ | refine qab rfl rfl (qb2 ra2.w rb2.w c_was) ?_ | refine qak rfl rfl rfl c_kind ?_ | refine qfd rfl rfl c_none ?_ | refine qag (v := .bool _) rfl rfl ?_))
       exact ⟨_, aC rfl, rfl, hx, by rw [Af fun e => c_none (congrArg AskM.none e)]; rfl, rfl⟩
     ·
      repeat (first | refine W.w ?_ | refine aK rfl rfl ?_ | (refine zz rfl ?_; first | refine qae rfl ?_ | refine qaa rfl ?_ | refine qan rfl ?_ | refine qaf rfl rfl hg1 rfl ?_ | refine qaf rfl rfl hg2 rfl ?_ | refine qab rfl rfl (qb2 ra2.k rb2.k c_key) ?_ | refine qab rfl rfl (qb2 ra2.t rb2.t c_to) ?_ | refine qab rfl rfl (qb2 ra2.v rb2.v c_value) ?_ | refine qab rfl rfl (qb2 ra2.w rb2.w c_was) ?_ | refine qai rfl rfl rfl c_kind ?_ | refine qag (v := .bool _) rfl rfl ?_))
      exact ⟨_, aC rfl, rfl, hx, by rw [Af fun e => c_kind (congrArg AskM.kind e)]; rfl, rfl⟩
    ·
     repeat (first | refine W.w ?_ | refine aK rfl rfl ?_ | (refine zz rfl ?_; first | refine qae rfl ?_ | refine qaa rfl ?_ | refine qan rfl ?_ | refine qaf rfl rfl hg1 rfl ?_ | refine qaf rfl rfl hg2 rfl ?_ | refine qab rfl rfl (qb2 ra2.k rb2.k c_key) ?_ | refine qab rfl rfl (qb2 ra2.t rb2.t c_to) ?_ | refine qab rfl rfl (qb2 ra2.v rb2.v c_value) ?_ | refine qab rfl rfl (beq_n ra2.w rb2.w c_was) ?_ | refine qag (v := .bool _) rfl rfl ?_))
     exact ⟨_, aC rfl, rfl, hx, by rw [Af fun e => c_was (congrArg AskM.was e)]; rfl, rfl⟩
   ·
    repeat (first | refine W.w ?_ | refine aK rfl rfl ?_ | (refine zz rfl ?_; first | refine qae rfl ?_ | refine qaa rfl ?_ | refine qan rfl ?_ | refine qaf rfl rfl hg1 rfl ?_ | refine qaf rfl rfl hg2 rfl ?_ | refine qab rfl rfl (qb2 ra2.k rb2.k c_key) ?_ | refine qab rfl rfl (qb2 ra2.t rb2.t c_to) ?_ | refine qab rfl rfl (beq_n ra2.v rb2.v c_value) ?_ | refine qag (v := .bool _) rfl rfl ?_))
    exact ⟨_, aC rfl, rfl, hx, by rw [Af fun e => c_value (congrArg AskM.value e)]; rfl, rfl⟩
  ·
   repeat (first | refine W.w ?_ | refine aK rfl rfl ?_ | (refine zz rfl ?_; first | refine qae rfl ?_ | refine qaa rfl ?_ | refine qan rfl ?_ | refine qaf rfl rfl hg1 rfl ?_ | refine qaf rfl rfl hg2 rfl ?_ | refine qab rfl rfl (qb2 ra2.k rb2.k c_key) ?_ | refine qab rfl rfl (beq_n ra2.t rb2.t c_to) ?_ | refine qag (v := .bool _) rfl rfl ?_))
   exact ⟨_, aC rfl, rfl, hx, by rw [Af fun e => c_to (congrArg AskM.to e)]; rfl, rfl⟩
 ·
  repeat (first | refine W.w ?_ | refine aK rfl rfl ?_ | (refine zz rfl ?_; first | refine qae rfl ?_ | refine qaa rfl ?_ | refine qan rfl ?_ | refine qaf rfl rfl hg1 rfl ?_ | refine qaf rfl rfl hg2 rfl ?_ | refine qab rfl rfl (beq_n ra2.k rb2.k c_key) ?_ | refine qag (v := .bool _) rfl rfl ?_))
  exact ⟨_, aC rfl, rfl, hx, by rw [Af fun e => c_key (congrArg AskM.key e)]; rfl, rfl⟩
instance i_TyD_int64 : TyD prog 2 (.int .i64) := ⟨underlying2⟩
instance i_TyI_int64 : TyI prog 2 1 8 (.int .i64 0) := ⟨qaV (by kernel_rfl), rfl, rfl⟩
instance i_TyD_api_CmdKind : TyD prog 30 (.int .i64) := ⟨underlying30⟩
instance i_TyI_api_CmdKind : TyI prog 30 1 8 (.int .i64 0) := ⟨qaV (by kernel_rfl), rfl, rfl⟩
instance i_TyD_api_Kind : TyD prog 169 (.int .i64) := ⟨underlying169⟩
instance i_TyI_api_Kind : TyI prog 169 1 8 (.int .i64 0) := ⟨qaV (by kernel_rfl), rfl, rfl⟩
instance i_TyD_api_ActKind : TyD prog 25 (.int .i64) := ⟨underlying25⟩
instance i_TyI_api_ActKind : TyI prog 25 1 8 (.int .i64 0) := ⟨qaV (by kernel_rfl), rfl, rfl⟩
instance i_TyD_api_Errno : TyD prog 48 (.int .i64) := ⟨underlying48⟩
instance i_TyI_api_Errno : TyI prog 48 1 8 (.int .i64 0) := ⟨qaV (by kernel_rfl), rfl, rfl⟩
instance i_TyD_api_Request : TyD prog 32 (.struct #[fd "Client" 3 0 "" 0, fd "Number" 2 1 "" 8, fd "Ask" 29 2 "" 16]) := ⟨underlying32⟩
instance i_TyI_api_Request : TyI prog 32 9 136 (.agg #[.int .i64 0, .int .i64 0, .int .i64 0, .slice none 0 0, .slice none 0 0, .slice none 0 0, .slice none 0 0, .bool false, .int .i64 0]) := ⟨qaV (by kernel_rfl), rfl, rfl⟩
instance qg3 : FAd prog 32 0 0 := bA (ft := 3) underlying32 rfl rfl rfl rfl
instance qgB : FAd prog 32 1 1 := bA (ft := 2) underlying32 rfl rfl rfl rfl
instance qgs : FAd prog 32 2 2 := bA (ft := 29) underlying32 rfl rfl rfl rfl
instance i_TyD_api_Move : TyD prog 34 (.struct #[fd "Number" 2 0 "" 0, fd "From" 27 1 "" 8, fd "To" 27 2 "" 32, fd "End" 4 3 "" 56, fd "Old" 3 4 "" 64, fd "New" 3 5 "" 72]) := ⟨underlying34⟩
instance i_TyI_api_Move : TyI prog 34 6 80 (.agg #[.int .i64 0, .slice none 0 0, .slice none 0 0, .bool false, .int .i64 0, .int .i64 0]) := ⟨qaV (by kernel_rfl), rfl, rfl⟩
instance qil : FAd prog 34 0 0 := bA (ft := 2) underlying34 rfl rfl rfl rfl
instance qiK : FAd prog 34 1 1 := bA (ft := 27) underlying34 rfl rfl rfl rfl
instance qit : FAd prog 34 2 2 := bA (ft := 27) underlying34 rfl rfl rfl rfl
instance qik : FAd prog 34 3 3 := bA (ft := 4) underlying34 rfl rfl rfl rfl
instance qiL : FAd prog 34 4 4 := bA (ft := 3) underlying34 rfl rfl rfl rfl
instance qiM : FAd prog 34 5 5 := bA (ft := 3) underlying34 rfl rfl rfl rfl
instance i_TyD_api_Entry : TyD prog 171 (.struct #[fd "Key" 27 0 "" 0, fd "Seq" 2 1 "" 24, fd "Kind" 169 2 "" 32, fd "Value" 27 3 "" 40]) := ⟨underlying171⟩
instance i_TyI_api_Entry : TyI prog 171 4 64 (.agg #[.slice none 0 0, .int .i64 0, .int .i64 0, .slice none 0 0]) := ⟨qaV (by kernel_rfl), rfl, rfl⟩
instance qhw : FAd prog 171 0 0 := bA (ft := 27) underlying171 rfl rfl rfl rfl
instance qhA : FAd prog 171 1 1 := bA (ft := 2) underlying171 rfl rfl rfl rfl
instance qhC : FAd prog 171 2 2 := bA (ft := 169) underlying171 rfl rfl rfl rfl
instance qhS : FAd prog 171 3 3 := bA (ft := 27) underlying171 rfl rfl rfl rfl
instance qh5 : TyD prog 35 (.slice 171) := ⟨underlying35⟩
instance qiw : TyI prog 35 1 24 (.slice none 0 0) := ⟨qaV (by kernel_rfl), rfl, rfl⟩
instance i_TyD_api_Command : TyD prog 37 (.struct #[fd "Kind" 30 0 "" 0, fd "Request" 32 1 "" 8, fd "Move" 34 10 "" 144, fd "Entries" 35 16 "" 224, fd "Answers" 27 17 "" 248, fd "Key" 27 18 "" 272, fd "Group" 3 19 "" 296]) := ⟨underlying37⟩
instance i_TyI_api_Command : TyI prog 37 20 304 (.agg #[.int .i64 0, .int .i64 0, .int .i64 0, .int .i64 0, .slice none 0 0, .slice none 0 0, .slice none 0 0, .slice none 0 0, .bool false, .int .i64 0, .int .i64 0, .slice none 0 0, .slice none 0 0, .bool false, .int .i64 0, .int .i64 0, .slice none 0 0, .slice none 0 0, .slice none 0 0, .int .i64 0]) := ⟨qaV (by kernel_rfl), rfl, rfl⟩
instance i_StD_api_Command : StD prog 37 [(0, 1), (1, 9), (10, 6), (16, 1), (17, 1), (18, 1), (19, 1)] := ⟨_, underlying37, by kernel_rfl⟩
instance qg1 : FAd prog 37 0 0 := bA (ft := 30) underlying37 rfl rfl rfl rfl
instance qgu : FAd prog 37 1 1 := bA (ft := 32) underlying37 rfl rfl rfl rfl
instance qga : FAd prog 37 2 10 := bA (ft := 34) underlying37 rfl rfl rfl rfl
instance qf2 : FAd prog 37 3 16 := bA (ft := 35) underlying37 rfl rfl rfl rfl
instance qf7 : FAd prog 37 4 17 := bA (ft := 27) underlying37 rfl rfl rfl rfl
instance qf4 : FAd prog 37 5 18 := bA (ft := 27) underlying37 rfl rfl rfl rfl
instance qf8 : FAd prog 37 6 19 := bA (ft := 3) underlying37 rfl rfl rfl rfl
instance i_TyD_api_Kept : TyD prog 79 (.struct #[fd "Name" 9 0 "" 0, fd "Loose" 3 1 "" 16]) := ⟨underlying79⟩
instance i_TyI_api_Kept : TyI prog 79 2 24 (.agg #[.string ⟨#[]⟩, .int .i64 0]) := ⟨qaV (by kernel_rfl), rfl, rfl⟩
instance i_StD_api_Kept : StD prog 79 [(0, 1), (1, 1)] := ⟨_, underlying79, by kernel_rfl⟩
instance qh9 : FAd prog 79 0 0 := bA (ft := 9) underlying79 rfl rfl rfl rfl
instance qif : FAd prog 79 1 1 := bA (ft := 3) underlying79 rfl rfl rfl rfl
instance i_TyD_Sl_api_Kept : TyD prog 38 (.slice 79) := ⟨underlying38⟩
instance i_TyI_Sl_api_Kept : TyI prog 38 1 24 (.slice none 0 0) := ⟨qaV (by kernel_rfl), rfl, rfl⟩
instance i_TyD_api_Act : TyD prog 40 (.struct #[fd "Kind" 25 0 "" 0, fd "Node" 3 1 "" 8, fd "Group" 3 2 "" 16, fd "Client" 3 3 "" 24, fd "N" 3 4 "" 32, fd "Ask" 29 5 "" 40, fd "Command" 37 12 "" 160, fd "Keep" 38 32 "" 464]) := ⟨underlying40⟩
instance i_TyI_api_Act : TyI prog 40 33 488 (.agg #[.int .i64 0, .int .i64 0, .int .i64 0, .int .i64 0, .int .i64 0, .int .i64 0, .slice none 0 0, .slice none 0 0, .slice none 0 0, .slice none 0 0, .bool false, .int .i64 0, .int .i64 0, .int .i64 0, .int .i64 0, .int .i64 0, .slice none 0 0, .slice none 0 0, .slice none 0 0, .slice none 0 0, .bool false, .int .i64 0, .int .i64 0, .slice none 0 0, .slice none 0 0, .bool false, .int .i64 0, .int .i64 0, .slice none 0 0, .slice none 0 0, .slice none 0 0, .int .i64 0, .slice none 0 0]) := ⟨qaV (by kernel_rfl), rfl, rfl⟩
instance i_StD_api_Act : StD prog 40 [(0, 1), (1, 1), (2, 1), (3, 1), (4, 1), (5, 7), (12, 20), (32, 1)] := ⟨_, underlying40, by kernel_rfl⟩
instance i_FAd_api_Act_0_0 : FAd prog 40 0 0 := bA (ft := 25) underlying40 rfl rfl rfl rfl
instance i_FAd_api_Act_1_1 : FAd prog 40 1 1 := bA (ft := 3) underlying40 rfl rfl rfl rfl
instance i_FAd_api_Act_2_2 : FAd prog 40 2 2 := bA (ft := 3) underlying40 rfl rfl rfl rfl
instance i_FAd_api_Act_3_3 : FAd prog 40 3 3 := bA (ft := 3) underlying40 rfl rfl rfl rfl
instance i_FAd_api_Act_4_4 : FAd prog 40 4 4 := bA (ft := 3) underlying40 rfl rfl rfl rfl
instance i_FAd_api_Act_5_5 : FAd prog 40 5 5 := bA (ft := 29) underlying40 rfl rfl rfl rfl
instance qic : FAd prog 40 6 12 := bA (ft := 37) underlying40 rfl rfl rfl rfl
instance qib : FAd prog 40 7 32 := bA (ft := 38) underlying40 rfl rfl rfl rfl
instance i_TyD_Sl_api_Act : TyD prog 42 (.slice 40) := ⟨underlying42⟩
instance i_TyI_Sl_api_Act : TyI prog 42 1 24 (.slice none 0 0) := ⟨qaV (by kernel_rfl), rfl, rfl⟩
structure MoveV where
 f : Value
 t : Value
structure CmdV where
 r : AskV
 m : MoveV
 e : Value
 n : Value
 k : Value
structure ActV where
 q : AskV
 c : CmdV
 k : Value
def moveC (q : MoveV) (m : MoveM) : List Value := [.int .i64 m.number, q.f, q.t, .bool m.end_, .int .i64 m.old, .int .i64 m.new]
def cmdC (q : CmdV) (c : CmdM) : List Value := [.int .i64 c.kind, .int .i64 c.req.client, .int .i64 c.req.number, .int .i64 c.req.ask.kind, q.r.k, q.r.t, q.r.v, q.r.w, .bool c.req.ask.none, .int .i64 c.req.ask.most,
 .int .i64 c.move.number, q.m.f, q.m.t, .bool c.move.end_, .int .i64 c.move.old, .int .i64 c.move.new, q.e, q.n, q.k, .int .i64 c.group]
def actC (q : ActV) (a : ActM) : List Value := [.int .i64 a.kind, .int .i64 a.node, .int .i64 a.group, .int .i64 a.client, .int .i64 a.n, .int .i64 a.ask.kind, q.q.k, q.q.t, q.q.v, q.q.w, .bool a.ask.none, .int .i64 a.ask.most,
 .int .i64 a.cmd.kind, .int .i64 a.cmd.req.client, .int .i64 a.cmd.req.number, .int .i64 a.cmd.req.ask.kind, q.c.r.k, q.c.r.t, q.c.r.v, q.c.r.w, .bool a.cmd.req.ask.none, .int .i64 a.cmd.req.ask.most,
 .int .i64 a.cmd.move.number, q.c.m.f, q.c.m.t, .bool a.cmd.move.end_, .int .i64 a.cmd.move.old, .int .i64 a.cmd.move.new, q.c.e, q.c.n, q.c.k, .int .i64 a.cmd.group, q.k]
structure MoveR (h : Heap) (q : MoveV) (m : MoveM) : Prop where
 f : RB h q.f m.from_
 t : RB h q.t m.to
def EntR (h : Heap) (row : List Value) (e : EntM) : Prop := ∃ kv vv, row = [kv, .int .i64 e.seq, .int .i64 e.kind, vv] ∧ RB h kv e.key ∧ RB h vv e.value
structure RE (h : Heap) (v : Value) (l : List EntM) : Prop where
 ex : ∃ rows, RN 4 h v rows ∧ rows.length = l.length ∧ ∀ (k : Nat) row e, rows[k]? = some row → l[k]? = some e → EntR h row e
 len : l.length ≤ 140737488351232
def keptR (x : Bytes × Int) : List Value := [str x.1, .int .i64 x.2]
structure RK (h : Heap) (v : Value) (l : List (Bytes × Int)) : Prop where
 rn : RN 2 h v (l.map keptR)
 len : l.length ≤ 140737488351232
structure CmdR (h : Heap) (q : CmdV) (c : CmdM) : Prop where
 r : AskR h q.r c.req.ask
 m : MoveR h q.m c.move
 e : RE h q.e c.entries
 n : RB h q.n c.answers
 k : RB h q.k c.key
structure ActR (h : Heap) (q : ActV) (a : ActM) : Prop where
 ra : AskR h q.q a.ask
 rc : CmdR h q.c a.cmd
 rk : RK h q.k a.keep
theorem MoveR.ext {h h' : Heap} {q : MoveV} {a : MoveM} (r : MoveR h q a) (hx : Ext h h') : MoveR h' q a := ⟨r.f.ext hx, r.t.ext hx⟩
theorem EntR.ext {h h' : Heap} {row : List Value} {e : EntM} (r : EntR h row e) (hx : Ext h h') : EntR h' row e := by
 obtain ⟨kv, vv, h1, h2, h3⟩ := r
 exact ⟨kv, vv, h1, h2.ext hx, h3.ext hx⟩
theorem RE.ext {h h' : Heap} {v : Value} {l : List EntM} (r : RE h v l) (hx : Ext h h') : RE h' v l := by
 obtain ⟨rows, h1, h2, h3⟩ := r.ex
 exact ⟨⟨rows, h1.ext hx, h2, fun k row e hr he => (h3 k row e hr he).ext hx⟩, r.len⟩
theorem RK.ext {h h' : Heap} {v : Value} {l : List (Bytes × Int)} (r : RK h v l) (hx : Ext h h') : RK h' v l := ⟨r.rn.ext hx, r.len⟩
theorem CmdR.ext {h h' : Heap} {q : CmdV} {a : CmdM} (r : CmdR h q a) (hx : Ext h h') : CmdR h' q a := ⟨r.r.ext hx, r.m.ext hx, r.e.ext hx, r.n.ext hx, r.k.ext hx⟩
theorem ActR.ext {h h' : Heap} {q : ActV} {a : ActM} (r : ActR h q a) (hx : Ext h h') : ActR h' q a := ⟨r.ra.ext hx, r.rc.ext hx, r.rk.ext hx⟩
theorem RE.nil (h : Heap) : RE h (.slice none 0 0) [] := ⟨⟨[], RN.nil _ _, rfl, fun k row e hr => by simp at hr⟩, Ao _⟩
abbrev cZ := @RE.nil
theorem RK.nil (h : Heap) : RK h (.slice none 0 0) [] := ⟨RN.nil _ _, Ao _⟩
def askV0 : AskV := ⟨.slice none 0 0, .slice none 0 0, .slice none 0 0, .slice none 0 0⟩
def cmdV0 : CmdV := ⟨askV0, ⟨.slice none 0 0, .slice none 0 0⟩, .slice none 0 0, .slice none 0 0, .slice none 0 0⟩
def actV0 : ActV := ⟨askV0, cmdV0, .slice none 0 0⟩
theorem AskR.nil (h : Heap) : AskR h askV0 ask0 := ⟨bR h, bR h, bR h, bR h⟩
theorem CmdR.nil (h : Heap) : CmdR h cmdV0 cmd0 := ⟨AskR.nil h, ⟨bR h, bR h⟩, cZ h, bR h, bR h⟩
abbrev bQ := @CmdR.nil
theorem ActR.nil (h : Heap) : ActR h actV0 act0 := ⟨AskR.nil h, bQ h, RK.nil h⟩
instance qfS : FnC prog 145 := ⟨Tryz.f145, func145, by kernel_rfl, by kernel_rfl⟩
instance qdE : FnC prog 146 := ⟨Tryz.f146, func146, by kernel_rfl, by kernel_rfl⟩
instance qdI : FnC prog 111 := ⟨Tryz.f111, func111, by kernel_rfl, by kernel_rfl⟩
theorem qix {a b : MoveM} : a = b ↔ a.number = b.number ∧ a.from_ = b.from_ ∧ a.to = b.to ∧ a.end_ = b.end_ ∧ a.old = b.old ∧ a.new = b.new := by
 cases a; cases b; simp
theorem ent_ext {a b : EntM} : a = b ↔ a.key = b.key ∧ a.seq = b.seq ∧ a.kind = b.kind ∧ a.value = b.value := by
 cases a; cases b; simp
theorem cmd_ext {a b : CmdM} : a = b ↔ a.kind = b.kind ∧ a.req.client = b.req.client ∧ a.req.number = b.req.number ∧ a.req.ask = b.req.ask ∧ a.move = b.move ∧ a.entries = b.entries ∧ a.answers = b.answers ∧ a.key = b.key ∧ a.group = b.group := by
 obtain ⟨_, ⟨_, _, _⟩, _, _, _, _, _⟩ := a
 obtain ⟨_, ⟨_, _, _⟩, _, _, _, _, _⟩ := b
 simp [and_assoc]
theorem act_ext {a b : ActM} : a = b ↔ a.kind = b.kind ∧ a.node = b.node ∧ a.group = b.group ∧ a.client = b.client ∧ a.n = b.n ∧ a.ask = b.ask ∧ a.cmd = b.cmd ∧ a.keep = b.keep := by
 cases a; cases b; simp
theorem sameMove_c (p q : MoveV) (a b : MoveM) (h : Heap) (ra : MoveR h p a) (rb : MoveR h q b) : ACalls prog 146 [.agg (moveC p a).toArray, .agg (moveC q b).toArray] h fun u h' => u = .bool (decide (a = b)) ∧ h' = h := by
 refine aL fun wf => aO ?_
 refine aD func146 rfl rfl ?_
 repeat (first | refine W.w ?_ | refine zz rfl (qaa rfl ?_) | refine zz rfl (qaS rfl (by intro e; cases e) ?_))
 generalize hH : h.alloc _ = H1
 have hg0 : H1.get h.next = some ⟨moveC p a, 34, true⟩ := hH ▸ aB _ _
 have hx1 : Ext h H1 := hH ▸ wf.ext _
 have wf1 : WF H1 := hH ▸ wf.alloc _
 skip
 generalize hH2 : H1.alloc _ = H
 have hg2 : H.get H1.next = some ⟨moveC q b, 34, true⟩ := hH2 ▸ aB _ _
 have hx2 : Ext H1 H := hH2 ▸ wf1.ext _
 have hg1 : H.get h.next = some ⟨moveC p a, 34, true⟩ := hx2.c _ _ hg0
 have hx : Ext h H := hx1.trans hx2
 clear hH hH2
 obtain ⟨a1, a2⟩ := ra.ext hx
 obtain ⟨b1, b2⟩ := rb.ext hx
 repeat' (first | refine W.w ?_ | refine aK rfl rfl ?_ | (refine zz rfl ?_; first | refine qae rfl ?_ | refine qaa rfl ?_ | refine qan rfl ?_ | refine qaf rfl rfl hg1 rfl ?_ | refine qaf rfl rfl hg2 rfl ?_ | refine qaU rfl rfl (qcn _ _ _ _ _ (by assumption) (by assumption)) (fun c => ?_) (fun c => ?_) | refine qfc rfl rfl (fun c => ?_) (fun c => ?_) | refine qaT rfl rfl rfl (fun c => ?_) (fun c => ?_) | refine qag (v := .bool _) rfl rfl ?_))
 all_goals refine ⟨_, aC rfl, rfl, hx, congrArg Value.bool ?_, rfl⟩
 all_goals grind [qix]
def entC (kv vv : Value) (e : EntM) : List Value := [kv, .int .i64 e.seq, .int .i64 e.kind, vv]
theorem sameEnt_c (k1 v1 k2 v2 : Value) (a b : EntM) (h : Heap) (ra1 : RB h k1 a.key) (ra2 : RB h v1 a.value) (rb1 : RB h k2 b.key) (rb2 : RB h v2 b.value) : ACalls prog 145 [.agg (entC k1 v1 a).toArray, .agg (entC k2 v2 b).toArray] h fun u h' => u = .bool (decide (a = b)) ∧ h' = h := by
 refine aL fun wf => aO ?_
 refine aD func145 rfl rfl ?_
 repeat (first | refine W.w ?_ | refine zz rfl (qaa rfl ?_) | refine zz rfl (qaS rfl (by intro e; cases e) ?_))
 generalize hH : h.alloc _ = H1
 have hg0 : H1.get h.next = some ⟨entC k1 v1 a, 171, true⟩ := hH ▸ aB _ _
 have hx1 : Ext h H1 := hH ▸ wf.ext _
 have wf1 : WF H1 := hH ▸ wf.alloc _
 skip
 generalize hH2 : H1.alloc _ = H
 have hg2 : H.get H1.next = some ⟨entC k2 v2 b, 171, true⟩ := hH2 ▸ aB _ _
 have hx2 : Ext H1 H := hH2 ▸ wf1.ext _
 have hg1 : H.get h.next = some ⟨entC k1 v1 a, 171, true⟩ := hx2.c _ _ hg0
 have hx : Ext h H := hx1.trans hx2
 clear hH hH2
 have a1 := ra1.ext hx
 have a2 := ra2.ext hx
 have b1 := rb1.ext hx
 have b2 := rb2.ext hx
 repeat' (first | refine W.w ?_ | refine aK rfl rfl ?_ | (refine zz rfl ?_; first | refine qae rfl ?_ | refine qaa rfl ?_ | refine qan rfl ?_ | refine qaf rfl rfl hg1 rfl ?_ | refine qaf rfl rfl hg2 rfl ?_ | refine qaU rfl rfl (qcn _ _ _ _ _ (by assumption) (by assumption)) (fun c => ?_) (fun c => ?_) | refine qaT rfl rfl rfl (fun c => ?_) (fun c => ?_) | refine qag (v := .bool _) rfl rfl ?_))
 all_goals refine ⟨_, aC rfl, rfl, hx, congrArg Value.bool ?_, rfl⟩
 all_goals grind [ent_ext]
theorem qeJ {α : Type} {a b : List α} {k : Nat} {x y : α} (h : a.take k = b.take k) (hx : a[k]? = some x) (hy : b[k]? = some y) : a.take (k + 1) = b.take (k + 1) ↔ x = y := by
 rw [Bf, Bf, h, hx, hy]
 simp
theorem eqEnt_c (u v : Value) (a b : List EntM) (h : Heap) (ra : RE h u a) (rb : RE h v b) : ACalls prog 144 [u, v, .func (.func 145) #[] #[]] h fun x h' => x = .bool (decide (a = b)) ∧ h' = h := by
 refine aL fun wf => aO ?_
 refine aD func144 rfl rfl ?_
 obtain ⟨ro, r1, r2, r3⟩ := ra.ex
 obtain ⟨so, s1, s2, s3⟩ := rb.ex
 obtain ⟨ua, uc, hu⟩ := r1.slice
 obtain ⟨va, vc, hv⟩ := s1.slice
 by_cases hl : a.length = b.length
 ·
  repeat (first | refine W.w ?_ | refine aG rfl ?_ | (refine zz rfl ?_; first | refine qac rfl ?_ | refine qaa rfl ?_ | refine qaA r1 rfl ?_ | refine qaA s1 rfl ?_ | refine qai rfl rfl rfl (by omega) ?_ | refine qal (v := u) rfl ?_ | refine qal (v := v) rfl ?_))
  refine bB (α := Nat × Heap) (fun d => [(0, u), (1, v), (2, .func (.func 145) #[] #[]), (15, u), (16, .int .i64 (ro.length : Nat)), (17, .int .i64 (d.1 : Nat))]) (fun d => d.2) (fun d => d.1 ≤ a.length ∧ a.take d.1 = b.take d.1 ∧ Ext h d.2 ∧ WF d.2) (fun d => a.length - d.1) (0, h) ⟨Ao _, rfl, aU h, wf⟩ (aI (aA rfl (aA rfl (aA rfl (aA rfl (aA rfl (aA rfl aN))))))) ?_
  rintro ⟨k, H⟩ ⟨hk, hp, hx, wfH⟩
  replace hk : k ≤ a.length := hk
  replace hp : a.take k = b.take k := hp
  replace hx : Ext h H := hx
  replace wfH : WF H := wfH
  show AWp _ _ _ _ [(0, u), (1, v), (2, .func (.func 145) #[] #[]), (15, u), (16, .int .i64 (ro.length : Nat)), (17, .int .i64 (k : Nat))] H
  have hlen := ra.len
  by_cases hlt : k < a.length
  ·
   obtain ⟨x, hxa⟩ := gX (l := a) (k := k) hlt
   obtain ⟨y, hyb⟩ := gX (l := b) (k := k) (by omega)
   obtain ⟨p, hpa⟩ := gX (l := ro) (k := k) (by omega)
   obtain ⟨q, hqb⟩ := gX (l := so) (k := k) (by omega)
   obtain ⟨k1, v1, rfl, a1, a2⟩ := r3 k p x hpa hxa
   obtain ⟨k2, v2, rfl, b1, b2⟩ := s3 k q y hqb hyb
   have hte := qeJ hp hxa hyb
   have o1 := a1.one
   have o2 := a2.one
   have o3 := b1.one
   have o4 := b2.one
   repeat (first | refine W.w ?_ | refine aE rfl ?_ | (refine zz rfl ?_; first | refine qac rfl ?_ | refine qak rfl rfl rfl (by omega) ?_ | refine qeg (r1.ext hx) rfl rfl (by omega) (show ro[((k : Nat) : Int).toNat]? = some _ from hpa) ?_))
   intro pp hpp
   repeat (first | refine W.w ?_ | refine aJ rfl (qaL (vs := entC k1 v1 x) rfl rfl rfl rfl (by unfold entC; simp only [Bc, o1.1, o2.1]; rfl) ?_) | (refine zz rfl ?_; first | refine qac rfl ?_ | refine qad rfl ?_ | refine qaW hpp rfl rfl rfl ?_ | refine qax ?_ | refine qal (by conv => lhs; whnf) ?_))
   obtain ⟨H1, hQ, g1, x1, wf1, _⟩ := aq wfH ⟨entC k1 v1 x, 171, true⟩
   rw [hQ]
   repeat (first | refine zz rfl (qeg (s1.ext (hx.trans x1)) rfl rfl (by omega) (show so[((k : Nat) : Int).toNat]? = some _ from hqb) ?_))
   intro qq hqq
   repeat (first | refine W.w ?_ | refine aJ rfl (qaL (vs := entC k2 v2 y) rfl rfl rfl rfl (by unfold entC; simp only [Bc, o3.1, o4.1]; rfl) ?_) | (refine zz rfl ?_; first | refine qbl rfl ?_ | refine qaW hqq rfl rfl rfl ?_ | refine qax ?_))
   obtain ⟨H2, hQ, g2, x2, wf2, _⟩ := aq wf1 ⟨entC k2 v2 y, 171, true⟩
   rw [hQ]
   have hx2 := hx.trans (x1.trans x2)
   have ce := sameEnt_c k1 v1 k2 v2 x y H2 (a1.ext hx2) (a2.ext hx2) (b1.ext hx2) (b2.ext hx2)
   repeat' (first | refine W.w ?_ | refine aE rfl ?_ | refine aG rfl ?_ | (refine zz rfl ?_; first | refine qac rfl ?_ | refine qaa rfl ?_ | refine qam (sz := 4) rfl rfl (x2.c _ _ g1) (Aa _) ?_ | refine qam (sz := 4) rfl rfl g2 (Aa _) ?_ | refine qaU rfl rfl ce (fun c => ?_) (fun c => ?_) | refine qau rfl rfl (by omega) ?_ | refine qaF rfl ?_))
   ·
    exact ⟨(k + 1, H2), ⟨hlt, hte.2 (of_decide_eq_true c), hx2, wf2⟩, by show a.length - (k + 1) < a.length - k; omega, aI (aA rfl (aA rfl (aA rfl (aA rfl (aA rfl (aA rfl aN))))))⟩
   ·
    refine ⟨_, aC rfl, rfl, hx2, congrArg Value.bool (Af fun e => ?_).symm, rfl⟩
    exact of_decide_eq_false c (hte.1 (by rw [e]))
  ·
   obtain rfl : k = a.length := by omega
   rw [Au, hl, Au] at hp
   repeat (first | refine aW ?_ | refine aR ?_ | refine aY ?_ | refine aG rfl ?_ | refine aM ?_ | refine aP ?_ | refine zz rfl (qaa rfl ?_) | refine zz rfl (qai rfl rfl rfl (by omega) ?_))
   exact ⟨_, aC rfl, rfl, hx, congrArg Value.bool (Al hp).symm, rfl⟩
 ·
  repeat (first | refine W.w ?_ | refine aE rfl ?_ | (refine zz rfl ?_; first | refine qaa rfl ?_ | refine qaA r1 rfl ?_ | refine qaA s1 rfl ?_ | refine qak rfl rfl rfl (by omega) ?_ | refine qal (by conv => lhs; whnf) ?_))
  refine ⟨_, aC rfl, rfl, aU h, congrArg Value.bool (Af fun e => hl (by rw [e])).symm, rfl⟩
instance qa7 : FnC prog 144 := ⟨Tryz.f144, func144, by kernel_rfl, by kernel_rfl⟩
instance qeR : FnC prog 112 := ⟨Tryz.f112, func112, by kernel_rfl, by kernel_rfl⟩
instance qbS : FnC prog 113 := ⟨Tryz.f113, func113, by kernel_rfl, by kernel_rfl⟩
instance qd2 : FnC prog 70 := ⟨Tryz.f70, func70, by kernel_rfl, by kernel_rfl⟩
theorem qgQ (p q : CmdV) (a b : CmdM) (h : Heap) (ra : CmdR h p a) (rb : CmdR h q b) : ACalls prog 112 [.agg (cmdC p a).toArray, .agg (cmdC q b).toArray] h fun u h' => u = .bool (decide (a = b)) ∧ h' = h := by
 refine aL fun wf => aO ?_
 refine aD func112 rfl rfl ?_
 repeat (first | refine W.w ?_ | refine zz rfl (qaa rfl ?_) | refine zz rfl (qaS rfl (by intro e; cases e) ?_))
 generalize hH : h.alloc _ = H1
 have hg0 : H1.get h.next = some ⟨cmdC p a, 37, true⟩ := hH ▸ aB _ _
 have hx1 : Ext h H1 := hH ▸ wf.ext _
 have wf1 : WF H1 := hH ▸ wf.alloc _
 skip
 generalize hH2 : H1.alloc _ = H
 have hg2 : H.get H1.next = some ⟨cmdC q b, 37, true⟩ := hH2 ▸ aB _ _
 have hx2 : Ext H1 H := hH2 ▸ wf1.ext _
 have hg1 : H.get h.next = some ⟨cmdC p a, 37, true⟩ := hx2.c _ _ hg0
 have hx : Ext h H := hx1.trans hx2
 clear hH hH2
 obtain ⟨a1, a2, a3, a4, a5⟩ := ra.ext hx
 obtain ⟨b1, b2, b3, b4, b5⟩ := rb.ext hx
 have cA := qgv p.r q.r a.req.ask b.req.ask H a1 b1
 have cM := sameMove_c p.m q.m a.move b.move H a2 b2
 have cE := eqEnt_c p.e q.e a.entries b.entries H a3 b3
 repeat' (first | refine W.w ?_ | refine aK rfl rfl ?_ | (refine zz rfl ?_; first | refine qae rfl ?_ | refine qaa rfl ?_ | refine qan rfl ?_ | refine qaf rfl rfl hg1 rfl ?_ | refine qaf rfl rfl hg2 rfl ?_ | refine qam (sz := 7) rfl rfl hg1 (Ab rfl) ?_ | refine qam (sz := 7) rfl rfl hg2 (Ab rfl) ?_ | refine qam (sz := 6) rfl rfl hg1 (Ab rfl) ?_ | refine qam (sz := 6) rfl rfl hg2 (Ab rfl) ?_ | refine qaU rfl rfl cA (fun c => ?_) (fun c => ?_) | refine qaU rfl rfl cM (fun c => ?_) (fun c => ?_) | refine qaU rfl rfl cE (fun c => ?_) (fun c => ?_) | refine qaU rfl rfl (qcn _ _ _ _ _ (by assumption) (by assumption)) (fun c => ?_) (fun c => ?_) | refine qaT rfl rfl rfl (fun c => ?_) (fun c => ?_) | refine qag (v := .bool _) rfl rfl ?_))
 all_goals refine ⟨_, aC rfl, rfl, hx, congrArg Value.bool ?_, rfl⟩
 all_goals clear a1 a2 a3 a4 a5 b1 b2 b3 b4 b5 cA cM cE hg0 hg1 hg2 hx1 hx2 hx wf wf1 ra rb
 all_goals grind [cmd_ext]
instance i_EqD_api_Kept : EqD prog 79 [(0, .string), (1, .int .i64)] := ⟨_, underlying79, by kernel_rfl, by kernel_rfl, by kernel_rfl⟩
theorem qgg (x y : Bytes × Int) : eqRows [(0, .string), (1, .int .i64)] (keptR x) (keptR y) = decide (x = y) := by
 show (eqV (.string (bstr x.1)) (.string (bstr y.1)) && (eqV (.int .i64 x.2) (.int .i64 y.2) && true)) = _
 rw [eqV_str]
 obtain ⟨a, b⟩ := x
 obtain ⟨c, d⟩ := y
 rw [Dd]
 simp [eqV]
theorem eqKept_c (u v : Value) (a b : List (Bytes × Int)) (h : Heap) (ra : RK h u a) (rb : RK h v b) : ACalls prog 113 [u, v] h fun x h' => x = .bool (decide (a = b)) ∧ h' = h := by
 refine aD func113 rfl rfl ?_
 have r1 := ra.rn
 have s1 := rb.rn
 obtain ⟨ua, uc, hu⟩ := r1.slice
 obtain ⟨va, vc, hv⟩ := s1.slice
 have l1 : (a.map keptR).length = a.length := Ap _
 have l2 : (b.map keptR).length = b.length := Ap _
 have hlen := ra.len
 by_cases hl : a.length = b.length
 ·
  repeat (first | refine W.w ?_ | refine aG rfl ?_ | (refine zz rfl ?_; first | refine qac rfl ?_ | refine qaa rfl ?_ | refine qaA r1 rfl ?_ | refine qaA s1 rfl ?_ | refine qai rfl rfl rfl (by omega) ?_ | refine qal (v := u) rfl ?_ | refine qal (v := v) rfl ?_))
  refine bB (α := Nat) (fun k => [(0, u), (1, v), (12, .int .i64 ((a.map keptR).length : Nat)), (13, .int .i64 (k : Nat))]) (fun _ => h) (fun k => k ≤ a.length ∧ a.take k = b.take k) (fun k => a.length - k) 0 ⟨Ao _, rfl⟩ (aI (aA rfl (aA rfl (aA rfl (aA rfl aN))))) ?_
  rintro k ⟨hk, hp⟩
  by_cases hlt : k < a.length
  ·
   obtain ⟨x, hxa⟩ := gX (l := a) (k := k) hlt
   obtain ⟨y, hyb⟩ := gX (l := b) (k := k) (by omega)
   have hx2 : (a.map keptR)[((k : Nat) : Int).toNat]? = some (keptR x) := by simp [hxa]
   have hy2 : (b.map keptR)[((k : Nat) : Int).toNat]? = some (keptR y) := by simp [hyb]
   have px := r1.elt hx2
   have py := s1.elt hy2
   have hte := qeJ hp hxa hyb
   have heq := qgg x y
   by_cases hxy : x = y
   ·
    rw [Al hxy] at heq
    repeat (first | refine W.w ?_ | refine aE rfl ?_ | (refine zz rfl ?_; first | refine qac rfl ?_ | refine qad rfl ?_ | refine qak rfl rfl rfl (by omega) ?_))
    refine bJ (σ := [(0, .R), (1, .R), (2, .R), (3, .R), (4, .R), (5, .R), (6, .R), (7, .R), (8, .R)]) mixed (by kernel_rfl) ?_
    repeat (first | refine dr rfl rfl (fun _ hx _ => qac rfl ⟨rfl, rfl⟩) ?_ | refine dr rfl rfl (fun _ hx _ => qal (v := u) rfl ⟨rfl, rfl⟩) ?_ | refine dr rfl rfl (fun _ hx _ => qal (v := v) rfl ⟨rfl, rfl⟩) ?_ | refine dr rfl rfl (fun _ hx _ => qaD (r1.ext hx) rfl rfl (by omega) hx2 ⟨rfl, rfl⟩) ?_ | refine dr rfl rfl (fun _ hx _ => qaD (s1.ext hx) rfl rfl (by omega) hy2 ⟨rfl, rfl⟩) ?_ | refine dr rfl rfl (fun _ hx _ => qaW (px.ext hx) rfl rfl rfl ⟨rfl, rfl⟩) ?_ | refine dr rfl rfl (fun _ hx _ => qaW (py.ext hx) rfl rfl rfl ⟨rfl, rfl⟩) ?_ | refine dr rfl rfl (fun _ hx _ => qd4 (xs := keptR x) (ys := keptR y) rfl rfl rfl heq ⟨rfl, rfl⟩) ?_)
    refine aX ?_
    repeat (first | refine W.w ?_ | refine aG rfl ?_ | refine zz rfl (qac rfl ?_) | refine zz rfl (qau rfl rfl (by omega) ?_))
    exact ⟨k + 1, ⟨hlt, hte.2 hxy⟩, by omega, aI (aA rfl (aA rfl (aA rfl (aA rfl aN))))⟩
   ·
    rw [Af hxy] at heq
    repeat (first | refine W.w ?_ | refine aE rfl ?_ | (refine zz rfl ?_; first | refine qac rfl ?_ | refine qad rfl ?_ | refine qak rfl rfl rfl (by omega) ?_))
    refine bJ (σ := [(0, .R), (1, .R), (2, .R), (3, .R), (4, .R), (5, .R), (6, .R), (7, .R), (8, .R)]) mixed (by kernel_rfl) ?_
    repeat (first | refine dr rfl rfl (fun _ hx _ => qac rfl ⟨rfl, rfl⟩) ?_ | refine dr rfl rfl (fun _ hx _ => qal (v := u) rfl ⟨rfl, rfl⟩) ?_ | refine dr rfl rfl (fun _ hx _ => qal (v := v) rfl ⟨rfl, rfl⟩) ?_ | refine dr rfl rfl (fun _ hx _ => qaD (r1.ext hx) rfl rfl (by omega) hx2 ⟨rfl, rfl⟩) ?_ | refine dr rfl rfl (fun _ hx _ => qaD (s1.ext hx) rfl rfl (by omega) hy2 ⟨rfl, rfl⟩) ?_ | refine dr rfl rfl (fun _ hx _ => qaW (px.ext hx) rfl rfl rfl ⟨rfl, rfl⟩) ?_ | refine dr rfl rfl (fun _ hx _ => qaW (py.ext hx) rfl rfl rfl ⟨rfl, rfl⟩) ?_ | refine dr rfl rfl (fun _ hx _ => qd4 (xs := keptR x) (ys := keptR y) rfl rfl rfl heq ⟨rfl, rfl⟩) ?_)
    refine aX ?_
    repeat (first | refine W.w ?_ | refine aE rfl ?_ | refine zz rfl (qaa rfl ?_))
    refine ⟨_, aC rfl, congrArg Value.bool (Af fun e => hxy (hte.1 (by rw [e]))).symm, rfl⟩
  ·
   obtain rfl : k = a.length := by omega
   rw [Au, hl, Au] at hp
   repeat (first | refine aW ?_ | refine aR ?_ | refine aY ?_ | refine aG rfl ?_ | refine aM ?_ | refine aP ?_ | refine zz rfl (qaa rfl ?_) | refine zz rfl (qai rfl rfl rfl (by omega) ?_))
   exact ⟨_, aC rfl, congrArg Value.bool (Al hp).symm, rfl⟩
 ·
  repeat (first | refine W.w ?_ | refine aE rfl ?_ | (refine zz rfl ?_; first | refine qaa rfl ?_ | refine qaA r1 rfl ?_ | refine qaA s1 rfl ?_ | refine qak rfl rfl rfl (by omega) ?_ | refine qal (by conv => lhs; whnf) ?_))
  exact ⟨_, aC rfl, congrArg Value.bool (Af fun e => hl (by rw [e])).symm, rfl⟩
theorem sameAct_c (p q : ActV) (a b : ActM) (h : Heap) (ra : ActR h p a) (rb : ActR h q b) : ACalls prog 70 [.agg (actC p a).toArray, .agg (actC q b).toArray] h fun u h' => u = .bool (decide (a = b)) ∧ h' = h := by
 refine aL fun wf => aO ?_
 refine aD func70 rfl rfl ?_
 repeat (first | refine W.w ?_ | refine zz rfl (qaa rfl ?_) | refine zz rfl (qaS rfl (by intro e; cases e) ?_))
 generalize hH : h.alloc _ = H1
 have hg0 : H1.get h.next = some ⟨actC p a, 40, true⟩ := hH ▸ aB _ _
 have hx1 : Ext h H1 := hH ▸ wf.ext _
 have wf1 : WF H1 := hH ▸ wf.alloc _
 skip
 generalize hH2 : H1.alloc _ = H
 have hg2 : H.get H1.next = some ⟨actC q b, 40, true⟩ := hH2 ▸ aB _ _
 have hx2 : Ext H1 H := hH2 ▸ wf1.ext _
 have hg1 : H.get h.next = some ⟨actC p a, 40, true⟩ := hx2.c _ _ hg0
 have hx : Ext h H := hx1.trans hx2
 clear hH hH2
 obtain ⟨a1, a2, a3⟩ := ra.ext hx
 obtain ⟨b1, b2, b3⟩ := rb.ext hx
 have cA := qgv p.q q.q a.ask b.ask H a1 b1
 have cM := qgQ p.c q.c a.cmd b.cmd H a2 b2
 have cE := eqKept_c p.k q.k a.keep b.keep H a3 b3
 repeat' (first | refine W.w ?_ | refine aK rfl rfl ?_ | (refine zz rfl ?_; first | refine qae rfl ?_ | refine qaa rfl ?_ | refine qan rfl ?_ | refine qaf rfl rfl hg1 rfl ?_ | refine qaf rfl rfl hg2 rfl ?_ | refine qam (sz := 7) rfl rfl hg1 (Ab rfl) ?_ | refine qam (sz := 7) rfl rfl hg2 (Ab rfl) ?_ | refine qam (sz := 20) rfl rfl hg1 (Ab rfl) ?_ | refine qam (sz := 20) rfl rfl hg2 (Ab rfl) ?_ | refine qaU rfl rfl cA (fun c => ?_) (fun c => ?_) | refine qaU rfl rfl cM (fun c => ?_) (fun c => ?_) | refine qaU rfl rfl cE (fun c => ?_) (fun c => ?_) | refine qaT rfl rfl rfl (fun c => ?_) (fun c => ?_) | refine qag (v := .bool _) rfl rfl ?_))
 all_goals refine ⟨_, aC rfl, rfl, hx, congrArg Value.bool ?_, rfl⟩
 all_goals clear a1 a2 a3 b1 b2 b3 cA cM cE hg0 hg1 hg2 hx1 hx2 hx wf wf1 ra rb
 all_goals grind [act_ext]
end Go.Proofs.YtigmojilaadbhaaGreatDoor
/- . -/
namespace Go.Eng
open Go
section
variable {P : Program} {ρ : Operand → Value} {h : Heap} {K : Value → Heap → Prop} {dst : Option Tmp} {ty : TypeId} {pos : String} {aft : Array Edge} {g : Option (Nat × Bool)}
theorem qc2 {w : World} {b : Nat} : ∀ (l : List UInt8) (o : Nat) (acc : ByteArray), (∀ (j : Nat) x, l[j]? = some x → w.cell? ⟨b, o + j, none⟩ = some (.int .u8 (x.toNat : Int))) →
  ∃ r, (Extern.Bytes.loadBytes ⟨b, o, none⟩ l.length acc).run P w = .ok r w ∧ r.data.toList = acc.data.toList ++ l
 | [], o, acc, _ => ⟨acc, rfl, by simp⟩
 | x :: l, o, acc, hc => by
  have h0 := hc 0 x rfl
  obtain ⟨r, h1, h2⟩ := qc2 l (o + 1) (acc.push x) fun j y hj => by
   have := hc (j + 1) y hj
   rw [show o + 1 + j = o + (j + 1) by omega]
   exact this
  refine ⟨r, ?_, by rw [h2]; simp [ByteArray.push]⟩
  simp only [Ad, Extern.Bytes.loadBytes, Sem.run_bind]
  rw [Dw] at h0
  rw [show (load ⟨b, o, none⟩).run P w = .ok (.int .u8 (x.toNat : Int)) w from by
   rw [run_load, h0]]
  simp only [Result.andThen_ok]
  simpa [Addr.add] using h1
theorem qez {φ : Ren} {w : World} (s : Sim P φ h w) {v c : Value} {l : List UInt8} (r : RB h v l) (rv : VRel φ h.next v c) : ∃ x, (Extern.Bytes.bytesOf c).run P w = .ok x w ∧ x.data.toList = l := by
 obtain ⟨a, cap, rfl, h1, h2, h3⟩ := RS.conc r (Ai.2 fun x hx => by obtain ⟨b, _, rfl⟩ := Bp.1 hx; rfl) s rv
 rw [qaE]
 rcases h3 with h3 | ⟨b, o, rfl, _, h3⟩
 ·
  have : l = [] := List.map_eq_nil_iff.1 h3
  subst this
  cases a with
  | none => exact ⟨.empty, rfl, rfl⟩
  | some a => exact ⟨.empty, rfl, rfl⟩
 ·
  obtain ⟨x, q1, q2⟩ := qc2 (P := P) (w := w) (b := b) l o .empty fun j y hj => h3 j _ (qgJ l j y hj)
  exact ⟨x, q1, by rw [q2]; rfl⟩
theorem qhD {f : FuncId} {fo x y : Operand} {aT : Array TypeId} {u v : Value} {a b : List UInt8} [xt : XtC P f Extern.BytealgCompare.compare] (hf : ρ fo = .func (.func f) #[] #[]) (ra : RB h u a) (rb : RB h v b) (hx : ρ x = u) (hy : ρ y = v)
  (kk : K (.int .i64 (Extern.BytealgCompare.cmp (bstr a) (bstr b))) h) : AOp P ⟨dst, .call ⟨.value fo, #[x, y], aT⟩, ty, pos, aft, g⟩ ρ h K :=
 .of_pure kk fun φ ac w r => by
  obtain ⟨f1, d1, e0, s1, s2, _, _⟩ := (hf ▸ r.ev fo (by simp [Op.operands, Call.operands])).func_inv
  obtain rfl : f1 = #[] := by apply Cd; rw [← s1]; rfl
  obtain rfl : d1 = #[] := by apply Cd; rw [← s2]; rfl
  have e1 := hx ▸ r.ev x (by simp [Op.operands, Call.operands])
  have e2 := hy ▸ r.ev y (by simp [Op.operands, Call.operands])
  obtain ⟨p, p1, p2⟩ := qez r.sim ra e1
  obtain ⟨q, z1, z2⟩ := qez r.sim rb e2
  obtain ⟨fn, q1, q2, q3, q4, q5⟩ := xt.ex
  have hp : p = bstr a := by cases p with | mk d => simp only [bstr] at p2 ⊢; congr 1; apply Array.ext'; simpa using p2
  have hq : q = bstr b := by cases q with | mk d => simp only [bstr] at z2 ⊢; congr 1; apply Array.ext'; simpa using z2
  subst hp hq
  refine ⟨.int .i64 (Extern.BytealgCompare.cmp (bstr a) (bstr b)), ?_, .int _ _⟩
  have := run_callFunc_extern (P := P) q1 q2 q3 q4 q5 #[ac.eval x, ac.eval y] w
  have hcmp : (Extern.BytealgCompare.compare #[ac.eval x, ac.eval y]).run P w = .ok (.int .i64 (Extern.BytealgCompare.cmp (bstr a) (bstr b))) w := by
   change Sem.run P (do pure (goInt (Extern.BytealgCompare.cmp (← Extern.Bytes.bytesOf (ac.eval x)) (← Extern.Bytes.bytesOf (ac.eval y))))) w = _
   simp only [Sem.run_bind, p1, z1, Result.andThen_ok, Sem.run_pure]
   rfl
  rw [hcmp] at this
  simp [execOp, resolve, e0, Deferred.ofValue, invoke, this]
end
end Go.Eng
/- . -/
namespace Go.Proofs.YtigmojilaadbhaaGreatDoor
open Go Go.Eng Go.Pln Go.Lib Go.Proofs.Tryz
attribute [local irreducible] AWp AL DAL AOp
instance qdC : XtC prog 192 Extern.BytealgCompare.compare := ⟨Tryz.f192, by kernel_rfl, by kernel_rfl, by kernel_rfl, by kernel_rfl, by kernel_rfl⟩
instance qeV : FnC prog 151 := ⟨Tryz.f151, func151, by kernel_rfl, by kernel_rfl⟩
instance qex : FnC prog 152 := ⟨Tryz.f152, func152, by kernel_rfl, by kernel_rfl⟩
instance qdX : FnC prog 169 := ⟨Tryz.f169, func169, by kernel_rfl, by kernel_rfl⟩
instance qf3 : FnC prog 215 := ⟨Tryz.f215, func215, by kernel_rfl, by kernel_rfl⟩
instance qfr : FnC prog 214 := ⟨Tryz.f214, func214, by kernel_rfl, by kernel_rfl⟩
instance qhW : FnC prog 170 := ⟨Tryz.f170, func170, by kernel_rfl, by kernel_rfl⟩
instance qdA : FnC prog 213 := ⟨Tryz.f213, func213, by kernel_rfl, by kernel_rfl⟩
instance i_FnC_cmp_Or_int_ : FnC prog 212 := ⟨Tryz.f212, func212, by kernel_rfl, by kernel_rfl⟩
instance qeP : FnC prog 206 := ⟨Tryz.f206, func206, by kernel_rfl, by kernel_rfl⟩
instance qf9 : FnC prog 205 := ⟨Tryz.f205, func205, by kernel_rfl, by kernel_rfl⟩
instance qeX : FnC prog 194 := ⟨Tryz.f194, func194, by kernel_rfl, by kernel_rfl⟩
def cmpI (a b : Bytes) : Int := Extern.BytealgCompare.cmp (bstr a) (bstr b)
def cmp3 (a b : Int) : Int := if a < b then -1 else if b < a then 1 else 0
def icmpM (a b : EntM) : Int := if cmpI a.key b.key ≠ 0 then cmpI a.key b.key else cmp3 b.seq a.seq
def entOk (e : EntM) : Bool := decide (1 ≤ e.key.length ∧ e.key.length ≤ 32 ∧ 1 ≤ e.seq ∧ e.seq ≤ 2147483647 ∧ e.value.length ≤ 65536 ∧ (e.kind = 1 ∨ e.kind = 2 ∧ e.value.length = 0))
theorem key_c (v : Value) (b : Bytes) (h : Heap) (r : RB h v b) : ACalls prog 151 [v] h fun u h' => u = .bool (decide (1 ≤ b.length ∧ b.length ≤ 24)) ∧ h' = h := by
 refine aD func151 rfl rfl ?_
 repeat' (first | refine W.w ?_ | refine aK rfl rfl ?_ | (refine zz rfl ?_; first | refine qae rfl ?_ | refine qaa rfl ?_ | refine qaJ r rfl ?_ | refine qaT rfl rfl rfl (fun c => ?_) (fun c => ?_) | refine qag (v := .bool _) rfl rfl ?_ | refine qal (by conv => lhs; whnf) ?_))
 all_goals refine ⟨_, aC rfl, congrArg Value.bool ?_, rfl⟩
 all_goals grind
theorem qh6 (n : Int) (h : Heap) : ACalls prog 152 [.int .i64 n] h fun u h' => u = .bool (decide (1 ≤ n ∧ n < 5)) ∧ h' = h := by
 refine aD func152 rfl rfl ?_
 repeat' (first | refine W.w ?_ | refine aK rfl rfl ?_ | (refine zz rfl ?_; first | refine qac rfl ?_ | refine qae rfl ?_ | refine qaa rfl ?_ | refine qaT rfl rfl rfl (fun c => ?_) (fun c => ?_) | refine qag (v := .bool _) rfl rfl ?_))
 all_goals refine ⟨_, aC rfl, congrArg Value.bool ?_, rfl⟩
 all_goals grind
theorem qh8 (n : Int) (h : Heap) : ACalls prog 169 [.int .i64 n] h fun u h' => u = .bool (decide (1 ≤ n ∧ n ≤ 2147483647)) ∧ h' = h := by
 refine aD func169 rfl rfl ?_
 repeat' (first | refine W.w ?_ | refine aK rfl rfl ?_ | (refine zz rfl ?_; first | refine qac rfl ?_ | refine qae rfl ?_ | refine qaa rfl ?_ | refine qaT rfl rfl rfl (fun c => ?_) (fun c => ?_) | refine qag (v := .bool _) rfl rfl ?_))
 all_goals refine ⟨_, aC rfl, congrArg Value.bool ?_, rfl⟩
 all_goals grind
theorem isNaN_c (n : Int) (h : Heap) : ACalls prog 215 [.int .i64 n] h fun u h' => u = .bool false ∧ h' = h := by
 refine aD func215 rfl rfl ?_
 repeat' (first | refine W.w ?_ | (refine zz rfl ?_; first | refine qac rfl ?_ | refine qaa rfl ?_ | refine qai rfl rfl rfl (by omega) ?_))
 all_goals exact ⟨_, aC rfl, rfl, rfl⟩
theorem cmp_c (a b : Int) (h : Heap) : ACalls prog 214 [.int .i64 a, .int .i64 b] h fun u h' => u = .int .i64 (cmp3 a b) ∧ h' = h := by
 refine aD func214 rfl rfl ?_
 repeat' (first | refine W.w ?_ | refine aE rfl ?_ | refine aG rfl ?_ | (refine zz rfl ?_; first | refine qac rfl ?_ | refine qae rfl ?_ | refine qad rfl ?_ | refine qaa rfl ?_ | refine qab rfl rfl (isNaN_c _ _) ?_ | refine qaT rfl rfl rfl (fun c => ?_) (fun c => ?_)))
 all_goals refine ⟨_, aC rfl, congrArg (Value.int .i64) ?_, rfl⟩
 all_goals grind [cmp3]
theorem bcmp_c (u v : Value) (a b : Bytes) (h : Heap) (ra : RB h u a) (rb : RB h v b) : ACalls prog 170 [u, v] h fun x h' => x = .int .i64 (cmpI a b) ∧ h' = h := by
 refine aD func170 rfl rfl ?_
 repeat (first | refine W.w ?_ | (refine zz rfl ?_; first | refine qad rfl ?_ | refine qal (v := u) rfl ?_ | refine qal (v := v) rfl ?_ | refine qhD rfl ra rb rfl rfl ?_))
 exact ⟨_, aC rfl, rfl, rfl⟩
theorem ckeys_c (u v : Value) (a b : Bytes) (h : Heap) (ra : RB h u a) (rb : RB h v b) : ACalls prog 213 [u, v] h fun x h' => x = .int .i64 (cmpI a b) ∧ h' = h := by
 refine aD func213 rfl rfl ?_
 repeat (first | refine W.w ?_ | (refine zz rfl ?_; first | refine qad rfl ?_ | refine qal (v := u) rfl ?_ | refine qal (v := v) rfl ?_ | refine qab rfl rfl (bcmp_c u v a b h ra rb) ?_))
 exact ⟨_, aC rfl, rfl, rfl⟩
theorem or_c (v : Value) (a b : Int) (h : Heap) (r : RS h v [.int .i64 a, .int .i64 b]) : ACalls prog 212 [v] h fun u h' => u = .int .i64 (if a ≠ 0 then a else b) ∧ h' = h := by
 refine aD func212 rfl rfl ?_
 obtain ⟨va, vc, rfl⟩ := r.slice
 repeat (first | refine W.w ?_ | (refine zz rfl ?_; first | refine qac rfl ?_ | refine qdZ rfl ?_ | refine qad rfl ?_ | refine qaz r rfl ?_))
 refine bB (α := Nat) (fun k => [(3, .int .i64 0), (6, .slice va 2 vc), (7, .int .i64 2), (8, .int .i64 (k : Nat))]) (fun _ => h) (fun k => k ≤ 2 ∧ (0 < k → a = 0) ∧ (1 < k → b = 0)) (fun k => 2 - k) 0 ⟨by omega, by omega, by omega⟩ (aI (aA rfl (aA rfl (aA rfl (aA rfl aN))))) ?_
 rintro k ⟨hk, h0, h1⟩
 match k, hk, h0, h1 with
 | 0, _, _, _ =>
  repeat (first | refine W.w ?_ | refine aE rfl ?_ | refine zz rfl (qak rfl rfl rfl (by omega) ?_) | refine zz rfl (qba r rfl rfl (by omega) (show [Value.int .i64 a, .int .i64 b][((0 : Nat) : Int).toNat]? = some _ from rfl) ?_))
  intro p hp
  repeat' (first | refine W.w ?_ | refine aE rfl ?_ | refine aG rfl ?_ | (refine zz rfl ?_; first | refine qac rfl ?_ | refine qad rfl ?_ | refine qar hp rfl rfl ?_ | refine qau rfl rfl (by omega) ?_ | refine qaT rfl rfl rfl (fun c => ?_) (fun c => ?_)))
  ·
   refine ⟨_, aC rfl, congrArg (Value.int .i64) ?_, rfl⟩
   grind
  ·
   exact ⟨1, ⟨by omega, by grind, by omega⟩, by omega, aI (aA rfl (aA rfl (aA rfl (aA rfl aN))))⟩
 | 1, _, h0, _ =>
  repeat (first | refine W.w ?_ | refine aE rfl ?_ | refine zz rfl (qak rfl rfl rfl (by omega) ?_) | refine zz rfl (qba r rfl rfl (by omega) (show [Value.int .i64 a, .int .i64 b][((1 : Nat) : Int).toNat]? = some _ from rfl) ?_))
  intro p hp
  repeat' (first | refine W.w ?_ | refine aE rfl ?_ | refine aG rfl ?_ | (refine zz rfl ?_; first | refine qac rfl ?_ | refine qad rfl ?_ | refine qar hp rfl rfl ?_ | refine qau rfl rfl (by omega) ?_ | refine qaT rfl rfl rfl (fun c => ?_) (fun c => ?_)))
  ·
   refine ⟨_, aC rfl, congrArg (Value.int .i64) ?_, rfl⟩
   grind
  ·
   exact ⟨2, ⟨by omega, by grind, by grind⟩, by omega, aI (aA rfl (aA rfl (aA rfl (aA rfl aN))))⟩
 | 2, _, h0, h1 =>
  repeat (first | refine aW ?_ | refine aR ?_ | refine aY ?_ | refine aG rfl ?_ | refine aM ?_ | refine aP ?_ | (refine zz rfl ?_; first | refine qac rfl ?_ | refine qad rfl ?_ | refine qai rfl rfl rfl (by omega) ?_))
  refine ⟨_, aC rfl, congrArg (Value.int .i64) ?_, rfl⟩
  grind
 | k + 3, hk, _, _ => omega
theorem imay_c (kv vv : Value) (e : EntM) (h : Heap) (r1 : RB h kv e.key) (r2 : RB h vv e.value) : ACalls prog 205 [.agg (entC kv vv e).toArray] h fun u h' => u = .bool (entOk e) ∧ h' = h := by
 refine aL fun wf => aO ?_
 refine aD func205 rfl rfl ?_
 repeat (first | refine W.w ?_ | refine zz rfl (qaa rfl ?_) | refine zz rfl (qaS rfl (by intro e; cases e) ?_))
 generalize hH : h.alloc _ = H
 have hg : H.get h.next = some ⟨entC kv vv e, 171, true⟩ := hH ▸ aB _ _
 have hx : Ext h H := hH ▸ wf.ext _
 have wfH : WF H := hH ▸ wf.alloc _
 clear hH
 have q1 := r1.ext hx
 have q2 := r2.ext hx
 repeat' (first | refine W.w ?_ | refine aK rfl rfl ?_ | refine aE rfl ?_ | refine aG rfl ?_ | (refine zz rfl ?_; first | refine qae rfl ?_ | refine qaa rfl ?_ | refine qan rfl ?_ | refine qaf rfl rfl hg rfl ?_ | refine qaJ q1 rfl ?_ | refine qaJ q2 rfl ?_ | refine qaT rfl rfl rfl (fun c => ?_) (fun c => ?_) | refine qag (v := .bool _) rfl rfl ?_))
 all_goals refine ⟨_, aC rfl, rfl, hx, congrArg Value.bool ?_, rfl⟩
 all_goals clear q1 q2 r1 r2 hg hx wf wfH
 all_goals grind [entOk]
theorem icmp_c (k1 v1 k2 v2 : Value) (a b : EntM) (h : Heap) (ra : RB h k1 a.key) (rb : RB h k2 b.key) : ACalls prog 206 [.agg (entC k1 v1 a).toArray, .agg (entC k2 v2 b).toArray] h fun u h' => u = .int .i64 (icmpM a b) ∧ h' = h := by
 refine aL fun wf => aO ?_
 refine aD func206 rfl rfl ?_
 repeat (first | refine W.w ?_ | refine zz rfl (qad rfl ?_) | refine zz rfl (qaS rfl (by intro e; cases e) ?_))
 generalize hH : h.alloc _ = H1
 have hg0 : H1.get h.next = some ⟨entC k1 v1 a, 171, true⟩ := hH ▸ aB _ _
 have hx1 : Ext h H1 := hH ▸ wf.ext _
 have wf1 : WF H1 := hH ▸ wf.alloc _
 skip
 generalize hH2 : H1.alloc _ = H
 have hg2 : H.get H1.next = some ⟨entC k2 v2 b, 171, true⟩ := hH2 ▸ aB _ _
 have hx2 : Ext H1 H := hH2 ▸ wf1.ext _
 have hg1 : H.get h.next = some ⟨entC k1 v1 a, 171, true⟩ := hx2.c _ _ hg0
 have hx : Ext h H := hx1.trans hx2
 have wfH : WF H := hH2 ▸ wf1.alloc _
 clear hH hH2
 have qa := ra.ext hx
 have qb := rb.ext hx
 have q0 := hx
 skip
 refine bJ (σ := [(0, .R), (1, .R), (2, .R), (3, .R), (4, .R), (5, .R), (6, .R), (7, .R), (8, .R), (9, .R), (10, .X), (11, .R), (12, .R)]) mixed (by kernel_rfl) ?_
 repeat (first | refine dr rfl rfl (fun _ hx _ => qan rfl ⟨rfl, rfl⟩) ?_ | refine dr rfl rfl (fun _ hx _ => qaf rfl rfl (hx.c _ _ hg1) rfl ⟨rfl, rfl⟩) ?_ | refine dr rfl rfl (fun _ hx _ => qaf rfl rfl (hx.c _ _ hg2) rfl ⟨rfl, rfl⟩) ?_ | refine dr rfl rfl (fun h' hx _ => qab rfl rfl (ckeys_c k1 k2 a.key b.key h' (qa.ext hx) (qb.ext hx)) ⟨rfl, rfl⟩) ?_ | refine dr rfl rfl (fun h' hx _ => qab rfl rfl (cmp_c b.seq a.seq h') ⟨rfl, rfl⟩) ?_)
 refine DAL.x rfl rfl rfl (qaN [.int .i64 (cmpI a.key b.key), .int .i64 (cmp3 b.seq a.seq)] rfl rfl rfl rfl (by intro u hu; rcases Ak.1 hu with rfl | hu; rfl; rw [Ax.1 hu]; rfl) ⟨wfH.ext _, ?_⟩)
 obtain ⟨H3, hQ, gr, xr, _, _⟩ := aq wfH ⟨[.int .i64 (cmpI a.key b.key), .int .i64 (cmp3 b.seq a.seq)], 3, true⟩
 rw [hQ]
 have rr : RS H3 (.slice (some ⟨H.next, 0, some 1⟩) 2 2) [.int .i64 (cmpI a.key b.key), .int .i64 (cmp3 b.seq a.seq)] := bK gr rfl
 repeat (first | refine dr rfl rfl (fun _ hx _ => qad rfl ⟨rfl, rfl⟩) ?_ | refine dr rfl rfl (fun h' hx _ => qab rfl rfl (or_c _ _ _ h' (rr.ext hx)) ⟨rfl, rfl⟩) ?_)
 refine aX ?_
 repeat (first | refine aM ?_)
 exact ⟨_, aC rfl, rfl, q0.trans xr, rfl, rfl⟩
end Go.Proofs.YtigmojilaadbhaaGreatDoor
/- . -/
namespace Go.Eng
open Go
section
variable {P : Program} {ρ : Operand → Value} {h : Heap} {K : Value → Heap → Prop} {dst : Option Tmp} {ty : TypeId} {pos : String} {aft : Array Edge} {g : Option (Nat × Bool)}
theorem op_buildAr {t e sz by_ n es eb : Nat} {z ez : Value} {parts : Array (Nat × Operand)} {out : List Value} [td : TyD P t (.array n e)] [ti : TyI P t sz by_ z] [te : TyI P e es eb ez]
  (hu : (parts.toList.all fun p => nuB (ρ p.2)) = true) (hf : fillA (fun i => some (i * es, es)) z.cells.toList (parts.toList.map fun p => (p.1, ρ p.2)) = some out) (kk : K (.agg out.toArray) h) : AOp P ⟨dst, .build t parts, ty, pos, aft, g⟩ ρ h K :=
 .of_pure kk fun φ ac w r => by
  obtain ⟨arr', h1, h2⟩ := qdf (φ := φ) (n := h.next) (fun i => some (i * es, es)) ac parts.toList z.cells.toList out z.cells (cI ti.plain) (fun p hp => r.ev p.2 (by simp [Op.operands]; exact ⟨p.1, by simpa using hp⟩)) (fun p hp => nuB_ne (Ai.1 hu p hp)) hf
  refine ⟨.agg arr', ?_, .agg _ _ (by have := h2.length; simpa using this) (fun k x y hx hy => ?_)⟩
  ·
   have he : (parts.map fun (p : Nat × Operand) => (p.1, ac.eval p.2)).toList = parts.toList.map fun p => (p.1, ac.eval p.2) := by simp
   have hrun : (Instr.build t (parts.map fun (p : Nat × Operand) => (p.1, ac.eval p.2))).run P w = .ok (.agg arr') w := by
    simp only [Instr.build, Sem.run_bind, ti.zero, Result.andThen_ok, td.run, te.size, he]
    rw [h1]
    rfl
   simp [execOp, hrun]
  ·
   obtain ⟨c, hc, hv⟩ := h2.get (j := k) (x := x) (by simpa using hx)
   simp only [Dp] at hc
   rw [hy] at hc; cases hc; exact hv
theorem op_indexVA {t e : TypeId} {d : TypeDesc} {n : Nat} {x y : Operand} {sz by_ : Nat} {z : Value} {k : IntKind} {a : Int} {vs : List Value} (u : List Value) [td : TyD P t (.array n e)] [te : TyD P e d] [ti : TyI P e sz by_ z]
  (ha : aggB d = true) (hx : ρ x = .agg vs.toArray) (hy : ρ y = .int k a) (h0 : 0 ≤ a) (h1 : a < n) (hl : a.toNat * sz + sz ≤ vs.length) (hu : (vs.drop (a.toNat * sz)).take sz = u) (kk : K (.agg u.toArray) h) : AOp P ⟨dst, .index t x y, ty, pos, aft, g⟩ ρ h K :=
 .of_pure kk fun φ ac w r => by
  obtain ⟨cs, e1, hs, hr⟩ := (hx ▸ r.ev x (by simp [Op.operands])).agg_inv
  have e2 := (hy ▸ r.ev y (by simp [Op.operands])).int_inv
  have hsz : cs.size = vs.length := by rw [← hs]; simp
  refine ⟨.agg (cs.extract (a.toNat * sz) (a.toNat * sz + sz)), ?_, .agg _ _ ?_ fun j p q hp hq => ?_⟩
  ·
   simp [execOp, e1, e2, Instr.index, asIntOf, td.run, h0, h1, ti.size, part, te.isAgg, ha]
  ·
   subst hu
   simp
   omega
  ·
   subst hu
   simp only [Cy] at hp
   have hj : j < sz := by
    have := (Av.1 hp).1
    simp at this
    omega
   rw [Bt hj, Db] at hp
   rw [Array.getElem?_extract] at hq
   split at hq
   ·
    exact hr _ _ _ (by simpa using hp) hq
   ·
    cases hq
end
end Go.Eng
