/-
  Texts of one claim, merged: 5 parts.
-/
import Derived.Test.YtigmojilaadbhaaGreatDoorMpk
import Derived.Test.YtigmojilaadbhaaGreatDoorMpf
import Derived.Test.YtigmojilaadbhaaGreatDoorMph
set_option maxHeartbeats 16000000
/- . -/
namespace Go.Proofs.YtigmojilaadbhaaGreatDoor
open Go Go.Eng Go.Pln Go.Lib Go.Proofs.Tryz
attribute [local irreducible] AWp AL DAL AOp
instance qeQ : FnC prog 118 := ⟨Tryz.f118, func118, by kernel_rfl, by kernel_rfl⟩
instance qdz : FnC prog 119 := ⟨Tryz.f119, func119, by kernel_rfl, by kernel_rfl⟩
instance qdR : FnC prog 89 := ⟨Tryz.f89, func89, by kernel_rfl, by kernel_rfl⟩
instance qhR : TyD prog 175 (.struct #[fd "key" 4 0 "hectare/command" 0, fd "to" 4 1 "hectare/command" 1, fd "value" 4 2 "hectare/command" 2, fd "was" 4 3 "hectare/command" 3, fd "most" 4 4 "hectare/command" 4]) := ⟨underlying175⟩
instance qhl : TyI prog 175 5 5 (.agg #[.bool false, .bool false, .bool false, .bool false, .bool false]) := ⟨qaV (by kernel_rfl), rfl, rfl⟩
instance qhx : StD prog 175 [(0, 1), (1, 1), (2, 1), (3, 1), (4, 1)] := ⟨_, underlying175, by kernel_rfl⟩
instance qfR : FAd prog 175 0 0 := bA (ft := 4) underlying175 rfl rfl rfl rfl
instance qfL : FAd prog 175 1 1 := bA (ft := 4) underlying175 rfl rfl rfl rfl
instance qfP : FAd prog 175 2 2 := bA (ft := 4) underlying175 rfl rfl rfl rfl
instance qfU : FAd prog 175 3 3 := bA (ft := 4) underlying175 rfl rfl rfl rfl
instance qfJ : FAd prog 175 4 4 := bA (ft := 4) underlying175 rfl rfl rfl rfl
instance qgo : TyD prog 176 (.array 6 175) := ⟨underlying176⟩
instance qgC : TyI prog 176 30 30 (.agg (Array.replicate 30 (.bool false))) := ⟨qaV (by kernel_rfl), rfl, rfl⟩
abbrev bT : Value := .bool true
abbrev bF : Value := .bool false
def asksV : List Value := [bF, bF, bF, bF, bF, bT, bF, bF, bF, bF, bT, bF, bT, bF, bF, bT, bF, bF, bF, bF, bT, bF, bT, bT, bF, bF, bT, bF, bF, bT]
theorem asks_c (h : Heap) : ACalls prog 118 [] h fun u h' => u = .agg asksV.toArray ∧ h' = h := by
 refine aL fun wf => ACalls.resetB ?_
 refine aD func118 rfl rfl ?_
 repeat (first | refine W.w ?_ | refine aJ rfl (qaL (vs := asksV) rfl rfl rfl rfl rfl ?_) | (refine zz rfl ?_; first | refine qax ?_ | refine qay (places := [(0, 1), (1, 1), (2, 1), (3, 1), (4, 1)]) rfl rfl ?_ | refine op_buildAr (out := asksV) rfl rfl ?_))
 exact ⟨_, bI rfl rfl rfl (aB _ _) (Aa _), Bdd.plain (by kernel_rfl), wf.ext _, rfl, rfl⟩
theorem most_c (b : Bool) (n : Int) (h : Heap) : ACalls prog 119 [.bool b, .int .i64 n] h fun u h' => u = .int .i64 (if b then n else 0) ∧ h' = h := by
 refine aD func119 rfl rfl ?_
 cases b with
 | true =>
  repeat (first | refine W.w ?_ | refine aG rfl ?_ | (refine zz rfl ?_; first | refine qac rfl ?_ | refine qae rfl ?_ | refine qad rfl ?_ | refine qaF rfl ?_))
  exact ⟨_, aC rfl, rfl, rfl⟩
 | false =>
  repeat (first | refine W.w ?_ | refine aE rfl ?_ | (refine zz rfl ?_; first | refine qae rfl ?_ | refine qad rfl ?_ | refine qaF rfl ?_))
  exact ⟨_, aC rfl, rfl, rfl⟩
theorem most_t (n : Int) (h : Heap) : ACalls prog 119 [.bool true, .int .i64 n] h fun u h' => u = .int .i64 n ∧ h' = h := most_c true n h
theorem most_f (n : Int) (h : Heap) : ACalls prog 119 [.bool false, .int .i64 n] h fun u h' => u = .int .i64 0 ∧ h' = h := most_c false n h
structure Nm where
 k : Bool
 t : Bool
 v : Bool
 w : Bool
 m : Bool
def nmC (n : Nm) : List Value := [.bool n.k, .bool n.t, .bool n.v, .bool n.w, .bool n.m]
def nmOf (k : Int) : Nm := if k = 1 ∨ k = 3 then ⟨true, false, false, false, false⟩ else if k = 2 then ⟨true, false, true, false, false⟩ else if k = 4 then ⟨true, false, true, true, false⟩ else ⟨false, true, false, false, true⟩
abbrev P5 (n : Nm) (a : AskM) : Prop := (n.k = false ∨ 0 < a.key.length) ∧ a.key.length ≤ 24 ∧ a.to.length ≤ if n.t then 24 else 0
abbrev P6 (n : Nm) (a : AskM) : Prop := (a.value.length ≤ if n.v then 40 else 0) ∧ (a.was.length ≤ if n.w then 40 else 0) ∧ (a.none = false ∨ n.w = true ∧ a.was.length = 0)
abbrev P7 (n : Nm) (a : AskM) : Prop := P5 n a ∧ P6 n a ∧ (if n.m then 1 else 0) ≤ a.most ∧ a.most ≤ if n.m then 32 else 0
theorem mayAsk_nm {a : AskM} (h : 1 ≤ a.kind ∧ a.kind ≤ 5) : mayAsk a = decide (P7 (nmOf a.kind) a) := by
 have hk : a.kind = 1 ∨ a.kind = 2 ∨ a.kind = 3 ∨ a.kind = 4 ∨ a.kind = 5 := by omega
 unfold mayAsk
 rcases hk with e | e | e | e | e <;> simp only [e, nmOf, ← Ce] <;> grind
theorem mayAsk_no {a : AskM} (h : ¬ (1 ≤ a.kind ∧ a.kind ≤ 5)) : mayAsk a = false := by
 unfold mayAsk
 grind
theorem qiD (p : AskV) (a : AskM) (h : Heap) (r : AskR h p a) : ACalls prog 89 [.agg (askC p a).toArray] h fun u h' => u = .bool (mayAsk a) ∧ h' = h := by
 refine aL fun wf => aO ?_
 refine aD func89 rfl rfl ?_
 repeat (first | refine W.w ?_ | refine zz rfl (qaa rfl ?_) | refine zz rfl (qaS rfl (by intro e; cases e) ?_))
 generalize hH : h.alloc _ = H
 have hg : H.get h.next = some ⟨askC p a, 29, true⟩ := hH ▸ aB _ _
 have hx : Ext h H := hH ▸ wf.ext _
 have wfH : WF H := hH ▸ wf.alloc _
 clear hH
 obtain ⟨q1, q2, q3, q4⟩ := r.ext hx
 have xh := hx
 by_cases hk : 1 ≤ a.kind ∧ a.kind ≤ 5
 ·
  rw [mayAsk_nm hk]
  repeat (first | refine W.w ?_ | refine aG rfl ?_ | (refine zz rfl ?_; first | refine qae rfl ?_ | refine qan rfl ?_ | refine qaf rfl rfl hg rfl ?_ | refine qai rfl rfl rfl (by omega) ?_ | refine qag (v := .bool _) rfl rfl ?_))
  refine AWp.cutI (α := Nm) (fun n => [(1, ptr h.next), (3, ptr H.next)]) (fun n => H.alloc ⟨nmC n, 175, true⟩) (fun n => n = nmOf a.kind) ?_ ?_
  ·
   have hu : (asksV.drop (a.kind.toNat * 5)).take 5 = nmC (nmOf a.kind) := by
    have hk5 : a.kind = 1 ∨ a.kind = 2 ∨ a.kind = 3 ∨ a.kind = 4 ∨ a.kind = 5 := by omega
    rcases hk5 with e | e | e | e | e <;> rw [e] <;> rfl
   refine bJ (σ := [(0, .R), (1, .R), (2, .R), (3, .R), (4, .X), (5, .W)]) mixed (by kernel_rfl) ?_
   repeat (first | refine dr rfl rfl (fun _ hx _ => qan rfl ⟨rfl, rfl⟩) ?_ | refine dr rfl rfl (fun _ hx _ => qaf rfl rfl (hx.c _ _ hg) rfl ⟨rfl, rfl⟩) ?_ | refine dr rfl rfl (fun _ hx _ => qab rfl rfl (asks_c _) ⟨rfl, rfl⟩) ?_ | refine dr rfl rfl (fun _ hx _ => op_indexVA (nmC (nmOf a.kind)) rfl rfl rfl (by omega) (by omega) (by show a.kind.toNat * 5 + 5 ≤ 30; omega) hu ⟨rfl, rfl⟩) ?_)
   refine DAL.x rfl rfl rfl (qax ⟨wfH.ext _, ?_⟩)
   refine DAL.w0 rfl rfl (qaL (vs := nmC (nmOf a.kind)) rfl rfl rfl rfl rfl ?_)
   refine aX ?_
   exact ⟨nmOf a.kind, rfl, aI (aA rfl (aA rfl aN))⟩
  ·
   rintro n hn
   have gn := aB H ⟨nmC n, 175, true⟩
   have xn := wfH.ext ⟨nmC n, 175, true⟩
   generalize hHn : H.alloc ⟨nmC n, 175, true⟩ = Hn at gn xn ⊢
   clear hHn
   have hg' := xn.c _ _ hg
   have q1 := q1.ext xn
   have q2 := q2.ext xn
   have q3 := q3.ext xn
   have q4 := q4.ext xn
   clear hg
   have hg := hg'
   clear hg'
   repeat (first | refine W.w ?_ | refine zz rfl (qbj rfl ?_))
   refine AWp.cutI (α := Bool) (fun c => [(1, ptr h.next), (3, ptr H.next), (4, .func (.func 119) #[] #[]), (5, .bool c)]) (fun _ => Hn) (fun c => c = decide (P5 n a)) ?_ ?_
   ·
    refine bN mixed (by kernel_rfl) ?_
    repeat' (first | refine bX rfl rfl rfl ?_ | refine aX ?_ | refine dr rfl rfl (fun _ hx _ => qae rfl ⟨rfl, rfl⟩) ?_ | refine dr rfl rfl (fun _ hx _ => qbl rfl ⟨rfl, rfl⟩) ?_ | refine dr rfl rfl (fun _ hx _ => qaa rfl ⟨rfl, rfl⟩) ?_ | refine DAL.rB rfl rfl rfl (fun h' hx hn => qaf rfl rfl (hx.c _ _ gn) rfl ⟨rfl, rfl⟩) (fun c => ?_) (fun c => ?_) | refine dr rfl rfl (fun _ hx _ => qan rfl ⟨rfl, rfl⟩) ?_ | refine dr rfl rfl (fun _ hx _ => qaf rfl rfl (hx.c _ _ hg) rfl ⟨rfl, rfl⟩) ?_ | refine dr rfl rfl (fun _ hx _ => qaJ (q1.ext hx) rfl ⟨rfl, rfl⟩) ?_ | refine dr rfl rfl (fun _ hx _ => qaJ (q2.ext hx) rfl ⟨rfl, rfl⟩) ?_ | refine dr rfl rfl (fun _ hx _ => qab rfl rfl (most_t _ _) ⟨rfl, rfl⟩) ?_ | refine dr rfl rfl (fun _ hx _ => qab rfl rfl (most_f _ _) ⟨rfl, rfl⟩) ?_ | refine DAL.rP rfl rfl rfl (fun h' hx hn => qaZ rfl rfl rfl ⟨rfl, rfl⟩) (fun c => ?_) (fun c => ?_) | refine dr rfl rfl (fun _ hx _ => qaF rfl ⟨rfl, rfl⟩) ?_ | refine dr rfl rfl (fun _ hx _ => qag (v := .bool _) rfl rfl ⟨rfl, rfl⟩) ?_)
    all_goals refine ⟨_, ?_, aI (aA rfl (aA rfl (aA rfl (aA rfl aN))))⟩
    all_goals clear q1 q2 q3 q4 hg gn xn hx wf wfH r xh
    all_goals grind
   rintro b5 h5
   repeat (first | refine aR ?_)
   refine AWp.cutI (α := Bool) (fun c => [(1, ptr h.next), (3, ptr H.next), (4, .func (.func 119) #[] #[]), (5, .bool b5), (6, .bool c)]) (fun _ => Hn) (fun c => c = decide (P6 n a)) ?_ ?_
   ·
    refine bN mixed (by kernel_rfl) ?_
    repeat' (first | refine bX rfl rfl rfl ?_ | refine aX ?_ | refine dr rfl rfl (fun _ hx _ => qae rfl ⟨rfl, rfl⟩) ?_ | refine dr rfl rfl (fun _ hx _ => qbl rfl ⟨rfl, rfl⟩) ?_ | refine dr rfl rfl (fun _ hx _ => qaa rfl ⟨rfl, rfl⟩) ?_ | refine DAL.rB rfl rfl rfl (fun h' hx hn => qaf rfl rfl (hx.c _ _ gn) rfl ⟨rfl, rfl⟩) (fun c => ?_) (fun c => ?_) | refine DAL.rB rfl rfl rfl (fun h' hx hn => qaf rfl rfl (hx.c _ _ hg) rfl ⟨rfl, rfl⟩) (fun c => ?_) (fun c => ?_) | refine dr rfl rfl (fun _ hx _ => qan rfl ⟨rfl, rfl⟩) ?_ | refine dr rfl rfl (fun _ hx _ => qaf rfl rfl (hx.c _ _ hg) rfl ⟨rfl, rfl⟩) ?_ | refine dr rfl rfl (fun _ hx _ => qaJ (q3.ext hx) rfl ⟨rfl, rfl⟩) ?_ | refine dr rfl rfl (fun _ hx _ => qaJ (q4.ext hx) rfl ⟨rfl, rfl⟩) ?_ | refine dr rfl rfl (fun _ hx _ => qab rfl rfl (most_t _ _) ⟨rfl, rfl⟩) ?_ | refine dr rfl rfl (fun _ hx _ => qab rfl rfl (most_f _ _) ⟨rfl, rfl⟩) ?_ | refine dr rfl rfl (fun _ hx _ => qak rfl rfl rfl (by omega) ⟨rfl, rfl⟩) ?_ | refine DAL.rP rfl rfl rfl (fun h' hx hn => qaZ rfl rfl rfl ⟨rfl, rfl⟩) (fun c => ?_) (fun c => ?_) | refine dr rfl rfl (fun _ hx _ => qaF rfl ⟨rfl, rfl⟩) ?_ | refine dr rfl rfl (fun _ hx _ => qag (v := .bool _) rfl rfl ⟨rfl, rfl⟩) ?_)
    all_goals refine ⟨_, ?_, aI (aA rfl (aA rfl (aA rfl (aA rfl (aA rfl aN)))))⟩
    all_goals clear q1 q2 q3 q4 hg gn xn hx wf wfH r xh
    all_goals grind
   rintro b6 h6
   have hx2 := xh.trans xn
   cases b5 with
   | false =>
    cases b6 with
    | false =>
     repeat (first | refine aR ?_)
     refine bN mixed (by kernel_rfl) ?_
     repeat' (first | refine bX rfl rfl rfl ?_ | refine aX ?_ | refine dr rfl rfl (fun _ hx _ => qae rfl ⟨rfl, rfl⟩) ?_ | refine dr rfl rfl (fun _ hx _ => qaa rfl ⟨rfl, rfl⟩) ?_ | refine dr rfl rfl (fun _ hx _ => qag (v := .bool _) rfl rfl ⟨rfl, rfl⟩) ?_)
     repeat' (first | refine aM ?_)
     all_goals refine ⟨_, aC rfl, rfl, hx2, congrArg Value.bool ?_, rfl⟩
     all_goals clear q1 q2 q3 q4 hg gn xn hx wf wfH r xh hx2
     all_goals grind
    | true =>
     repeat (first | refine aR ?_)
     refine bN mixed (by kernel_rfl) ?_
     repeat' (first | refine bX rfl rfl rfl ?_ | refine aX ?_ | refine dr rfl rfl (fun _ hx _ => qae rfl ⟨rfl, rfl⟩) ?_ | refine dr rfl rfl (fun _ hx _ => qaa rfl ⟨rfl, rfl⟩) ?_ | refine dr rfl rfl (fun _ hx _ => qag (v := .bool _) rfl rfl ⟨rfl, rfl⟩) ?_)
     repeat' (first | refine aM ?_)
     all_goals refine ⟨_, aC rfl, rfl, hx2, congrArg Value.bool ?_, rfl⟩
     all_goals clear q1 q2 q3 q4 hg gn xn hx wf wfH r xh hx2
     all_goals grind
   | true =>
    cases b6 with
    | false =>
     repeat (first | refine aR ?_)
     refine bN mixed (by kernel_rfl) ?_
     repeat' (first | refine bX rfl rfl rfl ?_ | refine aX ?_ | refine dr rfl rfl (fun _ hx _ => qae rfl ⟨rfl, rfl⟩) ?_ | refine dr rfl rfl (fun _ hx _ => qaa rfl ⟨rfl, rfl⟩) ?_ | refine dr rfl rfl (fun _ hx _ => qag (v := .bool _) rfl rfl ⟨rfl, rfl⟩) ?_)
     repeat' (first | refine aM ?_)
     all_goals refine ⟨_, aC rfl, rfl, hx2, congrArg Value.bool ?_, rfl⟩
     all_goals clear q1 q2 q3 q4 hg gn xn hx wf wfH r xh hx2
     all_goals grind
    | true =>
     repeat (first | refine aR ?_)
     refine bN mixed (by kernel_rfl) ?_
     repeat' (first | refine bX rfl rfl rfl ?_ | refine aX ?_ | refine dr rfl rfl (fun _ hx _ => qae rfl ⟨rfl, rfl⟩) ?_ | refine dr rfl rfl (fun _ hx _ => qbl rfl ⟨rfl, rfl⟩) ?_ | refine dr rfl rfl (fun _ hx _ => qaa rfl ⟨rfl, rfl⟩) ?_ | refine DAL.rB rfl rfl rfl (fun h' hx hn => qaf rfl rfl (hx.c _ _ gn) rfl ⟨rfl, rfl⟩) (fun c => ?_) (fun c => ?_) | refine dr rfl rfl (fun _ hx _ => qan rfl ⟨rfl, rfl⟩) ?_ | refine dr rfl rfl (fun _ hx _ => qaf rfl rfl (hx.c _ _ hg) rfl ⟨rfl, rfl⟩) ?_ | refine dr rfl rfl (fun _ hx _ => qab rfl rfl (most_t _ _) ⟨rfl, rfl⟩) ?_ | refine dr rfl rfl (fun _ hx _ => qab rfl rfl (most_f _ _) ⟨rfl, rfl⟩) ?_ | refine dr rfl rfl (fun _ hx _ => qai rfl rfl rfl (by omega) ⟨rfl, rfl⟩) ?_ | refine DAL.rP rfl rfl rfl (fun h' hx hn => qaZ rfl rfl rfl ⟨rfl, rfl⟩) (fun c => ?_) (fun c => ?_) | refine dr rfl rfl (fun _ hx _ => qag (v := .bool _) rfl rfl ⟨rfl, rfl⟩) ?_)
     repeat' (first | refine aM ?_)
     all_goals refine ⟨_, aC rfl, rfl, hx2, congrArg Value.bool ?_, rfl⟩
     all_goals clear q1 q2 q3 q4 hg gn xn hx wf wfH r xh hx2
     all_goals grind
 ·
  rw [mayAsk_no hk]
  repeat' (first | refine W.w ?_ | refine aK rfl rfl ?_ | refine aE rfl ?_ | (refine zz rfl ?_; first | refine qae rfl ?_ | refine qaa rfl ?_ | refine qan rfl ?_ | refine qaf rfl rfl hg rfl ?_ | refine qak rfl rfl rfl (by omega) ?_ | refine qaT rfl rfl rfl (fun c => ?_) (fun c => ?_) | refine qag (v := .bool _) rfl rfl ?_))
  all_goals refine ⟨_, aC rfl, rfl, hx, ?_, rfl⟩
  all_goals first | rfl | omega
instance qdg : FnC prog 148 := ⟨Tryz.f148, func148, by kernel_rfl, by kernel_rfl⟩
instance qdK : FnC prog 149 := ⟨Tryz.f149, func149, by kernel_rfl, by kernel_rfl⟩
def moveOk (m : MoveM) : Bool := decide ((1 ≤ m.number ∧ m.number ≤ 2147483647) ∧ m.from_.length ≤ 24 ∧ (1 ≤ m.old ∧ m.old < 5) ∧ (1 ≤ m.new ∧ m.new < 5) ∧ ¬ m.old = m.new ∧ (m.end_ = false ∧ m.to.length = 0 ∨ m.end_ = true ∧ (1 ≤ m.to.length ∧ m.to.length ≤ 24) ∧ cmpI m.from_ m.to < 0))
def reqC (q : AskV) (r : ReqM) : List Value := [.int .i64 r.client, .int .i64 r.number, .int .i64 r.ask.kind, q.k, q.t, q.v, q.w, .bool r.ask.none, .int .i64 r.ask.most]
def reqOk (r : ReqM) : Bool := decide ((1 ≤ r.client ∧ r.client ≤ 4) ∧ (1 ≤ r.number ∧ r.number ≤ 2147483647) ∧ mayAsk r.ask = true)
theorem qgM (p : MoveV) (m : MoveM) (h : Heap) (r : MoveR h p m) : ACalls prog 149 [.agg (moveC p m).toArray] h fun u h' => u = .bool (moveOk m) ∧ h' = h := by
 refine aL fun wf => aO ?_
 refine aD func149 rfl rfl ?_
 repeat (first | refine W.w ?_ | refine zz rfl (qaa rfl ?_) | refine zz rfl (qaS rfl (by intro e; cases e) ?_))
 generalize hH : h.alloc _ = H
 have hg : H.get h.next = some ⟨moveC p m, 34, true⟩ := hH ▸ aB _ _
 have hx : Ext h H := hH ▸ wf.ext _
 have wfH : WF H := hH ▸ wf.alloc _
 clear hH
 obtain ⟨q1, q2⟩ := r.ext hx
 repeat' (first | refine W.w ?_ | refine aK rfl rfl ?_ | refine aE rfl ?_ | refine aG rfl ?_ | (refine zz rfl ?_; first | refine qae rfl ?_ | refine qaa rfl ?_ | refine qd1 rfl rfl hg rfl (fun c => ?_) (fun c => ?_) | refine qan rfl ?_ | refine qaf rfl rfl hg rfl ?_ | refine qaJ q1 rfl ?_ | refine qaJ q2 rfl ?_ | refine qaU rfl rfl (qh8 _ _) (fun c => ?_) (fun c => ?_) | refine qaU rfl rfl (qh6 _ _) (fun c => ?_) (fun c => ?_) | refine qaU rfl rfl (key_c _ _ _ q2) (fun c => ?_) (fun c => ?_) | refine qab rfl rfl (bcmp_c _ _ _ _ _ q1 q2) ?_ | refine qaT rfl rfl rfl (fun c => ?_) (fun c => ?_) | refine qaF rfl ?_ | refine qag (v := .bool _) rfl rfl ?_))
 all_goals refine ⟨_, aC rfl, rfl, hx, congrArg Value.bool ?_, rfl⟩
 all_goals clear q1 q2 hg hx wf wfH r
 all_goals grind [moveOk]
theorem mayReq_c (p : AskV) (m : ReqM) (h : Heap) (r : AskR h p m.ask) : ACalls prog 148 [.agg (reqC p m).toArray] h fun u h' => u = .bool (reqOk m) ∧ h' = h := by
 refine aL fun wf => aO ?_
 refine aD func148 rfl rfl ?_
 repeat (first | refine W.w ?_ | refine zz rfl (qaa rfl ?_) | refine zz rfl (qaS rfl (by intro e; cases e) ?_))
 generalize hH : h.alloc _ = H
 have hg : H.get h.next = some ⟨reqC p m, 32, true⟩ := hH ▸ aB _ _
 have hx : Ext h H := hH ▸ wf.ext _
 have wfH : WF H := hH ▸ wf.alloc _
 clear hH
 have q := r.ext hx
 have cA := qiD p m.ask H q
 repeat' (first | refine W.w ?_ | refine aK rfl rfl ?_ | (refine zz rfl ?_; first | refine qae rfl ?_ | refine qaa rfl ?_ | refine qan rfl ?_ | refine qaf rfl rfl hg rfl ?_ | refine qam (sz := 7) rfl rfl hg (Ab rfl) ?_ | refine qaU rfl rfl (qh8 _ _) (fun c => ?_) (fun c => ?_) | refine qaU rfl rfl cA (fun c => ?_) (fun c => ?_) | refine qaT rfl rfl rfl (fun c => ?_) (fun c => ?_) | refine qag (v := .bool _) rfl rfl ?_))
 all_goals refine ⟨_, aC rfl, rfl, hx, congrArg Value.bool ?_, rfl⟩
 all_goals clear q hg hx wf wfH r cA
 all_goals grind [reqOk]
def behindM (l : List EntM) (e : EntM) : Bool := entOk e && (match l.getLast? with
 | none => true
 | some x => decide (icmpM x e < 0))
theorem behind_c (u k1 v1 : Value) (l : List EntM) (e : EntM) (h : Heap) (r : RE h u l) (r1 : RB h k1 e.key) (r2 : RB h v1 e.value) : ACalls prog 194 [u, .agg (entC k1 v1 e).toArray] h fun x h' => x = .bool (behindM l e) ∧ h' = h := by
 refine aL fun wf => aO ?_
 refine aD func194 rfl rfl ?_
 repeat (first | refine W.w ?_ | refine zz rfl (qaa rfl ?_) | refine zz rfl (qaS rfl (by intro e; cases e) ?_))
 generalize hH : h.alloc _ = H
 have hg : H.get h.next = some ⟨entC k1 v1 e, 171, true⟩ := hH ▸ aB _ _
 have hx : Ext h H := hH ▸ wf.ext _
 have wfH : WF H := hH ▸ wf.alloc _
 clear hH
 have q1 := r1.ext hx
 have q2 := r2.ext hx
 have hu := r.ext hx
 obtain ⟨ro, s1, s2, s3⟩ := hu.ex
 have hlen := r.len
 obtain ⟨ua, uc, hue⟩ := s1.slice
 have xh := hx
 cases he : entOk e with
 | false =>
  have ci := fun (h' : Heap) (hx : Ext H h') => he ▸ imay_c k1 v1 e h' (q1.ext hx) (q2.ext hx)
  skip
  refine bN mixed (by kernel_rfl) ?_
  repeat' (first | refine bX rfl rfl rfl ?_ | refine aX ?_ | refine dr rfl rfl (fun _ hx _ => qae rfl ⟨rfl, rfl⟩) ?_ | refine dr rfl rfl (fun _ hx _ => qaa rfl ⟨rfl, rfl⟩) ?_ | refine dr rfl rfl (fun _ hx _ => qam (sz := 4) rfl rfl (hx.c _ _ hg) (Aa _) ⟨rfl, rfl⟩) ?_ | refine dr rfl rfl (fun h' hx _ => qab rfl rfl (ci h' hx) ⟨rfl, rfl⟩) ?_ | refine dr rfl rfl (fun _ hx _ => qag (v := .bool _) rfl rfl ⟨rfl, rfl⟩) ?_)
  repeat' (first | refine aM ?_)
  all_goals refine ⟨_, aC rfl, rfl, xh, congrArg Value.bool ?_, rfl⟩
  all_goals simp [behindM, he]
 | true =>
  have ci := fun (h' : Heap) (hx : Ext H h') => he ▸ imay_c k1 v1 e h' (q1.ext hx) (q2.ext hx)
  by_cases hl : l.length = 0
  ·
   have hl0 : l = [] := Ce.1 hl
   skip
   refine bN mixed (by kernel_rfl) ?_
   repeat' (first | refine bX rfl rfl rfl ?_ | refine aX ?_ | refine dr rfl rfl (fun _ hx _ => qae rfl ⟨rfl, rfl⟩) ?_ | refine dr rfl rfl (fun _ hx _ => qaa rfl ⟨rfl, rfl⟩) ?_ | refine dr rfl rfl (fun _ hx _ => qam (sz := 4) rfl rfl (hx.c _ _ hg) (Aa _) ⟨rfl, rfl⟩) ?_ | refine dr rfl rfl (fun h' hx _ => qab rfl rfl (ci h' hx) ⟨rfl, rfl⟩) ?_ | refine dr rfl rfl (fun _ hx _ => qal (v := u) rfl ⟨rfl, rfl⟩) ?_ | refine dr rfl rfl (fun _ hx _ => qaA (s1.ext hx) rfl ⟨rfl, rfl⟩) ?_ | refine dr rfl rfl (fun _ hx _ => qak rfl rfl rfl (by omega) ⟨rfl, rfl⟩) ?_ | refine dr rfl rfl (fun _ hx _ => qag (v := .bool _) rfl rfl ⟨rfl, rfl⟩) ?_)
   repeat' (first | refine aM ?_)
   all_goals refine ⟨_, aC rfl, rfl, xh, congrArg Value.bool ?_, rfl⟩
   all_goals simp [behindM, he, hl0]
  ·
   obtain ⟨x, hxl⟩ : ∃ x, l[l.length - 1]? = some x := ⟨_, At (by omega)⟩
   obtain ⟨ry, hry⟩ : ∃ ry, ro[l.length - 1]? = some ry := ⟨_, At (by omega)⟩
   obtain ⟨k2, v2, rfl, b1, b2⟩ := s3 _ _ _ hry hxl
   have hu2 : ro[(((ro.length : Nat) : Int) - 1).toNat]? = some (entC k2 v2 x) := by rw [show (((ro.length : Nat) : Int) - 1).toNat = l.length - 1 by omega]; exact hry
   have pe := s1.elt hu2
   have cc := fun (h' : Heap) (hx : Ext H h') => icmp_c k2 v2 k1 v1 x e h' (b1.ext hx) (q1.ext hx)
   skip
   refine bN mixed (by kernel_rfl) ?_
   repeat' (first | refine aX ?_ | refine dr rfl rfl (fun _ hx _ => qae rfl ⟨rfl, rfl⟩) ?_ | refine dr rfl rfl (fun _ hx _ => qaa rfl ⟨rfl, rfl⟩) ?_ | refine dr rfl rfl (fun _ hx _ => qam (sz := 4) rfl rfl (hx.c _ _ hg) (Aa _) ⟨rfl, rfl⟩) ?_ | refine dr rfl rfl (fun h' hx _ => qab rfl rfl (ci h' hx) ⟨rfl, rfl⟩) ?_ | refine dr rfl rfl (fun _ hx _ => qal (v := u) rfl ⟨rfl, rfl⟩) ?_ | refine dr rfl rfl (fun _ hx _ => qaA (s1.ext hx) rfl ⟨rfl, rfl⟩) ?_ | refine dr rfl rfl (fun _ hx _ => qaD (s1.ext hx) rfl rfl (by omega) hu2 ⟨rfl, rfl⟩) ?_ | refine dr rfl rfl (fun _ hx _ => qaW (pe.ext hx) rfl rfl rfl ⟨rfl, rfl⟩) ?_ | refine dr rfl rfl (fun h' hx _ => qab rfl rfl (cc h' hx) ⟨rfl, rfl⟩) ?_ | refine dr rfl rfl (fun _ hx _ => qbC rfl rfl (by omega) ⟨rfl, rfl⟩) ?_ | refine dr rfl rfl (fun _ hx _ => qai rfl rfl rfl (by omega) ⟨rfl, rfl⟩) ?_ | refine DAL.rP rfl rfl rfl (fun h' hx hn => qaZ rfl rfl rfl ⟨rfl, rfl⟩) (fun c => ?_) (fun c => ?_) | refine dr rfl rfl (fun _ hx _ => qag (v := .bool _) rfl rfl ⟨rfl, rfl⟩) ?_)
   repeat' (first | refine aM ?_)
   all_goals refine ⟨_, aC rfl, rfl, xh, congrArg Value.bool ?_, rfl⟩
   all_goals simp [behindM, List.getLast?_eq_getElem?, *]
end Go.Proofs.YtigmojilaadbhaaGreatDoor
/- . -/
namespace Go.Eng
open Go
def WOp {P : Program} (C : Ctx P) (ro : Option Nat) (o : Oper) (ρ : Operand → Value) (h : Heap) (s : Option Code) (K : Value → Heap → Option Code → Prop) : Prop :=
 ∀ φ a w, C.L s φ h w → RelO P φ ρ o h a w → ∀ (next : Act → World → Prop) (Qc : Exit → Act → World → Prop),
  (∀ c w' φ' h' s' v, K v h' s' → VRel φ' h'.next v c → Sim P φ' h' w' → StepX C.x φ h w φ' h' w' → C.L s' φ' h' w' → (∀ D : Nat, w.heap[D]? = some (Obj.deferred (some [])) → w'.heap[D]? = some (Obj.deferred (some []))) → next (a.put o.dst c) w') →
   o.wpIn (Fc ro) 0 P a w next Qc
theorem WOp.congr {P : Program} {C : Ctx P} {ro : Option Nat} {o : Oper} {ρ ρ' : Operand → Value} {h : Heap} {s : Option Code} {K : Value → Heap → Option Code → Prop} (hq : ∀ x, x ∈ o.op.operands → ρ x = ρ' x) (p : WOp C ro o ρ h s K) : WOp C ro o ρ' h s K :=
 fun φ a w l r => p φ a w l ⟨r.sim, fun x hx => by rw [hq x hx]; exact r.ev x hx⟩
theorem WOp.mono {P : Program} {C : Ctx P} {ro : Option Nat} {o : Oper} {ρ : Operand → Value} {h : Heap} {s : Option Code} {K K' : Value → Heap → Option Code → Prop} (p : WOp C ro o ρ h s K) (hk : ∀ v h' s', K v h' s' → K' v h' s') : WOp C ro o ρ h s K' :=
 fun φ a w l r next Qc kk => p φ a w l r next Qc fun c w' φ' h' s' v k => kk c w' φ' h' s' v (hk v h' s' k)
theorem WOp.of {P : Program} {C : Ctx P} {ro : Option Nat} {o : Oper} {ρ : Operand → Value} {h : Heap} {s : Option Code} {K : Value → Heap → Option Code → Prop} (hnd : deferB o.op = false) (p : AOp P o ρ h fun v h' => K v h' s) : WOp C ro o ρ h s K := by
 intro φ a w l r next Qc kk
 refine qdo (qen hnd) (p φ a w r _ _ fun c w' φ' h' v k vr sm st => ?_)
 exact kk c w' φ' h' s v k vr sm st.x (C.st r.sim l st) fun D hD => st.other r.sim hD rfl
theorem WOp.yield {P : Program} {C : Ctx P} {ro : Option Nat} {dst : Option Tmp} {x : Operand} {args : Array Operand} {aT : Array TypeId} {l : Nat} {ty : TypeId} {pos : String} {aft : Array Edge} {g : Option (Nat × Bool)} {ρ : Operand → Value} {h : Heap} {s : Option Code} {K : Value → Heap → Option Code → Prop}
  (hx : ρ x = yieldV l) (hy : YSpec C ro l (args.toList.map ρ) h s K) : WOp C ro ⟨dst, .call ⟨.value x, args, aT⟩, ty, pos, aft, g⟩ ρ h s K := by
 intro φ a w hl r next Qc kk
 have hv := hx ▸ r.ev x (by simp [Op.operands, Call.operands])
 obtain ⟨f', d', e1, s1, s2, _, _⟩ := hv.func_inv
 have hf0 : f' = #[] := Cd s1.symm
 subst hf0
 have hargs : VRels φ h.next (args.toList.map ρ) (args.toList.map a.eval) := VRels.map fun y hy => r.ev y (by simp [Op.operands, Call.operands]; exact .inr (by simpa using hy))
 obtain ⟨fn, tmps, assign, body, hrun, hround⟩ := hy φ w _ hl r.sim hargs
 have harr : (args.toList.map a.eval).toArray = args.map a.eval := by apply Array.ext'; simp
 rw [harr] at hrun
 refine ⟨fun _ _ => trivial, ?_⟩
 rw [show (Fc ro).round = ro from rfl, Oper.semAt_eq ro a.eval _ (by intro c e; cases e)]
 have hex : (execOp a.eval ⟨dst, .call ⟨.value x, args, aT⟩, ty, pos, aft, g⟩).run P w = .ok (.round l fn tmps assign body) w := by
  simp only [execOp, resolve, e1, Deferred.ofValue, Sem.run_bind, Sem.run_pure, Result.andThen_ok, invoke]
  simpa using hrun
 rw [hex]
 refine ⟨(fun e => by cases e), RoundIn.mono hround fun e w' hr => ?_⟩
 cases e with
 | returned c =>
  obtain ⟨v, h', s', φ', k, v1, v2, v3, v4, v5⟩ := hr
  exact kk c w' φ' h' s' v k v1 v2 v3 v4 v5
 | _ => exact hr.elim
def YDAL {P : Program} (C : Ctx P) (ro : Option Nat) (N : Nat) (ops : Array Oper) (Q : Exit → XQ) : List (Nat × KdX) → Env → Heap → Option Code → Prop
 | [], env, h, s => ∀ φ a w, C.L s φ h w → Marks C.B a.defers w → Rel P N φ env h a.tmps w → XPost C N φ h w (Q .normal) a w
 | (i, .R) :: σ, env, h, s => ∃ o, ops[i]? = some o ∧ dstB N o.dst = true ∧ ∃ v, ((gv ops env o = some true ∧ ROp P o (ev P env) h v) ∨ (gv ops env o = some false ∧ v = skipV)) ∧ YDAL C ro N ops Q σ (env.put o.dst v) h s
 | (i, .P) :: σ, env, h, s => ∃ o, ops[i]? = some o ∧ dstB N o.dst = true ∧ ∃ v, ((gv ops env o = some true ∧ ∀ h', AOp P o (ev P env) h' fun v' h'' => v' = v ∧ h'' = h') ∨ (gv ops env o = some false ∧ v = skipV)) ∧ YDAL C ro N ops Q σ (env.put o.dst v) h s
 | (i, .X) :: σ, env, h, s => ∃ o, ops[i]? = some o ∧ dstB N o.dst = true ∧
   ((gv ops env o = some true ∧ AOp P o (ev P env) h fun v h' => Ext h h' ∧ YDAL C ro N ops Q σ (env.put o.dst v) h' s) ∨ (gv ops env o = some false ∧ YDAL C ro N ops Q σ (env.put o.dst skipV) h s))
 | (i, .W) :: σ, env, h, s => ∃ o, ops[i]? = some o ∧ dstB N o.dst = true ∧
   ((gv ops env o = some true ∧ WOp C ro o (ev P env) h s fun v h' s' => YDAL C ro N ops Q σ (env.put o.dst v) h' s') ∨ (gv ops env o = some false ∧ YDAL C ro N ops Q σ (env.put o.dst skipV) h s))
section
variable {P : Program} {C : Ctx P} {ro : Option Nat} {N : Nat} {ops : Array Oper} {Q : Exit → XQ}
theorem YDAL.eqE : ∀ {σ : List (Nat × KdX)} {e e' : Env} {h : Heap} {s : Option Code}, YDAL C ro N ops Q σ e h s → EqE e e' → YDAL C ro N ops Q σ e' h s
 | [], e, e', h, _, p, q => fun φ a w hl hd r => p φ a w hl hd (r.eqE fun t => (q t).symm)
 | (i, .R) :: σ, e, e', h, _, p, q => by
  obtain ⟨o, ho, hd, v, hv, k⟩ := p
  refine ⟨o, ho, hd, v, ?_, YDAL.eqE k (q.put _ _)⟩
  rw [← q.gv o]
  exact hv.imp (fun ⟨a, b⟩ => ⟨a, b.congr fun x _ => q.ev x⟩) id
 | (i, .P) :: σ, e, e', h, _, p, q => by
  obtain ⟨o, ho, hd, v, hv, k⟩ := p
  refine ⟨o, ho, hd, v, ?_, YDAL.eqE k (q.put _ _)⟩
  rw [← q.gv o]
  exact hv.imp (fun ⟨a, b⟩ => ⟨a, fun h' => (b h').congr fun x _ => q.ev x⟩) id
 | (i, .X) :: σ, e, e', h, _, p, q => by
  obtain ⟨o, ho, hd, hv⟩ := p
  refine ⟨o, ho, hd, ?_⟩
  rw [← q.gv o]
  exact hv.imp (fun ⟨a, b⟩ => ⟨a, (b.congr fun x _ => q.ev x).mono fun v h' _ ⟨k1, k2⟩ => ⟨k1, YDAL.eqE k2 (q.put _ _)⟩⟩) (fun ⟨a, b⟩ => ⟨a, YDAL.eqE b (q.put _ _)⟩)
 | (i, .W) :: σ, e, e', h, _, p, q => by
  obtain ⟨o, ho, hd, hv⟩ := p
  refine ⟨o, ho, hd, ?_⟩
  rw [← q.gv o]
  exact hv.imp (fun ⟨a, b⟩ => ⟨a, (b.congr fun x _ => q.ev x).mono fun v h' s' k => YDAL.eqE k (q.put _ _)⟩) (fun ⟨a, b⟩ => ⟨a, YDAL.eqE b (q.put _ _)⟩)
theorem YDAL.swap {i j : Nat} {k : KdX} {oi oj : Oper} {σ : List (Nat × KdX)} {e : Env} {h : Heap} {s : Option Code} (hi : ops[i]? = some oi) (hj : ops[j]? = some oj) (hap : oj.apart ops oi = true) (hk : kdWX k = false)
  (p : YDAL C ro N ops Q ((j, .R) :: (i, k) :: σ) e h s) : YDAL C ro N ops Q ((i, k) :: (j, .R) :: σ) e h s := by
 obtain ⟨a1, a2, a3⟩ := Oper.apart_spec hap
 obtain ⟨o, ho, hd, vj, hvj, p⟩ := p
 rw [hj] at ho; cases ho
 have later : ∀ (vi : Value) (h' : Heap), Ext h h' → h.next ≤ h'.next → YDAL C ro N ops Q σ ((e.put oj.dst vj).put oi.dst vi) h' s → YDAL C ro N ops Q ((j, .R) :: σ) (e.put oi.dst vi) h' s := by
  intro vi h' hx hn pk
  refine ⟨oj, hj, hd, vj, ?_, pk.eqE (EqE.swap e a2 vj vi)⟩
  rw [qbd a3]
  exact hvj.imp (fun ⟨q1, q2⟩ => ⟨q1, (q2.ext hx hn).congr fun x hx => (qa9 a3 x hx).symm⟩) id
 cases k with
 | P =>
  obtain ⟨o, ho, hdi, vi, hvi, p⟩ := p
  rw [hi] at ho; cases ho
  rw [qbd a1] at hvi
  exact ⟨oi, hi, hdi, vi, hvi.imp (fun ⟨q1, q2⟩ => ⟨q1, fun h' => (q2 h').congr (qa9 a1)⟩) id, later vi h (aU h) (Aa _) p⟩
 | R =>
  obtain ⟨o, ho, hdi, vi, hvi, p⟩ := p
  rw [hi] at ho; cases ho
  rw [qbd a1] at hvi
  exact ⟨oi, hi, hdi, vi, hvi.imp (fun ⟨q1, q2⟩ => ⟨q1, q2.congr (qa9 a1)⟩) id, later vi h (aU h) (Aa _) p⟩
 | X =>
  obtain ⟨o, ho, hdi, hvi⟩ := p
  rw [hi] at ho; cases ho
  rw [qbd a1] at hvi
  refine ⟨oi, hi, hdi, ?_⟩
  exact hvi.imp (fun ⟨q1, q2⟩ => ⟨q1, (q2.congr (qa9 a1)).mono fun v h' hn ⟨k1, k2⟩ => ⟨k1, later v h' k1 hn k2⟩⟩) (fun ⟨q1, q2⟩ => ⟨q1, later skipV h (aU h) (Aa _) q2⟩)
 | W => cases hk
theorem YDAL.swapP {i j : Nat} {k : KdX} {oi oj : Oper} {σ : List (Nat × KdX)} {e : Env} {h : Heap} {s : Option Code} (hi : ops[i]? = some oi) (hj : ops[j]? = some oj) (hap : oj.apart ops oi = true)
  (p : YDAL C ro N ops Q ((j, .P) :: (i, k) :: σ) e h s) : YDAL C ro N ops Q ((i, k) :: (j, .P) :: σ) e h s := by
 obtain ⟨a1, a2, a3⟩ := Oper.apart_spec hap
 obtain ⟨o, ho, hd, vj, hvj, p⟩ := p
 rw [hj] at ho; cases ho
 have later : ∀ (vi : Value) (h' : Heap) (s : Option Code), YDAL C ro N ops Q σ ((e.put oj.dst vj).put oi.dst vi) h' s → YDAL C ro N ops Q ((j, .P) :: σ) (e.put oi.dst vi) h' s := by
  intro vi h' s pk
  refine ⟨oj, hj, hd, vj, ?_, pk.eqE (EqE.swap e a2 vj vi)⟩
  rw [qbd a3]
  exact hvj.imp (fun ⟨q1, q2⟩ => ⟨q1, fun h' => (q2 h').congr fun x hx => (qa9 a3 x hx).symm⟩) id
 cases k with
 | P =>
  obtain ⟨o, ho, hdi, vi, hvi, p⟩ := p
  rw [hi] at ho; cases ho
  rw [qbd a1] at hvi
  exact ⟨oi, hi, hdi, vi, hvi.imp (fun ⟨q1, q2⟩ => ⟨q1, fun h' => (q2 h').congr (qa9 a1)⟩) id, later vi h s p⟩
 | R =>
  obtain ⟨o, ho, hdi, vi, hvi, p⟩ := p
  rw [hi] at ho; cases ho
  rw [qbd a1] at hvi
  exact ⟨oi, hi, hdi, vi, hvi.imp (fun ⟨q1, q2⟩ => ⟨q1, q2.congr (qa9 a1)⟩) id, later vi h s p⟩
 | X =>
  obtain ⟨o, ho, hdi, hvi⟩ := p
  rw [hi] at ho; cases ho
  rw [qbd a1] at hvi
  refine ⟨oi, hi, hdi, ?_⟩
  exact hvi.imp (fun ⟨q1, q2⟩ => ⟨q1, (q2.congr (qa9 a1)).mono fun v h' hn ⟨k1, k2⟩ => ⟨k1, later v h' s k2⟩⟩) (fun ⟨q1, q2⟩ => ⟨q1, later skipV h s q2⟩)
 | W =>
  obtain ⟨o, ho, hdi, hvi⟩ := p
  rw [hi] at ho; cases ho
  rw [qbd a1] at hvi
  refine ⟨oi, hi, hdi, ?_⟩
  exact hvi.imp (fun ⟨q1, q2⟩ => ⟨q1, (q2.congr (qa9 a1)).mono fun v h' s' k2 => later v h' s' k2⟩) (fun ⟨q1, q2⟩ => ⟨q1, later skipV h s q2⟩)
theorem YDAL.front {i : Nat} {k : KdX} {oi : Oper} {σ2 : List (Nat × KdX)} (hi : ops[i]? = some oi) : ∀ {σ1 : List (Nat × KdX)} {e : Env} {h : Heap} {s : Option Code},
  (∀ x ∈ σ1, (x.2 = .P ∨ (x.2 = .R ∧ kdWX k = false)) ∧ ∃ oj, ops[x.1]? = some oj ∧ oj.apart ops oi = true) → YDAL C ro N ops Q (σ1 ++ (i, k) :: σ2) e h s → YDAL C ro N ops Q ((i, k) :: (σ1 ++ σ2)) e h s
 | [], _, _, _, _, p => p
 | (j, kj) :: σ1, e, h, _, hs, p => by
  obtain ⟨h1, oj, h3, h4⟩ := hs (j, kj) (by simp)
  simp only at h1 h3
  rcases h1 with rfl | ⟨rfl, h2⟩
  ·
   obtain ⟨o, ho, hd, v, hv, p⟩ := p
   have p' := YDAL.front (σ2 := σ2) hi (fun s hs' => hs s (by simp [hs'])) p
   exact YDAL.swapP hi h3 h4 ⟨o, ho, hd, v, hv, p'⟩
  ·
   obtain ⟨o, ho, hd, v, hv, p⟩ := p
   have p' := YDAL.front (σ2 := σ2) hi (fun s hs' => hs s (by simp [hs'])) p
   exact YDAL.swap hi h3 h4 h2 ⟨o, ho, hd, v, hv, p'⟩
theorem any_orderY (hdf : ops.all (fun o => deferB o.op == false) = true) (A : Array Nat) (hr : rangeB ops = true) (hc : closeB ops A = true) (hA : ∀ i j, ancB A i j = true → j < ops.size) : ∀ (n : Nat) (σ : List (Nat × KdX)) (L : Array Bool) (env : Env) (h : Heap) (s : Option Code) (φ : Ren) (a : Act) (w : World), σ.length = n → L.size = ops.size →
  (∀ i, i < ops.size → (L.getD i true = false ↔ ∃ k, (i, k) ∈ σ)) → (∀ x ∈ σ, x.1 < ops.size) → (∀ i j, L.getD i false = true → ancB A i j = true → L.getD j false = true) → pairsX ops A σ = true →
  C.L s φ h w → Marks C.B a.defers w → Rel P N φ env h a.tmps w → YDAL C ro N ops Q σ env h s → wpAnyIn (Fc ro) 0 P .any ops (fun ex a' w' => XPost C N φ h w (Q ex) a' w') n L a w := by
 intro n
 induction n with
 | zero =>
  intro σ L env h s φ a w hn hL hmem _ _ _ hl hd r p
  have : σ = [] := Bu hn
  subst this
  refine ⟨?_, p φ a w hl hd r⟩
  apply Dh.2
  intro i hi
  obtain ⟨h1, o, h2, _⟩ := mem_ready.1 hi
  have hlt : i < ops.size := (Az.1 h2).1
  obtain ⟨k, hk⟩ := (hmem i hlt).1 h1
  cases hk
 | succ n ih =>
  intro σ L env h s φ a w hn hL hmem hlt hclo hpr hl hd r p
  have hin : ∀ j, j < ops.size → (¬ ∃ k, (j, k) ∈ σ) → L.getD j false = true := by
   intro j hj hno
   cases hq : L.getD j true with
   | false => exact absurd ((hmem j hj).1 hq) hno
   | true =>
    have hjl : j < L.size := by omega
    simp only [Am, Ar hjl, Bj] at hq ⊢
    exact hq
  have hrange : ∀ (i : Nat) (o : Oper), ops[i]? = some o → ∀ e ∈ o.after, Region.binds .any e = true → e.on < ops.size := by
   intro i o ho e he hb
   have h1 := Be.1 hr o (By ho)
   have h2 := Be.1 h1 e he
   simp only [hb, Cf, Do] at h2
   simpa [Nat.blt_eq] using h2
  refine ⟨fun hnil => ?_, fun i hi => ?_⟩
  ·
   exfalso
   obtain ⟨⟨i0, k0⟩, σ', rfl⟩ : ∃ s σ', σ = s :: σ' := by
    cases σ with
    | nil => simp at hn
    | cons s σ' => exact ⟨s, σ', rfl⟩
   have hi0 := hlt (i0, k0) (by simp)
   have ho0 : ops[i0]? = some ops[i0] := Ar hi0
   have : i0 ∈ Region.ready .any ops L := by
    refine mem_ready.2 ⟨(hmem i0 hi0).2 ⟨k0, by simp⟩, ops[i0], ho0, fun e he hb => ?_⟩
    have hedge : edgeB ops i0 e.on = true := (qbG ho0).2 ⟨e, he, hb, rfl⟩
    refine hin e.on (hrange i0 _ ho0 e he hb) ?_
    rintro ⟨k, hk⟩
    simp only [pairsX, Ae, Ai, Cm, Cf] at hpr
    rcases Ak.1 hk with hk | hk
    ·
     cases hk
     rw [hpr.1.1] at hedge; cases hedge
    ·
     have := (hpr.1.2 _ hk).2
     simp only [pairX, Ae, Cm, Cf] at this
     rw [this.1] at hedge; cases hedge
   rw [hnil] at this
   cases this
  ·
   obtain ⟨hi1, o, ho, hedges⟩ := mem_ready.1 hi
   have hilt : i < ops.size := (Az.1 ho).1
   obtain ⟨k, hk⟩ := (hmem i hilt).1 hi1
   obtain ⟨σ1, σ2, rfl⟩ := List.append_of_mem hk
   obtain ⟨hp1, hp2, hp3⟩ := qfj hpr
   have hanc : ∀ j, ancB A i j = true → L.getD j false = true := by
    intro j hj
    have hjl := hA i j hj
    have h1 := Ai.1 (Ai.1 hc i (Cl.2 hilt)) j (Cl.2 hjl)
    simp only [hj, Cf, Do, Cw, Cz, Ae] at h1
    rcases h1 with h1 | ⟨m, _, h2, h3⟩
    ·
     obtain ⟨e, he, hb, rfl⟩ := (qbG ho).1 h1
     exact hedges e he hb
    ·
     obtain ⟨e, he, hb, rfl⟩ := (qbG ho).1 h2
     exact hclo _ j (hedges e he hb) h3
   have hfr : ∀ x ∈ σ1, (x.2 = .P ∨ (x.2 = .R ∧ kdWX k = false)) ∧ ∃ oj, ops[x.1]? = some oj ∧ oj.apart ops o = true := by
    intro s hs
    obtain ⟨u1, u2⟩ := hp2 s hs
    simp only [pairX, Ae, Cw, Cm, Cf] at u1
    have hap : apartB ops s.1 i = true → ∃ oj, ops[s.1]? = some oj ∧ oj.apart ops o = true := by
     intro u5
     unfold apartB at u5
     rw [ho] at u5
     cases hoj : ops[s.1]? with
     | none => rw [hoj] at u5; cases u5
     | some oj => rw [hoj] at u5; exact ⟨oj, rfl, u5⟩
    rcases u1.2 with (u3 | ⟨⟨u3, u4⟩, u5⟩) | ⟨u3, u5⟩
    ·
     exfalso
     have h1 := hanc s.1 u3
     have h2 := (hmem s.1 (hlt s (by simp [hs]))).2 ⟨s.2, by simp [hs]⟩
     have hjl : s.1 < L.size := by rw [hL]; exact hlt s (by simp [hs])
     simp only [Am, Ar hjl, Bj] at h1 h2
     rw [h1] at h2; cases h2
    ·
     refine ⟨.inr ⟨?_, u4⟩, hap u5⟩
     cases hs2 : s.2 with
     | R => rfl
     | P => rw [hs2] at u3; cases u3
     | X => rw [hs2] at u3; cases u3
     | W => rw [hs2] at u3; cases u3
    ·
     refine ⟨.inl ?_, hap u5⟩
     cases hs2 : s.2 with
     | P => rfl
     | R => rw [hs2] at u3; cases u3
     | X => rw [hs2] at u3; cases u3
     | W => rw [hs2] at u3; cases u3
   have pf := YDAL.front ho hfr p
   have hL' : (L.setIfInBounds i true).size = ops.size := by simp [hL]
   have hlen' : (σ1 ++ σ2).length = n := by simp at hn ⊢; omega
   have hmem' : ∀ j, j < ops.size → ((L.setIfInBounds i true).getD j true = false ↔ ∃ k, (j, k) ∈ σ1 ++ σ2) := by
    intro j hj
    by_cases hji : i = j
    ·
     subst hji
     have : (L.setIfInBounds i true).getD i true = true := by
      simp [Array.getD_eq_getD_getElem?]
     rw [this]
     constructor
     ·
      intro e; cases e
     ·
      rintro ⟨k', hk'⟩
      exfalso
      rcases Bh.1 hk' with h1 | h1
      ·
       exact (hp2 _ h1).2 rfl
      ·
       exact hp3 _ h1 rfl
    ·
     rw [getD_set_ne _ hji, hmem j hj]
     constructor
     ·
      rintro ⟨k', hk'⟩
      refine ⟨k', ?_⟩
      rcases Bh.1 hk' with h1 | h1
      ·
       exact Ch _ h1
      ·
       rcases Ak.1 h1 with h2 | h2
       ·
        cases h2; exact absurd rfl hji
       ·
        exact Br _ h2
     ·
      rintro ⟨k', hk'⟩
      refine ⟨k', ?_⟩
      rcases Bh.1 hk' with h1 | h1
      ·
       exact Ch _ h1
      ·
       exact Br _ (by simp [h1])
   have hlt' : ∀ x ∈ σ1 ++ σ2, x.1 < ops.size := by
    intro s hs
    refine hlt s ?_
    rcases Bh.1 hs with h1 | h1
    ·
     exact Ch _ h1
    ·
     exact Br _ (by simp [h1])
   have hclo' : ∀ x y, (L.setIfInBounds i true).getD x false = true → ancB A x y = true → (L.setIfInBounds i true).getD y false = true := by
    intro x y hx hxy
    refine getD_set_true ?_
    by_cases hxi : i = x
    ·
     subst hxi; exact hanc y hxy
    ·
     rw [getD_set_ne _ hxi] at hx
     exact hclo x y hx hxy
   have go : ∀ (φ' : Ren) (env' : Env) (h' : Heap) (s' : Option Code) (a' : Act) (w' : World), C.L s' φ' h' w' → Marks C.B a'.defers w' → Rel P N φ' env' h' a'.tmps w' → StepX C.x φ h w φ' h' w' → YDAL C ro N ops Q (σ1 ++ σ2) env' h' s' →
     wpAnyIn (Fc ro) 0 P .any ops (fun ex a2 w2 => XPost C N φ h w (Q ex) a2 w2) n (L.setIfInBounds i true) a' w' := by
    intro φ' env' h' s' a' w' hl' hd' r' st p'
    exact qbR (fun _ _ _ hp => hp.trans st) _ _ _ _ (ih (σ1 ++ σ2) _ env' h' s' φ' a' w' hlen' hL' hmem' hlt' hclo' hp1 hl' hd' r' p')
   have hnd : deferB o.op = false := by
    have := Be.1 hdf o (By ho)
    simpa using this
   have runW : ∀ (K : Value → Heap → Option Code → Prop), dstB N o.dst = true → gv ops env o = some true → WOp C ro o (ev P env) h s K → (∀ v h' s', K v h' s' → YDAL C ro N ops Q (σ1 ++ σ2) (env.put o.dst v) h' s') →
     wpOpIn (Fc ro) 0 P ops (fun ex a2 w2 => XPost C N φ h w (Q ex) a2 w2) i (wpAnyIn (Fc ro) 0 P .any ops (fun ex a2 w2 => XPost C N φ h w (Q ex) a2 w2) n (L.setIfInBounds i true)) a w := by
    intro K hdst hg hop hk
    simp only [wpOpIn, ho, qbk r hg, if_true]
    refine hop φ a w hl ⟨r.sim, fun x _ => r.ev x⟩ _ _ fun c w' φ' h' s' v kv vr sm st l' mk => ?_
    exact go φ' _ h' s' _ w' l' (by rw [qa6]; exact hd.keep mk) (Rel.put ⟨sm, r.size, fun t => st.mono (r.env t)⟩ o.dst (qbX hdst) vr) st (hk v h' s' kv)
   have run : ∀ (K : Value → Heap → Prop), dstB N o.dst = true → gv ops env o = some true → AOp P o (ev P env) h K → (∀ v h', K v h' → YDAL C ro N ops Q (σ1 ++ σ2) (env.put o.dst v) h' s) →
     wpOpIn (Fc ro) 0 P ops (fun ex a2 w2 => XPost C N φ h w (Q ex) a2 w2) i (wpAnyIn (Fc ro) 0 P .any ops (fun ex a2 w2 => XPost C N φ h w (Q ex) a2 w2) n (L.setIfInBounds i true)) a w :=
    fun K hdst hg hop hk => runW (fun v h' s' => s' = s ∧ K v h') hdst hg (.of hnd (hop.mono fun v h' _ k => ⟨rfl, k⟩)) fun v h' s' ⟨e, k⟩ => by subst e; exact hk v h' k
   have skip : dstB N o.dst = true → gv ops env o = some false → YDAL C ro N ops Q (σ1 ++ σ2) (env.put o.dst skipV) h s →
     wpOpIn (Fc ro) 0 P ops (fun ex a2 w2 => XPost C N φ h w (Q ex) a2 w2) i (wpAnyIn (Fc ro) 0 P .any ops (fun ex a2 w2 => XPost C N φ h w (Q ex) a2 w2) n (L.setIfInBounds i true)) a w := by
    intro hdst hg hk
    simp only [wpOpIn, ho, qbk r hg, Bk, if_false]
    refine ⟨fun _ _ => trivial, ?_⟩
    exact go φ _ h s _ w hl (by rw [qa6]; exact hd) (r.put o.dst (qbX hdst) .skip) (StepX.refl _ _ _ _) hk
   cases k with
   | P =>
    obtain ⟨o', ho', hdst, v, hv, pk⟩ := pf
    rw [ho] at ho'; cases ho'
    rcases hv with ⟨g1, g2⟩ | ⟨g1, rfl⟩
    ·
     exact run _ hdst g1 (g2 h) fun v' h' ⟨e1, e2⟩ => by subst e1 e2; exact pk
    ·
     exact skip hdst g1 pk
   | R =>
    obtain ⟨o', ho', hdst, v, hv, pk⟩ := pf
    rw [ho] at ho'; cases ho'
    rcases hv with ⟨g1, g2⟩ | ⟨g1, rfl⟩
    ·
     exact run _ hdst g1 (g2 h (aU h) (Aa _)) fun v' h' ⟨e1, e2⟩ => by subst e1 e2; exact pk
    ·
     exact skip hdst g1 pk
   | X =>
    obtain ⟨o', ho', hdst, hv⟩ := pf
    rw [ho] at ho'; cases ho'
    rcases hv with ⟨g1, g2⟩ | ⟨g1, g2⟩
    ·
     exact run _ hdst g1 g2 fun v' h' ⟨_, e2⟩ => e2
    ·
     exact skip hdst g1 g2
   | W =>
    obtain ⟨o', ho', hdst, hv⟩ := pf
    rw [ho] at ho'; cases ho'
    rcases hv with ⟨g1, g2⟩ | ⟨g1, g2⟩
    ·
     exact runW _ hdst g1 g2 fun v' h' s' e2 => e2
    ·
     exact skip hdst g1 g2
theorem XWp.drawY {id : Nat} {σ : List (Nat × KdX)} {env : Env} {h : Heap} {s : Option Code} (hm : P.follows .mixedOrders = true) (hdf : ops.all (fun o => deferB o.op == false) = true) (hb : drawX ops σ = true) (p : YDAL C ro N ops Q σ env h s) : XWp C ro N (.region id ops true) Q env h s := by
 intro φ a w hl hd r
 simp only [drawX, Ae] at hb
 obtain ⟨⟨⟨⟨⟨⟨b1, b2⟩, b3⟩, b4⟩, b5⟩, b6⟩, b7⟩ := hb
 have b1' : σ.length = ops.size := Bz b1
 refine wpIn_region_any hm ?_
 have r' : Rel P N φ env h a.tmps w.drew := ⟨r.sim.drew, r.size, r.env⟩
 refine qbR (fun _ _ _ hp => hp.trans Step.drew.x) _ _ _ _ (any_orderY (ro := ro) hdf (Region.before ops) b5 b7 ?_ ops.size σ (Array.replicate ops.size false) env h s φ a w.drew b1' (by simp) ?_ ?_ ?_ b6 (C.st r.sim hl Step.drew) (hd.step r.sim (Step.drew (φ := φ) (h := h))) r' p)
 ·
  intro i j hij
  unfold ancB at hij
  rcases Bx j ops.size with hl | hl
  ·
   exact hl
  ·
   exfalso
   have hx : (Region.before ops).getD i 0 < 2 ^ ops.size := by
    rcases Bx i (Region.before ops).size with h1 | h1
    ·
     have := Be.1 b4 ((Region.before ops)[i]) (by simp)
     rw [Am, Ar h1]
     simpa [Nat.blt_eq] using this
    ·
     rw [Am, Cq h1]
     exact Nat.two_pow_pos _
   have := Nat.testBit_lt_two_pow (Co hx (Dv (by omega) hl))
   rw [this] at hij
   cases hij
 ·
  intro i hi
  have h1 : (Array.replicate ops.size false).getD i true = false := by
   simp [Array.getD_eq_getD_getElem?, hi]
  rw [h1]
  simp only [true_iff]
  have := Ai.1 b2 i (Cl.2 hi)
  obtain ⟨⟨j, k⟩, h2, h3⟩ := Cz.1 this
  have : j = i := Bz h3
  subst this
  exact ⟨k, h2⟩
 ·
  intro s hs
  simpa [Nat.blt_eq] using Ai.1 b3 s hs
 ·
  intro i j hi
  exfalso
  by_cases hl : i < ops.size
  ·
   simp [Array.getD_eq_getD_getElem?, hl] at hi
  ·
   simp [Array.getD_eq_getD_getElem?, hl] at hi
section steps
variable {i : Nat} {σ : List (Nat × KdX)} {env : Env} {h : Heap} {s : Option Code} {d : Tmp} {op : Op} {ty : TypeId} {pos : String} {aft : Array Edge} {g : Option (Nat × Bool)}
theorem YDAL.r {v : Value} (ho : ops[i]? = some ⟨some d, op, ty, pos, aft, g⟩) (hd : Nat.blt d N = true) (hg : gv ops env ⟨some d, op, ty, pos, aft, g⟩ = some true) (hv : ∀ h', Ext h h' → h.next ≤ h'.next → AOp P ⟨some d, op, ty, pos, aft, g⟩ (ev P env) h' fun v' h'' => v' = v ∧ h'' = h')
  (k : YDAL C ro N ops Q σ ((d, v) :: env) h s) : YDAL C ro N ops Q ((i, .R) :: σ) env h s := ⟨_, ho, hd, v, .inl ⟨hg, hv⟩, k⟩
abbrev cT := @YDAL.r
theorem YDAL.skip {kd : KdX} (ho : ops[i]? = some ⟨some d, op, ty, pos, aft, g⟩) (hd : Nat.blt d N = true) (hg : gv ops env ⟨some d, op, ty, pos, aft, g⟩ = some false)
  (k : YDAL C ro N ops Q σ ((d, skipV) :: env) h s) : YDAL C ro N ops Q ((i, kd) :: σ) env h s := by
 cases kd
 ·
  exact ⟨_, ho, hd, skipV, .inr ⟨hg, rfl⟩, k⟩
 ·
  exact ⟨_, ho, hd, skipV, .inr ⟨hg, rfl⟩, k⟩
 ·
  exact ⟨_, ho, hd, .inr ⟨hg, k⟩⟩
 ·
  exact ⟨_, ho, hd, .inr ⟨hg, k⟩⟩
theorem YDAL.w {dst : Option Tmp} (ho : ops[i]? = some ⟨dst, op, ty, pos, aft, g⟩) (hd : dstB N dst = true) (hg : gv ops env ⟨dst, op, ty, pos, aft, g⟩ = some true) (hv : WOp C ro ⟨dst, op, ty, pos, aft, g⟩ (ev P env) h s fun v h' s' => YDAL C ro N ops Q σ (env.put dst v) h' s') :
  YDAL C ro N ops Q ((i, .W) :: σ) env h s := ⟨_, ho, hd, .inl ⟨hg, hv⟩⟩
theorem YDAL.nil (k : Q .normal env h s) : YDAL C ro N ops Q [] env h s := fun _ _ _ hl hd r => XPost.now k hl hd r
end steps
end
end Go.Eng
/- . -/
namespace Go.Proofs.YtigmojilaadbhaaGreatDoor
open Go Go.Eng Go.Pln Go.Lib Go.Proofs.Tryz
attribute [local irreducible] AWp AL DAL AOp XWp XL YDAL
instance qe2 : FnC prog 171 := ⟨Tryz.f171, func171, by kernel_rfl, by kernel_rfl⟩
instance qeM : FnC prog 193 := ⟨Tryz.f193, func193, by kernel_rfl, by kernel_rfl⟩
instance qeZ : FnC prog 150 := ⟨Tryz.f150, func150, by kernel_rfl, by kernel_rfl⟩
theorem rising0_c (u : Value) (l : List EntM) (h : Heap) (r : RE h u l) : ACalls prog 171 [u] h fun v h' => v = .func (.func 193) #[] #[ptr h.next] ∧ h' = h.alloc ⟨[u], 35, true⟩ := by
 obtain ⟨ro, r1, r2, r3⟩ := r.ex
 obtain ⟨ua, uc, rfl⟩ := r1.slice
 refine aD func171 rfl rfl ?_
 repeat (first | refine W.w ?_ | (refine zz rfl ?_; first | refine qbj rfl ?_ | refine qaS (v := .slice ua ro.length uc) rfl (by intro e; cases e) ?_ | refine qa2 rfl rfl ?_ | refine qao (by conv => lhs; whnf) ?_))
 exact ⟨_, aC rfl, rfl, rfl⟩
def goodAt (l : List EntM) (k : Nat) : Prop := ∀ e, l[k]? = some e → behindM (l.take k) e = true
def risingM (l : List EntM) : Bool := (List.range l.length).all fun k => match l[k]? with
 | some e => behindM (l.take k) e
 | none => true
theorem qdu (l : List EntM) (n : Nat) (hn : n ≤ l.length) (h1 : ∀ i, i < n → goodAt l i) (h2 : n = l.length ∨ ¬ goodAt l n) : risingM l = decide (n = l.length) := by
 rcases h2 with rfl | h2
 ·
  rw [Al rfl]
  refine Ai.2 fun k hk => ?_
  have := h1 k (Cl.1 hk)
  split
  ·
   rename_i e he; exact this e he
  ·
   rfl
 ·
  have hne : n ≠ l.length := by
   rintro rfl
   exact h2 fun e he => by simp at he
  rw [Af hne]
  cases hr : risingM l with
  | false => rfl
  | true =>
   exfalso
   refine h2 fun e he => ?_
   have := Ai.1 hr n (Cl.2 (by omega))
   rw [he] at this
   exact this
theorem rising1_x (C : Ctx prog) (hq : C.Quiet) (y p : Nat) (u : Value) (l : List EntM) (h : Heap) (hb : h.get p = some ⟨[u], 35, true⟩) (r : RE h u l) (Y : Nat → Heap → Prop) (hYe : ∀ k H, Y k H → H.get p = some ⟨[u], 35, true⟩ ∧ RE H u l) (hYs : ∀ k H H', Y k H → Ext H H' → H.next ≤ H'.next → Y k H')
  (hy : YS C y (fun (i : Nat) H args => args.length = 1 ∧ i < l.length ∧ Y i H) (fun i H => Y (i + 1) H) (fun _ _ _ => False)) (h0 : Y 0 h) :
  XCalls C 193 [yieldV y, ptr p] h none fun _ h' s' => (s' = none ∧ ∃ n, n ≤ l.length ∧ (∀ i, i < n → goodAt l i) ∧ (n = l.length ∨ ¬ goodAt l n) ∧ Y n h') ∨ ∃ j, s' = some j ∧ False := by
 refine XCalls.body func193 rfl (Ab rfl) ?_ hq
 obtain ⟨ro, r1, r2, r3⟩ := r.ex
 have hlen := r.len
 obtain ⟨ua, uc, hu⟩ := r1.slice
 repeat (first | refine bU ?_ | refine bS ?_ | refine bE ?_ | refine cG ?_ | refine aQ rfl rfl rfl (qac rfl ?_) | refine aQ rfl rfl rfl (qaf rfl rfl hb rfl ?_) | refine aQ rfl rfl rfl (qaA r1 rfl ?_))
 rw [r2]
 refine XWp.wf fun wf => ?_
 refine XWp.loop (α := Nat × Heap) (fun d => [(0, yieldV y), (1, ptr p), (5, u), (6, .int .i64 (l.length : Nat)), (7, .int .i64 (d.1 : Nat))]) (fun d => d.2) (fun d => d.1 ≤ l.length ∧ (∀ i, i < d.1 → goodAt l i) ∧ Y d.1 d.2 ∧ WF d.2) (fun d => l.length - d.1) (0, h) ⟨Ao _, by omega, h0, wf⟩
  (aI (aA rfl (aA rfl (aA rfl (aA rfl (aA rfl aN)))))) ?_
 rintro ⟨k, H⟩ ⟨hk, hgd, hY, wfH⟩
 replace hk : k ≤ l.length := hk
 replace hgd : ∀ i, i < k → goodAt l i := hgd
 replace hY : Y k H := hY
 replace wfH : WF H := wfH
 show XWp _ _ _ _ _ [(0, yieldV y), (1, ptr p), (5, u), (6, .int .i64 (l.length : Nat)), (7, .int .i64 (k : Nat))] H none
 obtain ⟨hbH, rH⟩ := hYe k H hY
 clear r1 r2 r3 hu
 obtain ⟨ro, r1, r2, r3⟩ := rH.ex
 by_cases hlt : k < l.length
 ·
  obtain ⟨e, he⟩ := gX (l := l) (k := k) hlt
  obtain ⟨row, hrow⟩ := gX (l := ro) (k := k) (by omega)
  obtain ⟨kv, vv, rfl, a1, a2⟩ := r3 k row e hrow he
  have o1 := a1.one
  have o2 := a2.one
  repeat (first | refine bU ?_ | refine bS ?_ | refine bE ?_ | refine XWp.condT rfl ?_ | refine cG ?_ | refine dE ?_ | refine aQ rfl rfl rfl (qac rfl ?_) | refine aQ rfl rfl rfl (qak rfl rfl rfl (by omega) ?_))
  refine aQ rfl rfl rfl (qeg r1 rfl rfl (by omega) (show ro[((k : Nat) : Int).toNat]? = some _ from hrow) ?_)
  intro pp hpp
  repeat (first | refine aQ rfl rfl rfl (qad rfl ?_) | refine aQ rfl rfl rfl (qaW hpp rfl rfl rfl ?_) | refine aQ rfl rfl rfl (qax ?_))
  refine XL.eff rfl rfl (qaL (vs := entC kv vv e) rfl rfl rfl rfl (by unfold entC; simp only [Bc, o1.1, o2.1]; rfl) ?_)
  have g1 := aB H ⟨entC kv vv e, 171, true⟩
  have x1 := wfH.ext ⟨entC kv vv e, 171, true⟩
  have wf1 := wfH.alloc ⟨entC kv vv e, 171, true⟩
  have hY1 := hYs k H _ hY x1 (Ci _)
  generalize H.alloc ⟨entC kv vv e, 171, true⟩ = H1 at g1 x1 wf1 hY1 ⊢
  have xh1 := x1
  have rt : ∀ h', Ext H1 h' → RE h' (subN 4 u 0 (k : Nat)) (l.take k) := fun h' hx => by
   refine ⟨⟨ro.take k, ?_, by simp; omega, fun j row' e' hr' he' => ?_⟩, by simp; omega⟩
   ·
    have := ((r1.ext xh1).ext hx).sub (l := 0) (m := (k : Nat)) (by omega) (by omega) (by omega)
    simpa using this
   ·
    rw [List.getElem?_take] at hr' he'
    split at hr'
    ·
     rw [Ah (by assumption)] at he'
     exact ((r3 j row' e' hr' he').ext xh1).ext hx
    ·
     cases hr'
  have cb := fun (h' : Heap) (hx : Ext H1 h') => behind_c (subN 4 u 0 (k : Nat)) kv vv (l.take k) e h' (rt h' hx) ((a1.ext xh1).ext hx) ((a2.ext xh1).ext hx)
  cases hbm : behindM (l.take k) e with
  | false =>
   rw [hbm] at cb
   repeat (first | refine bU ?_ | refine bS ?_)
   refine XWp.drawY (σ := [(0, .R), (1, .R), (2, .R), (3, .R), (4, .R), (5, .R), (6, .R), (7, .R), (8, .R), (9, .W), (10, .R), (11, .R)]) mixed (by kernel_rfl) (by kernel_rfl) ?_
   repeat' (first | refine YDAL.skip rfl rfl rfl ?_ | refine cT rfl rfl rfl (fun h' hx hn => qac rfl ⟨rfl, rfl⟩) ?_ | refine cT rfl rfl rfl (fun h' hx hn => qae rfl ⟨rfl, rfl⟩) ?_ | refine cT rfl rfl rfl (fun h' hx hn => qaf rfl rfl (hx.c _ _ (xh1.c _ _ hbH)) rfl ⟨rfl, rfl⟩) ?_ | refine cT rfl rfl rfl (fun h' hx hn => qgZ (l := 0) (m := (k : Nat)) ((r1.ext xh1).ext hx) rfl rfl rfl (by omega) (by omega) (by omega) ⟨rfl, rfl⟩) ?_ | refine cT rfl rfl rfl (fun h' hx hn => qam (sz := 4) rfl rfl (hx.c _ _ g1) (Aa _) ⟨rfl, rfl⟩) ?_ | refine cT rfl rfl rfl (fun h' hx hn => qab rfl rfl (cb h' hx) ⟨rfl, rfl⟩) ?_ | refine cT rfl rfl rfl (fun h' hx hn => qaF rfl ⟨rfl, rfl⟩) ?_ | refine cT rfl rfl rfl (fun h' hx hn => qag (v := .bool _) rfl rfl ⟨rfl, rfl⟩) ?_)
   refine YDAL.nil ?_
   repeat (first | refine XWp.condT rfl ?_ | refine XWp.ret ?_)
   exact ⟨_, ResV.none rfl, .inl ⟨rfl, k, hk, hgd, .inr (fun hg => by rw [hg e he] at hbm; cases hbm), hY1⟩⟩
  | true =>
   rw [hbm] at cb
   repeat (first | refine bU ?_ | refine bS ?_)
   refine XWp.drawY (σ := [(0, .R), (1, .R), (2, .R), (3, .R), (4, .R), (5, .R), (6, .R), (7, .R), (8, .R), (9, .W), (10, .R), (11, .R)]) mixed (by kernel_rfl) (by kernel_rfl) ?_
   repeat' (first | refine cT rfl rfl rfl (fun h' hx hn => qac rfl ⟨rfl, rfl⟩) ?_ | refine cT rfl rfl rfl (fun h' hx hn => qae rfl ⟨rfl, rfl⟩) ?_ | refine cT rfl rfl rfl (fun h' hx hn => qbl rfl ⟨rfl, rfl⟩) ?_ | refine cT rfl rfl rfl (fun h' hx hn => qaf rfl rfl (hx.c _ _ (xh1.c _ _ hbH)) rfl ⟨rfl, rfl⟩) ?_ | refine cT rfl rfl rfl (fun h' hx hn => qgZ (l := 0) (m := (k : Nat)) ((r1.ext xh1).ext hx) rfl rfl rfl (by omega) (by omega) (by omega) ⟨rfl, rfl⟩) ?_ | refine cT rfl rfl rfl (fun h' hx hn => qam (sz := 4) rfl rfl (hx.c _ _ g1) (Aa _) ⟨rfl, rfl⟩) ?_ | refine cT rfl rfl rfl (fun h' hx hn => qab rfl rfl (cb h' hx) ⟨rfl, rfl⟩) ?_ | refine cT rfl rfl rfl (fun h' hx hn => qaF rfl ⟨rfl, rfl⟩) ?_)
   refine YDAL.w rfl rfl rfl (WOp.yield (l := y) rfl ?_)
   refine YSpec.mono (hy k H1 [.agg (entC kv vv e).toArray] ⟨rfl, hlt, hY1⟩) ?_
   rintro v' H2 s' wf2 n2 (⟨rfl, rfl, hY2⟩ | ⟨rfl, j, rfl, hF⟩)
   ·
    repeat' (first | refine cT rfl rfl rfl (fun h' hx hn => qaF rfl ⟨rfl, rfl⟩) ?_ | refine cT rfl rfl rfl (fun h' hx hn => qag (v := .bool _) rfl rfl ⟨rfl, rfl⟩) ?_)
    refine YDAL.nil ?_
    repeat (first | refine bU ?_ | refine bE ?_ | refine dC rfl ?_ | refine dE ?_ | refine aQ rfl rfl rfl (qac rfl ?_) | refine aQ rfl rfl rfl (qau rfl rfl (by omega) ?_))
    refine ⟨rfl, (k + 1, H2), ⟨hlt, fun i hi => ?_, hY2, wf2⟩, by show l.length - (k + 1) < l.length - k; omega, aI (aA rfl (aA rfl (aA rfl (aA rfl (aA rfl aN)))))⟩
    by_cases hik : i < k
    ·
     exact hgd i hik
    ·
     obtain rfl : i = k := by omega
     intro e' he'
     rw [he] at he'
     cases he'
     exact hbm
   ·
    exact hF.elim
 ·
  obtain rfl : k = l.length := by omega
  repeat (first | refine bU ?_ | refine bS ?_ | refine bE ?_ | refine dC rfl ?_ | refine XWp.exit ?_ | refine aQ rfl rfl rfl (qai rfl rfl rfl (by omega) ?_))
  exact ⟨_, ResV.none rfl, .inl ⟨rfl, _, Aa _, hgd, .inl rfl, hY⟩⟩
abbrev cellN (n : Int) : Blk := ⟨[.int .i64 n], 3, true⟩
theorem rising_c (u : Value) (l : List EntM) (h : Heap) (r : RE h u l) : ACalls prog 150 [u] h fun v h' => v = .bool (risingM l) ∧ h' = h := by
 refine aL fun wf => aO ?_
 refine ACalls.bodyX func150 rfl (Ab rfl) fun bb => ?_
 obtain ⟨ro, r1, r2, r3⟩ := r.ex
 have hlen := r.len
 obtain ⟨ua, uc, hu⟩ := r1.slice
 repeat (first | refine bU ?_ | refine bS ?_ | refine bE ?_ | refine aQ rfl rfl rfl (qaa rfl ?_) | refine aQ rfl rfl rfl (qax ?_))
 refine XL.eff rfl rfl (qeD (v := .int .i64 0) rfl rfl rfl ?_)
 have g0 : (h.alloc (cellN 0)).get h.next = some (cellN 0) := aB _ _
 have x0 := wf.ext (cellN 0)
 have wf0 := wf.alloc (cellN 0)
 generalize h.alloc (cellN 0) = H0 at g0 x0 wf0 ⊢
 repeat (first | refine bU ?_ | refine bS ?_ | refine bE ?_ | refine aQ rfl rfl rfl (qal (v := u) rfl ?_) | refine aQ rfl rfl rfl (qat rfl rfl ((rising0_c u l H0 (r.ext x0)).mono ?_)))
 rintro _ H1 ⟨rfl, hH1⟩
 cases hH1.symm
 obtain ⟨H1, hQ, g1, x1, wf1, _⟩ := aq wf0 ⟨[u], 35, true⟩
 rw [hQ]
 have n1 := wf1.lt (x1.c _ _ g0)
 have n0 : h.next ≠ H0.next := fun e => by have := wf0.lt g0; omega
 have hxx := x0.trans x1
 let Y : Nat → Heap → Prop := fun k H => Ext h H ∧ H.get h.next = some (cellN (k : Nat)) ∧ H.get H0.next = some ⟨[u], 35, true⟩
 repeat (first | refine bU ?_ | refine cG ?_)
 refine XWp.rangeFunc (ι := Nat) (fi := []) (ca := [ptr H0.next]) (fun i H args => args.length = 1 ∧ i < l.length ∧ Y i H) (fun i H => Y (i + 1) H) (fun _ _ _ => False)
  (fun H => ∃ n, n ≤ l.length ∧ (∀ i, i < n → goodAt l i) ∧ (n = l.length ∨ ¬ goodAt l n) ∧ Y n H) (fun _ _ => False) rfl (fun k e => e) (fun _ _ l => l) rfl ?_ ?_ ?_ ?_ ?_
 ·
  rintro i H args ⟨e, _⟩; exact e
 ·
  intro C1 y hq ys
  exact rising1_x C1 hq y H0.next u l H1 g1 (r.ext hxx) Y (fun k H hY => ⟨hY.2.2, r.ext hY.1⟩) (fun k H H' hY hx _ => ⟨hY.1.trans hx, hx.c _ _ hY.2.1, hx.c _ _ hY.2.2⟩) ys ⟨hxx, x1.c _ _ g0, g1⟩
 ·
  rintro Ca Cb y i H args ⟨e, hi, hY1, hY2, hY3⟩
  match args, e with
  | [a], _ =>
   show XWp Ca _ _ _ _ (setPs _ [a] _) H none
   repeat (first | refine bE ?_ | refine cG ?_ | refine dE ?_ | refine aQ rfl rfl rfl (qaf rfl rfl hY2 rfl ?_) | refine aQ rfl rfl rfl (qau rfl rfl (by omega) ?_))
   refine XL.eff rfl rfl (qaw (v := .int .i64 ((i : Int) + 1)) rfl rfl rfl hY2 rfl (Ec) ?_)
   have hs : H.set h.next ⟨[.int .i64 ((i : Int) + 1)], 3, true⟩ = H.set h.next (cellN ((i + 1 : Nat) : Nat)) := by
    rw [show (i : Int) + 1 = ((i + 1 : Nat) : Int) by omega]
   refine XL.heap hs ?_
   repeat (first | refine bU ?_)
   exact ⟨wf.ext_set hY1 (Aa _) _, aF _ _ _, (aH (Ne.symm n0)).trans hY3⟩
 ·
  rintro H hn ⟨n, h1, h2, h3, hY1, hY2, hY3⟩
  have hr := qdu l n h1 h2 h3
  obtain ⟨ro', s1, s2, s3⟩ := (r.ext hY1).ex
  by_cases hnl : n = l.length
  ·
   rw [Al hnl] at hr
   repeat (first | refine bU ?_ | refine bS ?_ | refine bE ?_ | refine XWp.ret ?_ | refine aQ rfl rfl rfl (qaa rfl ?_) | refine aQ rfl rfl rfl (qaf rfl rfl hY2 rfl ?_) | refine aQ rfl rfl rfl (qal (v := u) rfl ?_) | refine aQ rfl rfl rfl (qaA s1 rfl ?_) | refine aQ rfl rfl rfl (qak rfl rfl rfl (by omega) ?_))
   exact ⟨_, aC rfl, rfl, hY1, congrArg Value.bool hr.symm, rfl⟩
  ·
   rw [Af hnl] at hr
   repeat (first | refine bU ?_ | refine bS ?_ | refine bE ?_ | refine XWp.ret ?_ | refine aQ rfl rfl rfl (qaa rfl ?_) | refine aQ rfl rfl rfl (qaf rfl rfl hY2 rfl ?_) | refine aQ rfl rfl rfl (qal (v := u) rfl ?_) | refine aQ rfl rfl rfl (qaA s1 rfl ?_) | refine aQ rfl rfl rfl (qai rfl rfl rfl (by omega) ?_))
   exact ⟨_, aC rfl, rfl, hY1, congrArg Value.bool hr.symm, rfl⟩
 ·
  rintro H j _ hF
  exact hF.elim
end Go.Proofs.YtigmojilaadbhaaGreatDoor
/- . -/
namespace Go.Eng
open Go
section
variable {P : Program} {ρ : Operand → Value} {h : Heap} {K : Value → Heap → Prop} {dst : Option Tmp} {ty : TypeId} {pos : String} {aft : Array Edge} {g : Option (Nat × Bool)}
theorem qaI {t e : TypeId} {x y : Operand} {H : Heap} {by_ o : Nat} {z v : Value} {s : Option Nat} {old : List Value} [ti : TyI P t 1 by_ z] (hx : ρ x = .pointer (some ⟨H.next, o, s⟩)) (hy : ρ y = v) (h1 : oneB v = true) (hl : Nat.blt o old.length = true)
  (kk : K undef (H.alloc ⟨old.set o v, e, true⟩)) : AOp P ⟨dst, .store t x y, ty, pos, aft, g⟩ ρ (H.alloc ⟨old, e, true⟩) K := by
 refine qaw (b := ⟨old, e, true⟩) hx hy h1 (aB _ _) rfl (by simpa [Nat.blt_eq] using hl) ?_
 show K undef ((H.alloc ⟨old, e, true⟩).set H.next ⟨old.set o v, e, true⟩)
 rw [cU]
 exact kk
theorem qbp {t e : TypeId} {x y : Operand} {H : Heap} {sz by_ o : Nat} {z : Value} {s : Option Nat} {old vs : List Value} [ti : TyI P t sz by_ z] (hx : ρ x = .pointer (some ⟨H.next, o, s⟩)) (hy : ρ y = .agg vs.toArray) (hsz : vs.length = sz) (h1 : vs.all oneB = true) (hl : Nat.ble (o + sz) old.length = true)
  (kk : K undef (H.alloc ⟨splice old o vs, e, true⟩)) : AOp P ⟨dst, .store t x y, ty, pos, aft, g⟩ ρ (H.alloc ⟨old, e, true⟩) K := by
 refine qbt (vs := vs.toArray) hx hy (by simpa using h1) (by simpa using hsz) (aB _ _) rfl (Ab hl) ?_
 show K undef ((H.alloc ⟨old, e, true⟩).set H.next ⟨splice old o vs, e, true⟩)
 rw [cU]
 exact kk
theorem qaq {t e : TypeId} {x y : Operand} {i sz by_ : Nat} {z : Value} {s : Option Nat} {old vs : List Value} [ti : TyI P t sz by_ z] (hx : ρ x = .pointer (some ⟨i, 0, s⟩)) (hy : ρ y = .agg vs.toArray) (hsz : vs.length = sz) (h1 : vs.all oneB = true) (hi : h.get i = some ⟨old, e, true⟩) (ho : old.length = sz)
  (kk : K undef (h.set i ⟨vs, e, true⟩)) : AOp P ⟨dst, .store t x y, ty, pos, aft, g⟩ ρ h K := by
 refine qbt (vs := vs.toArray) hx hy (by simpa using h1) (by simpa using hsz) hi rfl (by show 0 + sz ≤ old.length; omega) ?_
 have e1 : splice old 0 vs = vs := by
  unfold splice
  rw [Dl (by omega)]
  simp
 show K undef (h.set i ⟨splice old 0 vs, e, true⟩)
 rw [e1]
 exact kk
end
end Go.Eng
