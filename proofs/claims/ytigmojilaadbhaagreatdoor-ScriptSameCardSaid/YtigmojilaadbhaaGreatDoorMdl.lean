/-
  Texts of one claim, merged: 7 parts.
-/
import Derived.Test.YtigmojilaadbhaaGreatDoorMdk
import Derived.Test.YtigmojilaadbhaaGreatDoorMdi
import Derived.Test.YtigmojilaadbhaaGreatDoorMdf
set_option maxHeartbeats 16000000
/- . -/
namespace Go.Proofs.YtigmojilaadbhaaGreatDoor
open Go Go.Eng Go.Pln Go.Lib
attribute [local irreducible] AWp AL DAL AOp
instance qed : FnC Tryz.prog 75 := ⟨Tryz.f75, Tryz.func75, by kernel_rfl, by kernel_rfl⟩
instance qew : FnC Tryz.prog 74 := ⟨Tryz.f74, Tryz.func74, by kernel_rfl, by kernel_rfl⟩
instance qdA : FnC Tryz.prog 73 := ⟨Tryz.f73, Tryz.func73, by kernel_rfl, by kernel_rfl⟩
instance i_TyD_Sl_Sl_int : TyD Tryz.prog 22 (.slice 77) := ⟨Tryz.underlying22⟩
instance i_TyI_Sl_Sl_int : TyI Tryz.prog 22 1 24 (.slice none 0 0) := ⟨qaK (by kernel_rfl), rfl, rfl⟩
instance i_TyD_api_Setup : TyD Tryz.prog 24 (.struct #[fd "Nodes" 3 0 "" 0, fd "Groups" 22 1 "" 8, fd "Disk" 3 2 "" 32, fd "Memory" 3 3 "" 40, fd "Level" 3 4 "" 48]) := ⟨Tryz.underlying24⟩
instance i_TyI_api_Setup : TyI Tryz.prog 24 5 56 (.agg #[.int .i64 0, .slice none 0 0, .int .i64 0, .int .i64 0, .int .i64 0]) := ⟨qaK (by kernel_rfl), rfl, rfl⟩
instance qhF : FAd Tryz.prog 24 0 0 := FAd.mk' (ft := 3) Tryz.underlying24 rfl rfl rfl rfl
instance qhx : FAd Tryz.prog 24 1 1 := FAd.mk' (ft := 22) Tryz.underlying24 rfl rfl rfl rfl
instance qgW : FAd Tryz.prog 24 2 2 := FAd.mk' (ft := 3) Tryz.underlying24 rfl rfl rfl rfl
instance qhz : FAd Tryz.prog 24 3 3 := FAd.mk' (ft := 3) Tryz.underlying24 rfl rfl rfl rfl
instance qg7 : FAd Tryz.prog 24 4 4 := FAd.mk' (ft := 3) Tryz.underlying24 rfl rfl rfl rfl
def setC (vg : Value) (x : SetM) : List Value := [.int .i64 x.nodes, vg, .int .i64 x.disk, .int .i64 x.memory, .int .i64 x.level]
theorem qcx (n a b : Int) (h : Heap) : ACalls Tryz.prog 75 [.int .i64 n, .int .i64 a, .int .i64 b] h fun u h' => u = .bool (decide (a ≤ n ∧ n ≤ b)) ∧ h' = h := by
 refine ACalls.body Tryz.func75 rfl rfl ?_
 by_cases h1 : a ≤ n
 ·
  by_cases h2 : n ≤ b
  ·
   repeat (first | refine W.w ?_ | (refine zz rfl ?_; first | refine qad rfl ?_ | refine qag rfl ?_ | refine qaa rfl ?_ | refine qaj rfl rfl rfl (by omega) ?_ | refine qai (v := .bool _) rfl rfl ?_))
   exact ⟨_, ResV.tmp rfl, by rw [decide_eq_true ⟨h1, h2⟩]; rfl, rfl⟩
  ·
   repeat (first | refine W.w ?_ | (refine zz rfl ?_; first | refine qad rfl ?_ | refine qag rfl ?_ | refine qaa rfl ?_ | refine qaj rfl rfl rfl (by omega) ?_ | refine qak rfl rfl rfl (by omega) ?_ | refine qai (v := .bool _) rfl rfl ?_))
   exact ⟨_, ResV.tmp rfl, by rw [decide_eq_false fun e => h2 e.2]; rfl, rfl⟩
 ·
  repeat (first | refine W.w ?_ | refine AL.skip rfl rfl ?_ | (refine zz rfl ?_; first | refine qad rfl ?_ | refine qag rfl ?_ | refine qaa rfl ?_ | refine qak rfl rfl rfl (by omega) ?_ | refine qai (v := .bool _) rfl rfl ?_))
  exact ⟨_, ResV.tmp rfl, by rw [decide_eq_false fun e => h1 e.1]; rfl, rfl⟩
theorem qbm {n a b : Int} (h : Heap) (c : a ≤ n ∧ n ≤ b) : ACalls Tryz.prog 75 [.int .i64 n, .int .i64 a, .int .i64 b] h fun u h' => u = .bool true ∧ h' = h := by
 have := qcx n a b h
 rwa [decide_eq_true c] at this
theorem qce {n a b : Int} (h : Heap) (c : ¬ (a ≤ n ∧ n ≤ b)) : ACalls Tryz.prog 75 [.int .i64 n, .int .i64 a, .int .i64 b] h fun u h' => u = .bool false ∧ h' = h := by
 have := qcx n a b h
 rwa [decide_eq_false c] at this
theorem sizes_c (x : SetM) (vg : Value) (_hv : vg ≠ undef) (h : Heap) : ACalls Tryz.prog 74 [.agg (setC vg x).toArray] h fun u h' => u = .bool (sizesM x) ∧ h' = h := by
 refine ACalls.wf fun wf => ACalls.reset ?_
 refine ACalls.body Tryz.func74 rfl rfl ?_
 repeat (first | refine W.w ?_ | refine zz rfl (qaa rfl ?_) | refine zz rfl (qaI rfl (by intro e; cases e) ?_))
 generalize hH : h.alloc _ = H
 have hg : H.get h.next = some ⟨setC vg x, 24, true⟩ := hH ▸ Heap.alloc_new _ _
 have hx : Ext h H := hH ▸ wf.ext _
 by_cases c1 : 1 ≤ x.nodes ∧ x.nodes ≤ 5
 ·
  by_cases c2 : 1024 ≤ x.disk ∧ x.disk ≤ 1048576
  ·
   by_cases c3 : 64 ≤ x.memory ∧ x.memory ≤ 4096
   ·
    by_cases c4 : 256 ≤ x.level ∧ x.level ≤ 65536
    ·
     repeat (first | refine W.w ?_ | (refine zz rfl ?_; first | refine qag rfl ?_ | refine qaa rfl ?_ | refine qap rfl ?_ | refine qae rfl rfl hg rfl ?_ | refine qab rfl rfl (qbm H c1) ?_ | refine qab rfl rfl (qbm H c2) ?_ | refine qab rfl rfl (qbm H c3) ?_ | refine qab rfl rfl (qbm H c4) ?_ | refine qai (v := .bool _) rfl rfl ?_))
     exact ⟨_, ResV.tmp rfl, rfl, hx, by rw [sizesM, decide_eq_true (by omega)]; rfl, rfl⟩
    ·
     repeat (first | refine W.w ?_ | (refine zz rfl ?_; first | refine qag rfl ?_ | refine qaa rfl ?_ | refine qap rfl ?_ | refine qae rfl rfl hg rfl ?_ | refine qab rfl rfl (qbm H c1) ?_ | refine qab rfl rfl (qbm H c2) ?_ | refine qab rfl rfl (qbm H c3) ?_ | refine qab rfl rfl (qce H c4) ?_ | refine qai (v := .bool _) rfl rfl ?_))
     exact ⟨_, ResV.tmp rfl, rfl, hx, by rw [sizesM, decide_eq_false (by omega)]; rfl, rfl⟩
   ·
    repeat (first | refine W.w ?_ | refine AL.skip rfl rfl ?_ | (refine zz rfl ?_; first | refine qag rfl ?_ | refine qaa rfl ?_ | refine qap rfl ?_ | refine qae rfl rfl hg rfl ?_ | refine qab rfl rfl (qbm H c1) ?_ | refine qab rfl rfl (qbm H c2) ?_ | refine qab rfl rfl (qce H c3) ?_ | refine qai (v := .bool _) rfl rfl ?_))
    exact ⟨_, ResV.tmp rfl, rfl, hx, by rw [sizesM, decide_eq_false (by omega)]; rfl, rfl⟩
  ·
   repeat (first | refine W.w ?_ | refine AL.skip rfl rfl ?_ | (refine zz rfl ?_; first | refine qag rfl ?_ | refine qaa rfl ?_ | refine qap rfl ?_ | refine qae rfl rfl hg rfl ?_ | refine qab rfl rfl (qbm H c1) ?_ | refine qab rfl rfl (qce H c2) ?_ | refine qai (v := .bool _) rfl rfl ?_))
   exact ⟨_, ResV.tmp rfl, rfl, hx, by rw [sizesM, decide_eq_false (by omega)]; rfl, rfl⟩
 ·
  repeat (first | refine W.w ?_ | refine AL.skip rfl rfl ?_ | (refine zz rfl ?_; first | refine qag rfl ?_ | refine qaa rfl ?_ | refine qap rfl ?_ | refine qae rfl rfl hg rfl ?_ | refine qab rfl rfl (qce H c1) ?_ | refine qai (v := .bool _) rfl rfl ?_))
  exact ⟨_, ResV.tmp rfl, rfl, hx, by rw [sizesM, decide_eq_false (by omega)]; rfl, rfl⟩
instance i_TyD_api_AskKind : TyD Tryz.prog 26 (.int .i64) := ⟨Tryz.underlying26⟩
instance i_TyI_api_AskKind : TyI Tryz.prog 26 1 8 (.int .i64 0) := ⟨qaK (by kernel_rfl), rfl, rfl⟩
instance i_TyD_api_Ask : TyD Tryz.prog 29 (.struct #[fd "Kind" 26 0 "" 0, fd "Key" 27 1 "" 8, fd "To" 27 2 "" 32, fd "Value" 27 3 "" 56, fd "Was" 27 4 "" 80, fd "None" 4 5 "" 104, fd "Most" 3 6 "" 112]) := ⟨Tryz.underlying29⟩
instance i_TyI_api_Ask : TyI Tryz.prog 29 7 120 (.agg #[.int .i64 0, .slice none 0 0, .slice none 0 0, .slice none 0 0, .slice none 0 0, .bool false, .int .i64 0]) := ⟨qaK (by kernel_rfl), rfl, rfl⟩
instance i_FAd_api_Ask_0_0 : FAd Tryz.prog 29 0 0 := FAd.mk' (ft := 26) Tryz.underlying29 rfl rfl rfl rfl
instance i_FAd_api_Ask_1_1 : FAd Tryz.prog 29 1 1 := FAd.mk' (ft := 27) Tryz.underlying29 rfl rfl rfl rfl
instance i_FAd_api_Ask_2_2 : FAd Tryz.prog 29 2 2 := FAd.mk' (ft := 27) Tryz.underlying29 rfl rfl rfl rfl
instance i_FAd_api_Ask_3_3 : FAd Tryz.prog 29 3 3 := FAd.mk' (ft := 27) Tryz.underlying29 rfl rfl rfl rfl
instance i_FAd_api_Ask_4_4 : FAd Tryz.prog 29 4 4 := FAd.mk' (ft := 27) Tryz.underlying29 rfl rfl rfl rfl
instance i_FAd_api_Ask_5_5 : FAd Tryz.prog 29 5 5 := FAd.mk' (ft := 4) Tryz.underlying29 rfl rfl rfl rfl
instance i_FAd_api_Ask_6_6 : FAd Tryz.prog 29 6 6 := FAd.mk' (ft := 3) Tryz.underlying29 rfl rfl rfl rfl
instance i_FnC_bytes_Equal : FnC Tryz.prog 143 := ⟨Tryz.f143, Tryz.func143, by kernel_rfl, by kernel_rfl⟩
theorem qeX {ρ : Operand → Value} {h : Heap} {K : Value → Heap → Prop} {dst : Option Tmp} {ty : TypeId} {pos : String} {aft : Array Edge} {g : Option (Nat × Bool)} {t t' : TypeId} {x y : Operand} {a b : Bool} [ti : TyD Tryz.prog t .bool] (hx : ρ x = .bool a) (hy : ρ y = .bool b) (he : ¬ a = b) (kk : K (.bool false) h) : AOp Tryz.prog ⟨dst, .binOp .eql t x y t', ty, pos, aft, g⟩ ρ h K :=
 qdV hx hy (by rw [beq_eq_false_iff_ne.2 he]; exact kk)
structure AskV where
 k : Value
 t : Value
 v : Value
 w : Value
def askC (q : AskV) (a : AskM) : List Value := [.int .i64 a.kind, q.k, q.t, q.v, q.w, .bool a.none, .int .i64 a.most]
structure AskR (h : Heap) (q : AskV) (a : AskM) : Prop where
 k : RB h q.k a.key
 t : RB h q.t a.to
 v : RB h q.v a.value
 w : RB h q.w a.was
theorem AskR.ext {h h' : Heap} {q : AskV} {a : AskM} (r : AskR h q a) (hx : Ext h h') : AskR h' q a := ⟨r.k.ext hx, r.t.ext hx, r.v.ext hx, r.w.ext hx⟩
theorem qb0 {u v : Value} {a b : Bytes} {h : Heap} (ra : RB h u a) (rb : RB h v b) (e : a = b) : ACalls Tryz.prog 143 [u, v] h fun x h' => x = .bool true ∧ h' = h := by
 have := qcq u v a b h ra rb
 rwa [show (a == b) = true from beq_iff_eq.2 e] at this
theorem beq_n {u v : Value} {a b : Bytes} {h : Heap} (ra : RB h u a) (rb : RB h v b) (e : ¬ a = b) : ACalls Tryz.prog 143 [u, v] h fun x h' => x = .bool false ∧ h' = h := by
 have := qcq u v a b h ra rb
 rwa [show (a == b) = false from beq_eq_false_iff_ne.2 e] at this
theorem ask_ext {a b : AskM} (h1 : a.kind = b.kind) (h2 : a.key = b.key) (h3 : a.to = b.to) (h4 : a.value = b.value) (h5 : a.was = b.was) (h6 : a.none = b.none) (h7 : a.most = b.most) : a = b := by
 cases a; cases b; simp_all
theorem qgD (p q : AskV) (a b : AskM) (h : Heap) (ra : AskR h p a) (rb : AskR h q b) : ACalls Tryz.prog 111 [.agg (askC p a).toArray, .agg (askC q b).toArray] h fun u h' => u = .bool (decide (a = b)) ∧ h' = h := by
 refine ACalls.wf fun wf => ACalls.reset ?_
 refine ACalls.body Tryz.func111 rfl rfl ?_
 repeat (first | refine W.w ?_ | refine zz rfl (qaa rfl ?_) | refine zz rfl (qaI rfl (by intro e; cases e) ?_))
 generalize hH : h.alloc _ = H1
 have hg0 : H1.get h.next = some ⟨askC p a, 29, true⟩ := hH ▸ Heap.alloc_new _ _
 have hx1 : Ext h H1 := hH ▸ wf.ext _
 have wf1 : WF H1 := hH ▸ wf.alloc _
 have ra1 := ra.ext hx1
 skip
 generalize hH2 : H1.alloc _ = H
 have hg2 : H.get H1.next = some ⟨askC q b, 29, true⟩ := hH2 ▸ Heap.alloc_new _ _
 have hx2 : Ext H1 H := hH2 ▸ wf1.ext _
 have hg1 : H.get h.next = some ⟨askC p a, 29, true⟩ := hx2.c _ _ hg0
 have hx : Ext h H := ⟨fun i o e => hx2.c i o (hx1.c i o e), fun i o e => hx2.o i o (hx1.o i o e)⟩
 have ra2 := ra.ext hx
 have rb2 := rb.ext hx
 by_cases c_key : a.key = b.key
 ·
  by_cases c_to : a.to = b.to
  ·
   by_cases c_value : a.value = b.value
   ·
    by_cases c_was : a.was = b.was
    ·
     by_cases c_kind : a.kind = b.kind
     ·
      by_cases c_none : a.none = b.none
      ·
       by_cases c_most : a.most = b.most
       ·
        repeat (first | refine W.w ?_ | (refine zz rfl ?_; first | refine qag rfl ?_ | refine qaa rfl ?_ | refine qap rfl ?_ | refine qae rfl rfl hg1 rfl ?_ | refine qae rfl rfl hg2 rfl ?_ | refine qab rfl rfl (qb0 ra2.k rb2.k c_key) ?_ | refine qab rfl rfl (qb0 ra2.t rb2.t c_to) ?_ | refine qab rfl rfl (qb0 ra2.v rb2.v c_value) ?_ | refine qab rfl rfl (qb0 ra2.w rb2.w c_was) ?_ | refine qaj rfl rfl rfl c_kind ?_ | refine qby rfl rfl c_none ?_ | refine qaj rfl rfl rfl c_most ?_ | refine qai (v := .bool _) rfl rfl ?_))
        exact ⟨_, ResV.tmp rfl, rfl, hx, by rw [decide_eq_true (ask_ext c_kind c_key c_to c_value c_was c_none c_most)]; rfl, rfl⟩
       ·
        repeat (first | refine W.w ?_ | (refine zz rfl ?_; first | refine qag rfl ?_ | refine qaa rfl ?_ | refine qap rfl ?_ | refine qae rfl rfl hg1 rfl ?_ | refine qae rfl rfl hg2 rfl ?_ | refine qab rfl rfl (qb0 ra2.k rb2.k c_key) ?_ | refine qab rfl rfl (qb0 ra2.t rb2.t c_to) ?_ | refine qab rfl rfl (qb0 ra2.v rb2.v c_value) ?_ | refine qab rfl rfl (qb0 ra2.w rb2.w c_was) ?_ | refine qaj rfl rfl rfl c_kind ?_ | refine qby rfl rfl c_none ?_ | refine qak rfl rfl rfl c_most ?_ | refine qai (v := .bool _) rfl rfl ?_))
        exact ⟨_, ResV.tmp rfl, rfl, hx, by rw [decide_eq_false fun e => c_most (congrArg AskM.most e)]; rfl, rfl⟩
      ·
       repeat (first | refine W.w ?_ | refine AL.skip rfl rfl ?_ | (refine zz rfl ?_; first | refine qag rfl ?_ | refine qaa rfl ?_ | refine qap rfl ?_ | refine qae rfl rfl hg1 rfl ?_ | refine qae rfl rfl hg2 rfl ?_ | refine qab rfl rfl (qb0 ra2.k rb2.k c_key) ?_ | refine qab rfl rfl (qb0 ra2.t rb2.t c_to) ?_ | refine qab rfl rfl (qb0 ra2.v rb2.v c_value) ?_ | refine qab rfl rfl (qb0 ra2.w rb2.w c_was) ?_ | refine qaj rfl rfl rfl c_kind ?_ | refine qeX rfl rfl c_none ?_ | refine qai (v := .bool _) rfl rfl ?_))
       exact ⟨_, ResV.tmp rfl, rfl, hx, by rw [decide_eq_false fun e => c_none (congrArg AskM.none e)]; rfl, rfl⟩
     ·
      repeat (first | refine W.w ?_ | refine AL.skip rfl rfl ?_ | (refine zz rfl ?_; first | refine qag rfl ?_ | refine qaa rfl ?_ | refine qap rfl ?_ | refine qae rfl rfl hg1 rfl ?_ | refine qae rfl rfl hg2 rfl ?_ | refine qab rfl rfl (qb0 ra2.k rb2.k c_key) ?_ | refine qab rfl rfl (qb0 ra2.t rb2.t c_to) ?_ | refine qab rfl rfl (qb0 ra2.v rb2.v c_value) ?_ | refine qab rfl rfl (qb0 ra2.w rb2.w c_was) ?_ | refine qak rfl rfl rfl c_kind ?_ | refine qai (v := .bool _) rfl rfl ?_))
      exact ⟨_, ResV.tmp rfl, rfl, hx, by rw [decide_eq_false fun e => c_kind (congrArg AskM.kind e)]; rfl, rfl⟩
    ·
     repeat (first | refine W.w ?_ | refine AL.skip rfl rfl ?_ | (refine zz rfl ?_; first | refine qag rfl ?_ | refine qaa rfl ?_ | refine qap rfl ?_ | refine qae rfl rfl hg1 rfl ?_ | refine qae rfl rfl hg2 rfl ?_ | refine qab rfl rfl (qb0 ra2.k rb2.k c_key) ?_ | refine qab rfl rfl (qb0 ra2.t rb2.t c_to) ?_ | refine qab rfl rfl (qb0 ra2.v rb2.v c_value) ?_ | refine qab rfl rfl (beq_n ra2.w rb2.w c_was) ?_ | refine qai (v := .bool _) rfl rfl ?_))
     exact ⟨_, ResV.tmp rfl, rfl, hx, by rw [decide_eq_false fun e => c_was (congrArg AskM.was e)]; rfl, rfl⟩
   ·
    repeat (first | refine W.w ?_ | refine AL.skip rfl rfl ?_ | (refine zz rfl ?_; first | refine qag rfl ?_ | refine qaa rfl ?_ | refine qap rfl ?_ | refine qae rfl rfl hg1 rfl ?_ | refine qae rfl rfl hg2 rfl ?_ | refine qab rfl rfl (qb0 ra2.k rb2.k c_key) ?_ | refine qab rfl rfl (qb0 ra2.t rb2.t c_to) ?_ | refine qab rfl rfl (beq_n ra2.v rb2.v c_value) ?_ | refine qai (v := .bool _) rfl rfl ?_))
    exact ⟨_, ResV.tmp rfl, rfl, hx, by rw [decide_eq_false fun e => c_value (congrArg AskM.value e)]; rfl, rfl⟩
  ·
   repeat (first | refine W.w ?_ | refine AL.skip rfl rfl ?_ | (refine zz rfl ?_; first | refine qag rfl ?_ | refine qaa rfl ?_ | refine qap rfl ?_ | refine qae rfl rfl hg1 rfl ?_ | refine qae rfl rfl hg2 rfl ?_ | refine qab rfl rfl (qb0 ra2.k rb2.k c_key) ?_ | refine qab rfl rfl (beq_n ra2.t rb2.t c_to) ?_ | refine qai (v := .bool _) rfl rfl ?_))
   exact ⟨_, ResV.tmp rfl, rfl, hx, by rw [decide_eq_false fun e => c_to (congrArg AskM.to e)]; rfl, rfl⟩
 ·
  repeat (first | refine W.w ?_ | refine AL.skip rfl rfl ?_ | (refine zz rfl ?_; first | refine qag rfl ?_ | refine qaa rfl ?_ | refine qap rfl ?_ | refine qae rfl rfl hg1 rfl ?_ | refine qae rfl rfl hg2 rfl ?_ | refine qab rfl rfl (beq_n ra2.k rb2.k c_key) ?_ | refine qai (v := .bool _) rfl rfl ?_))
  exact ⟨_, ResV.tmp rfl, rfl, hx, by rw [decide_eq_false fun e => c_key (congrArg AskM.key e)]; rfl, rfl⟩
instance i_TyD_int64 : TyD Tryz.prog 2 (.int .i64) := ⟨Tryz.underlying2⟩
instance i_TyI_int64 : TyI Tryz.prog 2 1 8 (.int .i64 0) := ⟨qaK (by kernel_rfl), rfl, rfl⟩
instance i_TyD_api_CmdKind : TyD Tryz.prog 30 (.int .i64) := ⟨Tryz.underlying30⟩
instance i_TyI_api_CmdKind : TyI Tryz.prog 30 1 8 (.int .i64 0) := ⟨qaK (by kernel_rfl), rfl, rfl⟩
instance i_TyD_api_Kind : TyD Tryz.prog 169 (.int .i64) := ⟨Tryz.underlying169⟩
instance i_TyI_api_Kind : TyI Tryz.prog 169 1 8 (.int .i64 0) := ⟨qaK (by kernel_rfl), rfl, rfl⟩
instance i_TyD_api_ActKind : TyD Tryz.prog 25 (.int .i64) := ⟨Tryz.underlying25⟩
instance i_TyI_api_ActKind : TyI Tryz.prog 25 1 8 (.int .i64 0) := ⟨qaK (by kernel_rfl), rfl, rfl⟩
instance i_TyD_api_Errno : TyD Tryz.prog 48 (.int .i64) := ⟨Tryz.underlying48⟩
instance i_TyI_api_Errno : TyI Tryz.prog 48 1 8 (.int .i64 0) := ⟨qaK (by kernel_rfl), rfl, rfl⟩
instance i_TyD_api_Request : TyD Tryz.prog 32 (.struct #[fd "Client" 3 0 "" 0, fd "Number" 2 1 "" 8, fd "Ask" 29 2 "" 16]) := ⟨Tryz.underlying32⟩
instance i_TyI_api_Request : TyI Tryz.prog 32 9 136 (.agg #[.int .i64 0, .int .i64 0, .int .i64 0, .slice none 0 0, .slice none 0 0, .slice none 0 0, .slice none 0 0, .bool false, .int .i64 0]) := ⟨qaK (by kernel_rfl), rfl, rfl⟩
instance i_StD_api_Request : StD Tryz.prog 32 [(0, 1), (1, 1), (2, 7)] := ⟨_, Tryz.underlying32, by kernel_rfl⟩
instance qfU : FAd Tryz.prog 32 0 0 := FAd.mk' (ft := 3) Tryz.underlying32 rfl rfl rfl rfl
instance qf6 : FAd Tryz.prog 32 1 1 := FAd.mk' (ft := 2) Tryz.underlying32 rfl rfl rfl rfl
instance qgt : FAd Tryz.prog 32 2 2 := FAd.mk' (ft := 29) Tryz.underlying32 rfl rfl rfl rfl
instance i_TyD_api_Move : TyD Tryz.prog 34 (.struct #[fd "Number" 2 0 "" 0, fd "From" 27 1 "" 8, fd "To" 27 2 "" 32, fd "End" 4 3 "" 56, fd "Old" 3 4 "" 64, fd "New" 3 5 "" 72]) := ⟨Tryz.underlying34⟩
instance i_TyI_api_Move : TyI Tryz.prog 34 6 80 (.agg #[.int .i64 0, .slice none 0 0, .slice none 0 0, .bool false, .int .i64 0, .int .i64 0]) := ⟨qaK (by kernel_rfl), rfl, rfl⟩
instance qhS : FAd Tryz.prog 34 0 0 := FAd.mk' (ft := 2) Tryz.underlying34 rfl rfl rfl rfl
instance qia : FAd Tryz.prog 34 1 1 := FAd.mk' (ft := 27) Tryz.underlying34 rfl rfl rfl rfl
instance qhV : FAd Tryz.prog 34 2 2 := FAd.mk' (ft := 27) Tryz.underlying34 rfl rfl rfl rfl
instance qh7 : FAd Tryz.prog 34 3 3 := FAd.mk' (ft := 4) Tryz.underlying34 rfl rfl rfl rfl
instance qhY : FAd Tryz.prog 34 4 4 := FAd.mk' (ft := 3) Tryz.underlying34 rfl rfl rfl rfl
instance qh9 : FAd Tryz.prog 34 5 5 := FAd.mk' (ft := 3) Tryz.underlying34 rfl rfl rfl rfl
instance i_TyD_api_Entry : TyD Tryz.prog 171 (.struct #[fd "Key" 27 0 "" 0, fd "Seq" 2 1 "" 24, fd "Kind" 169 2 "" 32, fd "Value" 27 3 "" 40]) := ⟨Tryz.underlying171⟩
instance i_TyI_api_Entry : TyI Tryz.prog 171 4 64 (.agg #[.slice none 0 0, .int .i64 0, .int .i64 0, .slice none 0 0]) := ⟨qaK (by kernel_rfl), rfl, rfl⟩
instance qhE : FAd Tryz.prog 171 0 0 := FAd.mk' (ft := 27) Tryz.underlying171 rfl rfl rfl rfl
instance qha : FAd Tryz.prog 171 1 1 := FAd.mk' (ft := 2) Tryz.underlying171 rfl rfl rfl rfl
instance qht : FAd Tryz.prog 171 2 2 := FAd.mk' (ft := 169) Tryz.underlying171 rfl rfl rfl rfl
instance qhj : FAd Tryz.prog 171 3 3 := FAd.mk' (ft := 27) Tryz.underlying171 rfl rfl rfl rfl
instance qh5 : TyD Tryz.prog 35 (.slice 171) := ⟨Tryz.underlying35⟩
instance qhT : TyI Tryz.prog 35 1 24 (.slice none 0 0) := ⟨qaK (by kernel_rfl), rfl, rfl⟩
instance i_TyD_api_Command : TyD Tryz.prog 37 (.struct #[fd "Kind" 30 0 "" 0, fd "Request" 32 1 "" 8, fd "Move" 34 10 "" 144, fd "Entries" 35 16 "" 224, fd "Answers" 27 17 "" 248, fd "Key" 27 18 "" 272, fd "Group" 3 19 "" 296]) := ⟨Tryz.underlying37⟩
instance i_TyI_api_Command : TyI Tryz.prog 37 20 304 (.agg #[.int .i64 0, .int .i64 0, .int .i64 0, .int .i64 0, .slice none 0 0, .slice none 0 0, .slice none 0 0, .slice none 0 0, .bool false, .int .i64 0, .int .i64 0, .slice none 0 0, .slice none 0 0, .bool false, .int .i64 0, .int .i64 0, .slice none 0 0, .slice none 0 0, .slice none 0 0, .int .i64 0]) := ⟨qaK (by kernel_rfl), rfl, rfl⟩
instance i_StD_api_Command : StD Tryz.prog 37 [(0, 1), (1, 9), (10, 6), (16, 1), (17, 1), (18, 1), (19, 1)] := ⟨_, Tryz.underlying37, by kernel_rfl⟩
instance qgu : FAd Tryz.prog 37 0 0 := FAd.mk' (ft := 30) Tryz.underlying37 rfl rfl rfl rfl
instance qgx : FAd Tryz.prog 37 1 1 := FAd.mk' (ft := 32) Tryz.underlying37 rfl rfl rfl rfl
instance qfL : FAd Tryz.prog 37 2 10 := FAd.mk' (ft := 34) Tryz.underlying37 rfl rfl rfl rfl
instance qfI : FAd Tryz.prog 37 3 16 := FAd.mk' (ft := 35) Tryz.underlying37 rfl rfl rfl rfl
instance qfN : FAd Tryz.prog 37 4 17 := FAd.mk' (ft := 27) Tryz.underlying37 rfl rfl rfl rfl
instance qfM : FAd Tryz.prog 37 5 18 := FAd.mk' (ft := 27) Tryz.underlying37 rfl rfl rfl rfl
instance qfK : FAd Tryz.prog 37 6 19 := FAd.mk' (ft := 3) Tryz.underlying37 rfl rfl rfl rfl
instance i_TyD_api_Kept : TyD Tryz.prog 79 (.struct #[fd "Name" 9 0 "" 0, fd "Loose" 3 1 "" 16]) := ⟨Tryz.underlying79⟩
instance i_TyI_api_Kept : TyI Tryz.prog 79 2 24 (.agg #[.string ⟨#[]⟩, .int .i64 0]) := ⟨qaK (by kernel_rfl), rfl, rfl⟩
instance i_StD_api_Kept : StD Tryz.prog 79 [(0, 1), (1, 1)] := ⟨_, Tryz.underlying79, by kernel_rfl⟩
instance qh8 : FAd Tryz.prog 79 0 0 := FAd.mk' (ft := 9) Tryz.underlying79 rfl rfl rfl rfl
instance qip : FAd Tryz.prog 79 1 1 := FAd.mk' (ft := 3) Tryz.underlying79 rfl rfl rfl rfl
instance i_TyD_Sl_api_Kept : TyD Tryz.prog 38 (.slice 79) := ⟨Tryz.underlying38⟩
instance i_TyI_Sl_api_Kept : TyI Tryz.prog 38 1 24 (.slice none 0 0) := ⟨qaK (by kernel_rfl), rfl, rfl⟩
instance i_TyD_api_Act : TyD Tryz.prog 40 (.struct #[fd "Kind" 25 0 "" 0, fd "Node" 3 1 "" 8, fd "Group" 3 2 "" 16, fd "Client" 3 3 "" 24, fd "N" 3 4 "" 32, fd "Ask" 29 5 "" 40, fd "Command" 37 12 "" 160, fd "Keep" 38 32 "" 464]) := ⟨Tryz.underlying40⟩
instance i_TyI_api_Act : TyI Tryz.prog 40 33 488 (.agg #[.int .i64 0, .int .i64 0, .int .i64 0, .int .i64 0, .int .i64 0, .int .i64 0, .slice none 0 0, .slice none 0 0, .slice none 0 0, .slice none 0 0, .bool false, .int .i64 0, .int .i64 0, .int .i64 0, .int .i64 0, .int .i64 0, .slice none 0 0, .slice none 0 0, .slice none 0 0, .slice none 0 0, .bool false, .int .i64 0, .int .i64 0, .slice none 0 0, .slice none 0 0, .bool false, .int .i64 0, .int .i64 0, .slice none 0 0, .slice none 0 0, .slice none 0 0, .int .i64 0, .slice none 0 0]) := ⟨qaK (by kernel_rfl), rfl, rfl⟩
instance i_StD_api_Act : StD Tryz.prog 40 [(0, 1), (1, 1), (2, 1), (3, 1), (4, 1), (5, 7), (12, 20), (32, 1)] := ⟨_, Tryz.underlying40, by kernel_rfl⟩
instance i_FAd_api_Act_0_0 : FAd Tryz.prog 40 0 0 := FAd.mk' (ft := 25) Tryz.underlying40 rfl rfl rfl rfl
instance i_FAd_api_Act_1_1 : FAd Tryz.prog 40 1 1 := FAd.mk' (ft := 3) Tryz.underlying40 rfl rfl rfl rfl
instance i_FAd_api_Act_2_2 : FAd Tryz.prog 40 2 2 := FAd.mk' (ft := 3) Tryz.underlying40 rfl rfl rfl rfl
instance i_FAd_api_Act_3_3 : FAd Tryz.prog 40 3 3 := FAd.mk' (ft := 3) Tryz.underlying40 rfl rfl rfl rfl
instance i_FAd_api_Act_4_4 : FAd Tryz.prog 40 4 4 := FAd.mk' (ft := 3) Tryz.underlying40 rfl rfl rfl rfl
instance i_FAd_api_Act_5_5 : FAd Tryz.prog 40 5 5 := FAd.mk' (ft := 29) Tryz.underlying40 rfl rfl rfl rfl
instance qim : FAd Tryz.prog 40 6 12 := FAd.mk' (ft := 37) Tryz.underlying40 rfl rfl rfl rfl
instance qhQ : FAd Tryz.prog 40 7 32 := FAd.mk' (ft := 38) Tryz.underlying40 rfl rfl rfl rfl
instance i_TyD_Sl_api_Act : TyD Tryz.prog 42 (.slice 40) := ⟨Tryz.underlying42⟩
instance i_TyI_Sl_api_Act : TyI Tryz.prog 42 1 24 (.slice none 0 0) := ⟨qaK (by kernel_rfl), rfl, rfl⟩
structure MoveV where
 f : Value
 t : Value
structure CmdV where
 r : AskV
 m : MoveV
 e : Value
 n : Value
 k : Value
structure ActV where
 q : AskV
 c : CmdV
 k : Value
def moveC (q : MoveV) (m : MoveM) : List Value := [.int .i64 m.number, q.f, q.t, .bool m.end_, .int .i64 m.old, .int .i64 m.new]
def cmdC (q : CmdV) (c : CmdM) : List Value := [.int .i64 c.kind, .int .i64 c.req.client, .int .i64 c.req.number, .int .i64 c.req.ask.kind, q.r.k, q.r.t, q.r.v, q.r.w, .bool c.req.ask.none, .int .i64 c.req.ask.most,
 .int .i64 c.move.number, q.m.f, q.m.t, .bool c.move.end_, .int .i64 c.move.old, .int .i64 c.move.new, q.e, q.n, q.k, .int .i64 c.group]
def actC (q : ActV) (a : ActM) : List Value := [.int .i64 a.kind, .int .i64 a.node, .int .i64 a.group, .int .i64 a.client, .int .i64 a.n, .int .i64 a.ask.kind, q.q.k, q.q.t, q.q.v, q.q.w, .bool a.ask.none, .int .i64 a.ask.most,
 .int .i64 a.cmd.kind, .int .i64 a.cmd.req.client, .int .i64 a.cmd.req.number, .int .i64 a.cmd.req.ask.kind, q.c.r.k, q.c.r.t, q.c.r.v, q.c.r.w, .bool a.cmd.req.ask.none, .int .i64 a.cmd.req.ask.most,
 .int .i64 a.cmd.move.number, q.c.m.f, q.c.m.t, .bool a.cmd.move.end_, .int .i64 a.cmd.move.old, .int .i64 a.cmd.move.new, q.c.e, q.c.n, q.c.k, .int .i64 a.cmd.group, q.k]
structure MoveR (h : Heap) (q : MoveV) (m : MoveM) : Prop where
 f : RB h q.f m.from_
 t : RB h q.t m.to
def EntR (h : Heap) (row : List Value) (e : EntM) : Prop := ∃ kv vv, row = [kv, .int .i64 e.seq, .int .i64 e.kind, vv] ∧ RB h kv e.key ∧ RB h vv e.value
structure RE (h : Heap) (v : Value) (l : List EntM) : Prop where
 ex : ∃ rows, RN 4 h v rows ∧ rows.length = l.length ∧ ∀ (k : Nat) row e, rows[k]? = some row → l[k]? = some e → EntR h row e
 len : l.length ≤ 140737488351232
def keptR (x : Bytes × Int) : List Value := [str x.1, .int .i64 x.2]
structure RK (h : Heap) (v : Value) (l : List (Bytes × Int)) : Prop where
 rn : RN 2 h v (l.map keptR)
 len : l.length ≤ 140737488351232
structure CmdR (h : Heap) (q : CmdV) (c : CmdM) : Prop where
 r : AskR h q.r c.req.ask
 m : MoveR h q.m c.move
 e : RE h q.e c.entries
 n : RB h q.n c.answers
 k : RB h q.k c.key
structure ActR (h : Heap) (q : ActV) (a : ActM) : Prop where
 ra : AskR h q.q a.ask
 rc : CmdR h q.c a.cmd
 rk : RK h q.k a.keep
theorem MoveR.ext {h h' : Heap} {q : MoveV} {a : MoveM} (r : MoveR h q a) (hx : Ext h h') : MoveR h' q a := ⟨r.f.ext hx, r.t.ext hx⟩
theorem EntR.ext {h h' : Heap} {row : List Value} {e : EntM} (r : EntR h row e) (hx : Ext h h') : EntR h' row e := by
 obtain ⟨kv, vv, h1, h2, h3⟩ := r
 exact ⟨kv, vv, h1, h2.ext hx, h3.ext hx⟩
theorem RE.ext {h h' : Heap} {v : Value} {l : List EntM} (r : RE h v l) (hx : Ext h h') : RE h' v l := by
 obtain ⟨rows, h1, h2, h3⟩ := r.ex
 exact ⟨⟨rows, h1.ext hx, h2, fun k row e hr he => (h3 k row e hr he).ext hx⟩, r.len⟩
theorem RK.ext {h h' : Heap} {v : Value} {l : List (Bytes × Int)} (r : RK h v l) (hx : Ext h h') : RK h' v l := ⟨r.rn.ext hx, r.len⟩
theorem CmdR.ext {h h' : Heap} {q : CmdV} {a : CmdM} (r : CmdR h q a) (hx : Ext h h') : CmdR h' q a := ⟨r.r.ext hx, r.m.ext hx, r.e.ext hx, r.n.ext hx, r.k.ext hx⟩
theorem ActR.ext {h h' : Heap} {q : ActV} {a : ActM} (r : ActR h q a) (hx : Ext h h') : ActR h' q a := ⟨r.ra.ext hx, r.rc.ext hx, r.rk.ext hx⟩
theorem RE.nil (h : Heap) : RE h (.slice none 0 0) [] := ⟨⟨[], RN.nil _ _, rfl, fun k row e hr => by simp at hr⟩, Nat.zero_le _⟩
theorem RK.nil (h : Heap) : RK h (.slice none 0 0) [] := ⟨RN.nil _ _, Nat.zero_le _⟩
def askV0 : AskV := ⟨.slice none 0 0, .slice none 0 0, .slice none 0 0, .slice none 0 0⟩
def cmdV0 : CmdV := ⟨askV0, ⟨.slice none 0 0, .slice none 0 0⟩, .slice none 0 0, .slice none 0 0, .slice none 0 0⟩
def actV0 : ActV := ⟨askV0, cmdV0, .slice none 0 0⟩
theorem AskR.nil (h : Heap) : AskR h askV0 ask0 := ⟨RB.nil h, RB.nil h, RB.nil h, RB.nil h⟩
theorem CmdR.nil (h : Heap) : CmdR h cmdV0 cmd0 := ⟨AskR.nil h, ⟨RB.nil h, RB.nil h⟩, RE.nil h, RB.nil h, RB.nil h⟩
theorem ActR.nil (h : Heap) : ActR h actV0 act0 := ⟨AskR.nil h, CmdR.nil h, RK.nil h⟩
instance qfk : FnC Tryz.prog 145 := ⟨Tryz.f145, Tryz.func145, by kernel_rfl, by kernel_rfl⟩
instance qdx : FnC Tryz.prog 146 := ⟨Tryz.f146, Tryz.func146, by kernel_rfl, by kernel_rfl⟩
instance qdD : FnC Tryz.prog 111 := ⟨Tryz.f111, Tryz.func111, by kernel_rfl, by kernel_rfl⟩
theorem qhX {a b : MoveM} : a = b ↔ a.number = b.number ∧ a.from_ = b.from_ ∧ a.to = b.to ∧ a.end_ = b.end_ ∧ a.old = b.old ∧ a.new = b.new := by
 cases a; cases b; simp
theorem ent_ext {a b : EntM} : a = b ↔ a.key = b.key ∧ a.seq = b.seq ∧ a.kind = b.kind ∧ a.value = b.value := by
 cases a; cases b; simp
theorem cmd_ext {a b : CmdM} : a = b ↔ a.kind = b.kind ∧ a.req.client = b.req.client ∧ a.req.number = b.req.number ∧ a.req.ask = b.req.ask ∧ a.move = b.move ∧ a.entries = b.entries ∧ a.answers = b.answers ∧ a.key = b.key ∧ a.group = b.group := by
 obtain ⟨_, ⟨_, _, _⟩, _, _, _, _, _⟩ := a
 obtain ⟨_, ⟨_, _, _⟩, _, _, _, _, _⟩ := b
 simp [and_assoc]
theorem act_ext {a b : ActM} : a = b ↔ a.kind = b.kind ∧ a.node = b.node ∧ a.group = b.group ∧ a.client = b.client ∧ a.n = b.n ∧ a.ask = b.ask ∧ a.cmd = b.cmd ∧ a.keep = b.keep := by
 cases a; cases b; simp
theorem sameMove_c (p q : MoveV) (a b : MoveM) (h : Heap) (ra : MoveR h p a) (rb : MoveR h q b) : ACalls Tryz.prog 146 [.agg (moveC p a).toArray, .agg (moveC q b).toArray] h fun u h' => u = .bool (decide (a = b)) ∧ h' = h := by
 refine ACalls.wf fun wf => ACalls.reset ?_
 refine ACalls.body Tryz.func146 rfl rfl ?_
 repeat (first | refine W.w ?_ | refine zz rfl (qaa rfl ?_) | refine zz rfl (qaI rfl (by intro e; cases e) ?_))
 generalize hH : h.alloc _ = H1
 have hg0 : H1.get h.next = some ⟨moveC p a, 34, true⟩ := hH ▸ Heap.alloc_new _ _
 have hx1 : Ext h H1 := hH ▸ wf.ext _
 have wf1 : WF H1 := hH ▸ wf.alloc _
 skip
 generalize hH2 : H1.alloc _ = H
 have hg2 : H.get H1.next = some ⟨moveC q b, 34, true⟩ := hH2 ▸ Heap.alloc_new _ _
 have hx2 : Ext H1 H := hH2 ▸ wf1.ext _
 have hg1 : H.get h.next = some ⟨moveC p a, 34, true⟩ := hx2.c _ _ hg0
 have hx : Ext h H := hx1.trans hx2
 clear hH hH2
 obtain ⟨a1, a2⟩ := ra.ext hx
 obtain ⟨b1, b2⟩ := rb.ext hx
 repeat' (first | refine W.w ?_ | refine AL.skip rfl rfl ?_ | (refine zz rfl ?_; first | refine qag rfl ?_ | refine qaa rfl ?_ | refine qap rfl ?_ | refine qae rfl rfl hg1 rfl ?_ | refine qae rfl rfl hg2 rfl ?_ | refine qaM rfl rfl (qcq _ _ _ _ _ (by assumption) (by assumption)) (fun c => ?_) (fun c => ?_) | refine qe6 rfl rfl (fun c => ?_) (fun c => ?_) | refine qaU rfl rfl rfl (fun c => ?_) (fun c => ?_) | refine qai (v := .bool _) rfl rfl ?_))
 all_goals refine ⟨_, ResV.tmp rfl, rfl, hx, congrArg Value.bool ?_, rfl⟩
 all_goals grind [qhX]
def entC (kv vv : Value) (e : EntM) : List Value := [kv, .int .i64 e.seq, .int .i64 e.kind, vv]
theorem sameEnt_c (k1 v1 k2 v2 : Value) (a b : EntM) (h : Heap) (ra1 : RB h k1 a.key) (ra2 : RB h v1 a.value) (rb1 : RB h k2 b.key) (rb2 : RB h v2 b.value) : ACalls Tryz.prog 145 [.agg (entC k1 v1 a).toArray, .agg (entC k2 v2 b).toArray] h fun u h' => u = .bool (decide (a = b)) ∧ h' = h := by
 refine ACalls.wf fun wf => ACalls.reset ?_
 refine ACalls.body Tryz.func145 rfl rfl ?_
 repeat (first | refine W.w ?_ | refine zz rfl (qaa rfl ?_) | refine zz rfl (qaI rfl (by intro e; cases e) ?_))
 generalize hH : h.alloc _ = H1
 have hg0 : H1.get h.next = some ⟨entC k1 v1 a, 171, true⟩ := hH ▸ Heap.alloc_new _ _
 have hx1 : Ext h H1 := hH ▸ wf.ext _
 have wf1 : WF H1 := hH ▸ wf.alloc _
 skip
 generalize hH2 : H1.alloc _ = H
 have hg2 : H.get H1.next = some ⟨entC k2 v2 b, 171, true⟩ := hH2 ▸ Heap.alloc_new _ _
 have hx2 : Ext H1 H := hH2 ▸ wf1.ext _
 have hg1 : H.get h.next = some ⟨entC k1 v1 a, 171, true⟩ := hx2.c _ _ hg0
 have hx : Ext h H := hx1.trans hx2
 clear hH hH2
 have a1 := ra1.ext hx
 have a2 := ra2.ext hx
 have b1 := rb1.ext hx
 have b2 := rb2.ext hx
 repeat' (first | refine W.w ?_ | refine AL.skip rfl rfl ?_ | (refine zz rfl ?_; first | refine qag rfl ?_ | refine qaa rfl ?_ | refine qap rfl ?_ | refine qae rfl rfl hg1 rfl ?_ | refine qae rfl rfl hg2 rfl ?_ | refine qaM rfl rfl (qcq _ _ _ _ _ (by assumption) (by assumption)) (fun c => ?_) (fun c => ?_) | refine qaU rfl rfl rfl (fun c => ?_) (fun c => ?_) | refine qai (v := .bool _) rfl rfl ?_))
 all_goals refine ⟨_, ResV.tmp rfl, rfl, hx, congrArg Value.bool ?_, rfl⟩
 all_goals grind [ent_ext]
theorem qcL {α : Type} {a b : List α} {k : Nat} {x y : α} (h : a.take k = b.take k) (hx : a[k]? = some x) (hy : b[k]? = some y) : a.take (k + 1) = b.take (k + 1) ↔ x = y := by
 rw [List.take_add_one, List.take_add_one, h, hx, hy]
 simp
theorem eqEnt_c (u v : Value) (a b : List EntM) (h : Heap) (ra : RE h u a) (rb : RE h v b) : ACalls Tryz.prog 144 [u, v, .func (.func 145) #[] #[]] h fun x h' => x = .bool (decide (a = b)) ∧ h' = h := by
 refine ACalls.wf fun wf => ACalls.reset ?_
 refine ACalls.body Tryz.func144 rfl rfl ?_
 obtain ⟨ro, r1, r2, r3⟩ := ra.ex
 obtain ⟨so, s1, s2, s3⟩ := rb.ex
 obtain ⟨ua, uc, hu⟩ := r1.slice
 obtain ⟨va, vc, hv⟩ := s1.slice
 by_cases hl : a.length = b.length
 ·
  repeat (first | refine W.w ?_ | refine AWp.c9 rfl ?_ | (refine zz rfl ?_; first | refine qad rfl ?_ | refine qaa rfl ?_ | refine qau r1 rfl ?_ | refine qau s1 rfl ?_ | refine qak rfl rfl rfl (by omega) ?_ | refine qan (v := u) rfl ?_ | refine qan (v := v) rfl ?_))
  refine AWp.loop (α := Nat × Heap) (fun d => [(0, u), (1, v), (2, .func (.func 145) #[] #[]), (15, u), (16, .int .i64 (ro.length : Nat)), (17, .int .i64 (d.1 : Nat))]) (fun d => d.2) (fun d => d.1 ≤ a.length ∧ a.take d.1 = b.take d.1 ∧ Ext h d.2 ∧ WF d.2) (fun d => a.length - d.1) (0, h) ⟨Nat.zero_le _, rfl, Ext.refl h, wf⟩ (Weak.same (EW.cons rfl (EW.cons rfl (EW.cons rfl (EW.cons rfl (EW.cons rfl (EW.cons rfl EW.nil))))))) ?_
  rintro ⟨k, H⟩ ⟨hk, hp, hx, wfH⟩
  replace hk : k ≤ a.length := hk
  replace hp : a.take k = b.take k := hp
  replace hx : Ext h H := hx
  replace wfH : WF H := wfH
  show AWp _ _ _ _ [(0, u), (1, v), (2, .func (.func 145) #[] #[]), (15, u), (16, .int .i64 (ro.length : Nat)), (17, .int .i64 (k : Nat))] H
  have hlen := ra.len
  by_cases hlt : k < a.length
  ·
   obtain ⟨x, hxa⟩ : ∃ x, a[k]? = some x := ⟨_, List.getElem?_eq_getElem hlt⟩
   obtain ⟨y, hyb⟩ : ∃ y, b[k]? = some y := ⟨_, List.getElem?_eq_getElem (by omega)⟩
   obtain ⟨p, hpa⟩ : ∃ p, ro[k]? = some p := ⟨_, List.getElem?_eq_getElem (by omega)⟩
   obtain ⟨q, hqb⟩ : ∃ q, so[k]? = some q := ⟨_, List.getElem?_eq_getElem (by omega)⟩
   obtain ⟨k1, v1, rfl, a1, a2⟩ := r3 k p x hpa hxa
   obtain ⟨k2, v2, rfl, b1, b2⟩ := s3 k q y hqb hyb
   have hte := qcL hp hxa hyb
   have o1 := a1.one
   have o2 := a2.one
   have o3 := b1.one
   have o4 := b2.one
   repeat (first | refine W.w ?_ | refine AWp.c8 rfl ?_ | (refine zz rfl ?_; first | refine qad rfl ?_ | refine qaj rfl rfl rfl (by omega) ?_ | refine qcu (r1.ext hx) rfl rfl (by omega) (show ro[((k : Nat) : Int).toNat]? = some _ from hpa) ?_))
   intro pp hpp
   repeat (first | refine W.w ?_ | refine AL.eff rfl (qaC (vs := entC k1 v1 x) rfl rfl rfl rfl (by unfold entC; simp only [List.all_cons, o1.1, o2.1]; rfl) ?_) | (refine zz rfl ?_; first | refine qad rfl ?_ | refine qac rfl ?_ | refine qaJ hpp rfl rfl rfl ?_ | refine qat ?_ | refine qan (by conv => lhs; whnf) ?_))
   obtain ⟨H1, hQ, g1, x1, wf1, _⟩ := aq wfH ⟨entC k1 v1 x, 171, true⟩
   rw [hQ]
   repeat (first | refine zz rfl (qcu (s1.ext (hx.trans x1)) rfl rfl (by omega) (show so[((k : Nat) : Int).toNat]? = some _ from hqb) ?_))
   intro qq hqq
   repeat (first | refine W.w ?_ | refine AL.eff rfl (qaC (vs := entC k2 v2 y) rfl rfl rfl rfl (by unfold entC; simp only [List.all_cons, o3.1, o4.1]; rfl) ?_) | (refine zz rfl ?_; first | refine qaN rfl ?_ | refine qaJ hqq rfl rfl rfl ?_ | refine qat ?_))
   obtain ⟨H2, hQ, g2, x2, wf2, _⟩ := aq wf1 ⟨entC k2 v2 y, 171, true⟩
   rw [hQ]
   have hx2 := hx.trans (x1.trans x2)
   have ce := sameEnt_c k1 v1 k2 v2 x y H2 (a1.ext hx2) (a2.ext hx2) (b1.ext hx2) (b2.ext hx2)
   repeat' (first | refine W.w ?_ | refine AWp.c8 rfl ?_ | refine AWp.c9 rfl ?_ | (refine zz rfl ?_; first | refine qad rfl ?_ | refine qaa rfl ?_ | refine qaf (sz := 4) rfl rfl (x2.c _ _ g1) (Nat.le_refl _) ?_ | refine qaf (sz := 4) rfl rfl g2 (Nat.le_refl _) ?_ | refine qaM rfl rfl ce (fun c => ?_) (fun c => ?_) | refine qav rfl rfl (by omega) ?_ | refine qaD rfl ?_))
   ·
    exact ⟨(k + 1, H2), ⟨hlt, hte.2 (of_decide_eq_true c), hx2, wf2⟩, by show a.length - (k + 1) < a.length - k; omega, Weak.same (EW.cons rfl (EW.cons rfl (EW.cons rfl (EW.cons rfl (EW.cons rfl (EW.cons rfl EW.nil))))))⟩
   ·
    refine ⟨_, ResV.tmp rfl, rfl, hx2, congrArg Value.bool (decide_eq_false fun e => ?_).symm, rfl⟩
    exact of_decide_eq_false c (hte.1 (by rw [e]))
  ·
   obtain rfl : k = a.length := by omega
   rw [List.take_length, hl, List.take_length] at hp
   repeat (first | refine AL.nil ?_ | refine AWp.seq ?_ | refine AWp.r9 ?_ | refine AWp.c9 rfl ?_ | refine AWp.ret ?_ | refine AWp.exit ?_ | refine zz rfl (qaa rfl ?_) | refine zz rfl (qak rfl rfl rfl (by omega) ?_))
   exact ⟨_, ResV.tmp rfl, rfl, hx, congrArg Value.bool (decide_eq_true hp).symm, rfl⟩
 ·
  repeat (first | refine W.w ?_ | refine AWp.c8 rfl ?_ | (refine zz rfl ?_; first | refine qaa rfl ?_ | refine qau r1 rfl ?_ | refine qau s1 rfl ?_ | refine qaj rfl rfl rfl (by omega) ?_ | refine qan (by conv => lhs; whnf) ?_))
  refine ⟨_, ResV.tmp rfl, rfl, Ext.refl h, congrArg Value.bool (decide_eq_false fun e => hl (by rw [e])).symm, rfl⟩
instance qa5 : FnC Tryz.prog 144 := ⟨Tryz.f144, Tryz.func144, by kernel_rfl, by kernel_rfl⟩
instance qev : FnC Tryz.prog 112 := ⟨Tryz.f112, Tryz.func112, by kernel_rfl, by kernel_rfl⟩
instance qbS : FnC Tryz.prog 113 := ⟨Tryz.f113, Tryz.func113, by kernel_rfl, by kernel_rfl⟩
instance qdQ : FnC Tryz.prog 70 := ⟨Tryz.f70, Tryz.func70, by kernel_rfl, by kernel_rfl⟩
theorem qgd (p q : CmdV) (a b : CmdM) (h : Heap) (ra : CmdR h p a) (rb : CmdR h q b) : ACalls Tryz.prog 112 [.agg (cmdC p a).toArray, .agg (cmdC q b).toArray] h fun u h' => u = .bool (decide (a = b)) ∧ h' = h := by
 refine ACalls.wf fun wf => ACalls.reset ?_
 refine ACalls.body Tryz.func112 rfl rfl ?_
 repeat (first | refine W.w ?_ | refine zz rfl (qaa rfl ?_) | refine zz rfl (qaI rfl (by intro e; cases e) ?_))
 generalize hH : h.alloc _ = H1
 have hg0 : H1.get h.next = some ⟨cmdC p a, 37, true⟩ := hH ▸ Heap.alloc_new _ _
 have hx1 : Ext h H1 := hH ▸ wf.ext _
 have wf1 : WF H1 := hH ▸ wf.alloc _
 skip
 generalize hH2 : H1.alloc _ = H
 have hg2 : H.get H1.next = some ⟨cmdC q b, 37, true⟩ := hH2 ▸ Heap.alloc_new _ _
 have hx2 : Ext H1 H := hH2 ▸ wf1.ext _
 have hg1 : H.get h.next = some ⟨cmdC p a, 37, true⟩ := hx2.c _ _ hg0
 have hx : Ext h H := hx1.trans hx2
 clear hH hH2
 obtain ⟨a1, a2, a3, a4, a5⟩ := ra.ext hx
 obtain ⟨b1, b2, b3, b4, b5⟩ := rb.ext hx
 have cA := qgD p.r q.r a.req.ask b.req.ask H a1 b1
 have cM := sameMove_c p.m q.m a.move b.move H a2 b2
 have cE := eqEnt_c p.e q.e a.entries b.entries H a3 b3
 repeat' (first | refine W.w ?_ | refine AL.skip rfl rfl ?_ | (refine zz rfl ?_; first | refine qag rfl ?_ | refine qaa rfl ?_ | refine qap rfl ?_ | refine qae rfl rfl hg1 rfl ?_ | refine qae rfl rfl hg2 rfl ?_ | refine qaf (sz := 7) rfl rfl hg1 (Nat.le_of_ble_eq_true rfl) ?_ | refine qaf (sz := 7) rfl rfl hg2 (Nat.le_of_ble_eq_true rfl) ?_ | refine qaf (sz := 6) rfl rfl hg1 (Nat.le_of_ble_eq_true rfl) ?_ | refine qaf (sz := 6) rfl rfl hg2 (Nat.le_of_ble_eq_true rfl) ?_ | refine qaM rfl rfl cA (fun c => ?_) (fun c => ?_) | refine qaM rfl rfl cM (fun c => ?_) (fun c => ?_) | refine qaM rfl rfl cE (fun c => ?_) (fun c => ?_) | refine qaM rfl rfl (qcq _ _ _ _ _ (by assumption) (by assumption)) (fun c => ?_) (fun c => ?_) | refine qaU rfl rfl rfl (fun c => ?_) (fun c => ?_) | refine qai (v := .bool _) rfl rfl ?_))
 all_goals refine ⟨_, ResV.tmp rfl, rfl, hx, congrArg Value.bool ?_, rfl⟩
 all_goals clear a1 a2 a3 a4 a5 b1 b2 b3 b4 b5 cA cM cE hg0 hg1 hg2 hx1 hx2 hx wf wf1 ra rb
 all_goals grind [cmd_ext]
instance i_EqD_api_Kept : EqD Tryz.prog 79 [(0, .string), (1, .int .i64)] := ⟨_, Tryz.underlying79, by kernel_rfl, by kernel_rfl, by kernel_rfl⟩
theorem qgN (x y : Bytes × Int) : eqRows [(0, .string), (1, .int .i64)] (keptR x) (keptR y) = decide (x = y) := by
 show (eqV (.string (bstr x.1)) (.string (bstr y.1)) && (eqV (.int .i64 x.2) (.int .i64 y.2) && true)) = _
 rw [eqV_str]
 obtain ⟨a, b⟩ := x
 obtain ⟨c, d⟩ := y
 rw [Bool.eq_iff_iff]
 simp [eqV]
theorem eqKept_c (u v : Value) (a b : List (Bytes × Int)) (h : Heap) (ra : RK h u a) (rb : RK h v b) : ACalls Tryz.prog 113 [u, v] h fun x h' => x = .bool (decide (a = b)) ∧ h' = h := by
 refine ACalls.body Tryz.func113 rfl rfl ?_
 have r1 := ra.rn
 have s1 := rb.rn
 obtain ⟨ua, uc, hu⟩ := r1.slice
 obtain ⟨va, vc, hv⟩ := s1.slice
 have l1 : (a.map keptR).length = a.length := List.length_map _
 have l2 : (b.map keptR).length = b.length := List.length_map _
 have hlen := ra.len
 by_cases hl : a.length = b.length
 ·
  repeat (first | refine W.w ?_ | refine AWp.c9 rfl ?_ | (refine zz rfl ?_; first | refine qad rfl ?_ | refine qaa rfl ?_ | refine qau r1 rfl ?_ | refine qau s1 rfl ?_ | refine qak rfl rfl rfl (by omega) ?_ | refine qan (v := u) rfl ?_ | refine qan (v := v) rfl ?_))
  refine AWp.loop (α := Nat) (fun k => [(0, u), (1, v), (12, .int .i64 ((a.map keptR).length : Nat)), (13, .int .i64 (k : Nat))]) (fun _ => h) (fun k => k ≤ a.length ∧ a.take k = b.take k) (fun k => a.length - k) 0 ⟨Nat.zero_le _, rfl⟩ (Weak.same (EW.cons rfl (EW.cons rfl (EW.cons rfl (EW.cons rfl EW.nil))))) ?_
  rintro k ⟨hk, hp⟩
  by_cases hlt : k < a.length
  ·
   obtain ⟨x, hxa⟩ : ∃ x, a[k]? = some x := ⟨_, List.getElem?_eq_getElem hlt⟩
   obtain ⟨y, hyb⟩ : ∃ y, b[k]? = some y := ⟨_, List.getElem?_eq_getElem (by omega)⟩
   have hx2 : (a.map keptR)[((k : Nat) : Int).toNat]? = some (keptR x) := by simp [hxa]
   have hy2 : (b.map keptR)[((k : Nat) : Int).toNat]? = some (keptR y) := by simp [hyb]
   have px := r1.elt hx2
   have py := s1.elt hy2
   have hte := qcL hp hxa hyb
   have heq := qgN x y
   by_cases hxy : x = y
   ·
    rw [decide_eq_true hxy] at heq
    repeat (first | refine W.w ?_ | refine AWp.c8 rfl ?_ | (refine zz rfl ?_; first | refine qad rfl ?_ | refine qac rfl ?_ | refine qaj rfl rfl rfl (by omega) ?_))
    refine AWp.draw (σ := [(0, .R), (1, .R), (2, .R), (3, .R), (4, .R), (5, .R), (6, .R), (7, .R), (8, .R)]) mixed (by kernel_rfl) ?_
    repeat (first | refine DAL.r rfl rfl rfl (fun h' hx hn => qad rfl ⟨rfl, rfl⟩) ?_ | refine DAL.r rfl rfl rfl (fun h' hx hn => qan (v := u) rfl ⟨rfl, rfl⟩) ?_ | refine DAL.r rfl rfl rfl (fun h' hx hn => qan (v := v) rfl ⟨rfl, rfl⟩) ?_ | refine DAL.r rfl rfl rfl (fun h' hx hn => qaF (r1.ext hx) rfl rfl (by omega) hx2 ⟨rfl, rfl⟩) ?_ | refine DAL.r rfl rfl rfl (fun h' hx hn => qaF (s1.ext hx) rfl rfl (by omega) hy2 ⟨rfl, rfl⟩) ?_ | refine DAL.r rfl rfl rfl (fun h' hx hn => qaJ (px.ext hx) rfl rfl rfl ⟨rfl, rfl⟩) ?_ | refine DAL.r rfl rfl rfl (fun h' hx hn => qaJ (py.ext hx) rfl rfl rfl ⟨rfl, rfl⟩) ?_ | refine DAL.r rfl rfl rfl (fun h' hx hn => qdH (xs := keptR x) (ys := keptR y) rfl rfl rfl heq ⟨rfl, rfl⟩) ?_)
    refine DAL.nil ?_
    repeat (first | refine W.w ?_ | refine AWp.c9 rfl ?_ | refine zz rfl (qad rfl ?_) | refine zz rfl (qav rfl rfl (by omega) ?_))
    exact ⟨k + 1, ⟨hlt, hte.2 hxy⟩, by omega, Weak.same (EW.cons rfl (EW.cons rfl (EW.cons rfl (EW.cons rfl EW.nil))))⟩
   ·
    rw [decide_eq_false hxy] at heq
    repeat (first | refine W.w ?_ | refine AWp.c8 rfl ?_ | (refine zz rfl ?_; first | refine qad rfl ?_ | refine qac rfl ?_ | refine qaj rfl rfl rfl (by omega) ?_))
    refine AWp.draw (σ := [(0, .R), (1, .R), (2, .R), (3, .R), (4, .R), (5, .R), (6, .R), (7, .R), (8, .R)]) mixed (by kernel_rfl) ?_
    repeat (first | refine DAL.r rfl rfl rfl (fun h' hx hn => qad rfl ⟨rfl, rfl⟩) ?_ | refine DAL.r rfl rfl rfl (fun h' hx hn => qan (v := u) rfl ⟨rfl, rfl⟩) ?_ | refine DAL.r rfl rfl rfl (fun h' hx hn => qan (v := v) rfl ⟨rfl, rfl⟩) ?_ | refine DAL.r rfl rfl rfl (fun h' hx hn => qaF (r1.ext hx) rfl rfl (by omega) hx2 ⟨rfl, rfl⟩) ?_ | refine DAL.r rfl rfl rfl (fun h' hx hn => qaF (s1.ext hx) rfl rfl (by omega) hy2 ⟨rfl, rfl⟩) ?_ | refine DAL.r rfl rfl rfl (fun h' hx hn => qaJ (px.ext hx) rfl rfl rfl ⟨rfl, rfl⟩) ?_ | refine DAL.r rfl rfl rfl (fun h' hx hn => qaJ (py.ext hx) rfl rfl rfl ⟨rfl, rfl⟩) ?_ | refine DAL.r rfl rfl rfl (fun h' hx hn => qdH (xs := keptR x) (ys := keptR y) rfl rfl rfl heq ⟨rfl, rfl⟩) ?_)
    refine DAL.nil ?_
    repeat (first | refine W.w ?_ | refine AWp.c8 rfl ?_ | refine zz rfl (qaa rfl ?_))
    refine ⟨_, ResV.tmp rfl, congrArg Value.bool (decide_eq_false fun e => hxy (hte.1 (by rw [e]))).symm, rfl⟩
  ·
   obtain rfl : k = a.length := by omega
   rw [List.take_length, hl, List.take_length] at hp
   repeat (first | refine AL.nil ?_ | refine AWp.seq ?_ | refine AWp.r9 ?_ | refine AWp.c9 rfl ?_ | refine AWp.ret ?_ | refine AWp.exit ?_ | refine zz rfl (qaa rfl ?_) | refine zz rfl (qak rfl rfl rfl (by omega) ?_))
   exact ⟨_, ResV.tmp rfl, congrArg Value.bool (decide_eq_true hp).symm, rfl⟩
 ·
  repeat (first | refine W.w ?_ | refine AWp.c8 rfl ?_ | (refine zz rfl ?_; first | refine qaa rfl ?_ | refine qau r1 rfl ?_ | refine qau s1 rfl ?_ | refine qaj rfl rfl rfl (by omega) ?_ | refine qan (by conv => lhs; whnf) ?_))
  exact ⟨_, ResV.tmp rfl, congrArg Value.bool (decide_eq_false fun e => hl (by rw [e])).symm, rfl⟩
theorem qgs (p q : ActV) (a b : ActM) (h : Heap) (ra : ActR h p a) (rb : ActR h q b) : ACalls Tryz.prog 70 [.agg (actC p a).toArray, .agg (actC q b).toArray] h fun u h' => u = .bool (decide (a = b)) ∧ h' = h := by
 refine ACalls.wf fun wf => ACalls.reset ?_
 refine ACalls.body Tryz.func70 rfl rfl ?_
 repeat (first | refine W.w ?_ | refine zz rfl (qaa rfl ?_) | refine zz rfl (qaI rfl (by intro e; cases e) ?_))
 generalize hH : h.alloc _ = H1
 have hg0 : H1.get h.next = some ⟨actC p a, 40, true⟩ := hH ▸ Heap.alloc_new _ _
 have hx1 : Ext h H1 := hH ▸ wf.ext _
 have wf1 : WF H1 := hH ▸ wf.alloc _
 skip
 generalize hH2 : H1.alloc _ = H
 have hg2 : H.get H1.next = some ⟨actC q b, 40, true⟩ := hH2 ▸ Heap.alloc_new _ _
 have hx2 : Ext H1 H := hH2 ▸ wf1.ext _
 have hg1 : H.get h.next = some ⟨actC p a, 40, true⟩ := hx2.c _ _ hg0
 have hx : Ext h H := hx1.trans hx2
 clear hH hH2
 obtain ⟨a1, a2, a3⟩ := ra.ext hx
 obtain ⟨b1, b2, b3⟩ := rb.ext hx
 have cA := qgD p.q q.q a.ask b.ask H a1 b1
 have cM := qgd p.c q.c a.cmd b.cmd H a2 b2
 have cE := eqKept_c p.k q.k a.keep b.keep H a3 b3
 repeat' (first | refine W.w ?_ | refine AL.skip rfl rfl ?_ | (refine zz rfl ?_; first | refine qag rfl ?_ | refine qaa rfl ?_ | refine qap rfl ?_ | refine qae rfl rfl hg1 rfl ?_ | refine qae rfl rfl hg2 rfl ?_ | refine qaf (sz := 7) rfl rfl hg1 (Nat.le_of_ble_eq_true rfl) ?_ | refine qaf (sz := 7) rfl rfl hg2 (Nat.le_of_ble_eq_true rfl) ?_ | refine qaf (sz := 20) rfl rfl hg1 (Nat.le_of_ble_eq_true rfl) ?_ | refine qaf (sz := 20) rfl rfl hg2 (Nat.le_of_ble_eq_true rfl) ?_ | refine qaM rfl rfl cA (fun c => ?_) (fun c => ?_) | refine qaM rfl rfl cM (fun c => ?_) (fun c => ?_) | refine qaM rfl rfl cE (fun c => ?_) (fun c => ?_) | refine qaU rfl rfl rfl (fun c => ?_) (fun c => ?_) | refine qai (v := .bool _) rfl rfl ?_))
 all_goals refine ⟨_, ResV.tmp rfl, rfl, hx, congrArg Value.bool ?_, rfl⟩
 all_goals clear a1 a2 a3 b1 b2 b3 cA cM cE hg0 hg1 hg2 hx1 hx2 hx wf wf1 ra rb
 all_goals grind [act_ext]
end Go.Proofs.YtigmojilaadbhaaGreatDoor
/- . -/
namespace Go.Eng
open Go
section
variable {P : Program} {ρ : Operand → Value} {h : Heap} {K : Value → Heap → Prop} {dst : Option Tmp} {ty : TypeId} {pos : String} {aft : Array Edge} {g : Option (Nat × Bool)}
theorem qc5 {w : World} {b : Nat} : ∀ (l : List UInt8) (o : Nat) (acc : ByteArray), (∀ (j : Nat) x, l[j]? = some x → w.cell? ⟨b, o + j, none⟩ = some (.int .u8 (x.toNat : Int))) →
  ∃ r, (Extern.Bytes.loadBytes ⟨b, o, none⟩ l.length acc).run P w = .ok r w ∧ r.data.toList = acc.data.toList ++ l
 | [], o, acc, _ => ⟨acc, rfl, by simp⟩
 | x :: l, o, acc, hc => by
  have h0 := hc 0 x rfl
  obtain ⟨r, h1, h2⟩ := qc5 l (o + 1) (acc.push x) fun j y hj => by
   have := hc (j + 1) y hj
   rw [show o + 1 + j = o + (j + 1) by omega]
   exact this
  refine ⟨r, ?_, by rw [h2]; simp [ByteArray.push]⟩
  simp only [List.length_cons, Extern.Bytes.loadBytes, Sem.run_bind]
  rw [Nat.add_zero] at h0
  rw [show (load ⟨b, o, none⟩).run P w = .ok (.int .u8 (x.toNat : Int)) w from by
   rw [run_load, h0]]
  simp only [Result.andThen_ok]
  simpa [Addr.add] using h1
theorem qek {φ : Ren} {w : World} (s : Sim P φ h w) {v c : Value} {l : List UInt8} (r : RB h v l) (rv : VRel φ h.next v c) : ∃ x, (Extern.Bytes.bytesOf c).run P w = .ok x w ∧ x.data.toList = l := by
 obtain ⟨a, cap, rfl, h1, h2, h3⟩ := RS.conc r (List.all_eq_true.2 fun x hx => by obtain ⟨b, _, rfl⟩ := List.mem_map.1 hx; rfl) s rv
 rw [qaH]
 rcases h3 with h3 | ⟨b, o, rfl, _, h3⟩
 ·
  have : l = [] := List.map_eq_nil_iff.1 h3
  subst this
  cases a with
  | none => exact ⟨.empty, rfl, rfl⟩
  | some a => exact ⟨.empty, rfl, rfl⟩
 ·
  obtain ⟨x, q1, q2⟩ := qc5 (P := P) (w := w) (b := b) l o .empty fun j y hj => h3 j _ (qgz l j y hj)
  exact ⟨x, q1, by rw [q2]; rfl⟩
theorem qg5 {f : FuncId} {fo x y : Operand} {aT : Array TypeId} {u v : Value} {a b : List UInt8} [xt : XtC P f Extern.BytealgCompare.compare] (hf : ρ fo = .func (.func f) #[] #[]) (ra : RB h u a) (rb : RB h v b) (hx : ρ x = u) (hy : ρ y = v)
  (kk : K (.int .i64 (Extern.BytealgCompare.cmp (bstr a) (bstr b))) h) : AOp P ⟨dst, .call ⟨.value fo, #[x, y], aT⟩, ty, pos, aft, g⟩ ρ h K :=
 .of_pure kk fun φ ac w r => by
  obtain ⟨f1, d1, e0, s1, s2, _, _⟩ := (hf ▸ r.ev fo (by simp [Op.operands, Call.operands])).func_inv
  obtain rfl : f1 = #[] := by apply Array.eq_empty_of_size_eq_zero; rw [← s1]; rfl
  obtain rfl : d1 = #[] := by apply Array.eq_empty_of_size_eq_zero; rw [← s2]; rfl
  have e1 := hx ▸ r.ev x (by simp [Op.operands, Call.operands])
  have e2 := hy ▸ r.ev y (by simp [Op.operands, Call.operands])
  obtain ⟨p, p1, p2⟩ := qek r.sim ra e1
  obtain ⟨q, z1, z2⟩ := qek r.sim rb e2
  obtain ⟨fn, q1, q2, q3, q4, q5⟩ := xt.ex
  have hp : p = bstr a := by cases p with | mk d => simp only [bstr] at p2 ⊢; congr 1; apply Array.ext'; simpa using p2
  have hq : q = bstr b := by cases q with | mk d => simp only [bstr] at z2 ⊢; congr 1; apply Array.ext'; simpa using z2
  subst hp hq
  refine ⟨.int .i64 (Extern.BytealgCompare.cmp (bstr a) (bstr b)), ?_, .int _ _⟩
  have := run_callFunc_extern (P := P) q1 q2 q3 q4 q5 #[ac.eval x, ac.eval y] w
  have hcmp : (Extern.BytealgCompare.compare #[ac.eval x, ac.eval y]).run P w = .ok (.int .i64 (Extern.BytealgCompare.cmp (bstr a) (bstr b))) w := by
   change Sem.run P (do pure (goInt (Extern.BytealgCompare.cmp (← Extern.Bytes.bytesOf (ac.eval x)) (← Extern.Bytes.bytesOf (ac.eval y))))) w = _
   simp only [Sem.run_bind, p1, z1, Result.andThen_ok, Sem.run_pure]
   rfl
  rw [hcmp] at this
  simp [execOp, resolve, e0, Deferred.ofValue, invoke, this]
end
end Go.Eng
