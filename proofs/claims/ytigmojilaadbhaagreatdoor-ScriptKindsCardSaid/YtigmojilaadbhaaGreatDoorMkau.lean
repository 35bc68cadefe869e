/-
  Texts of one claim, merged: 7 parts.
-/
import Derived.Test.YtigmojilaadbhaaGreatDoorMkat
/-
  Scripts: groups' lines, a setup's lines.
-/
namespace Go.Proofs.YtigmojilaadbhaaGreatDoor
open Go Go.Eng Go.Pln Go.Lib
attribute [local irreducible] AWp AL DAL AOp TAL

instance i_group : FnC Tryz.prog 71 := ⟨Tryz.f71, Tryz.func71, by kernel_rfl, by kernel_rfl⟩
theorem groupL_len {l : List Int} (hi : ∀ n ∈ l, I64 n) (hl : l.length ≤ 1000) : (groupL l).length ≤ 2000000 := by
  have := joinW_len 30 (wGroup :: l.map itoa) (by
    intro w hw
    rcases List.mem_cons.1 hw with rfl | hw
    · decide
    · obtain ⟨n, hn, rfl⟩ := List.mem_map.1 hw
      have := itoa_len (hi n hn).1 (hi n hn).2
      omega)
  simp only [List.length_cons, List.length_map] at this
  have h2 := Nat.mul_le_mul_right (30 + 1) (show l.length + 1 ≤ 1001 by omega)
  unfold groupL
  omega
set_option maxHeartbeats 2000000 in
theorem group_c (v : Value) (l : List Int) (h : Heap) (t : Tabs h) (r : RS h v (iv64 l)) (hi : ∀ n ∈ l, I64 n) (hl : l.length ≤ 1000) : ACalls Tryz.prog 71 [v] h fun u h' => u = str (groupL l) ∧ h' = h := by
  refine ACalls.wf fun wf => ACalls.reset ?_
  refine ACalls.body Tryz.func71 rfl rfl ?_
  obtain ⟨va, vc, hv⟩ := RS.slice r
  have hml : (iv64 l).length = l.length := List.length_map _
  repeat (first | refine AL.nil ?_ | refine AWp.seq ?_ | refine AWp.region ?_ | refine AWp.block ?_ | refine AL.set rfl rfl (op_moveI rfl ?_) | refine AL.set rfl rfl (op_assignStr rfl ?_) | refine AL.set rfl rfl (op_move (v := v) rfl ?_) | refine AL.set rfl rfl (op_lenR r rfl ?_))
  refine AWp.loop (α := Nat × Heap) (fun d => [(3, str (groupL (l.take d.1))), (6, v), (7, .int .i64 ((iv64 l).length : Nat)), (8, .int .i64 (d.1 : Nat))]) (fun d => d.2) (fun d => d.1 ≤ l.length ∧ Ext h d.2 ∧ WF d.2) (fun d => l.length - d.1) (0, h) ⟨Nat.zero_le _, Ext.refl h, wf⟩
    (Weak.same (EW.cons rfl (EW.cons rfl (EW.cons rfl (EW.cons rfl EW.nil))))) ?_
  rintro ⟨k, H⟩ ⟨hk, hx, wfH⟩
  replace hk : k ≤ l.length := hk
  replace hx : Ext h H := hx
  replace wfH : WF H := wfH
  show AWp _ _ _ _ [(3, str (groupL (l.take k))), (6, v), (7, .int .i64 ((iv64 l).length : Nat)), (8, .int .i64 (k : Nat))] H
  by_cases hlt : k < l.length
  · obtain ⟨n, hn⟩ : ∃ n, l[k]? = some n := ⟨_, List.getElem?_eq_getElem hlt⟩
    have hx2 : (iv64 l)[((k : Nat) : Int).toNat]? = some (.int .i64 n) := by
      show (l.map _)[k]? = _
      rw [List.getElem?_map, hn]
      rfl
    have hI := hi n (List.mem_of_getElem? hn)
    have hg := groupL_len (l := l.take k) (fun m hm => hi m (List.mem_of_mem_take hm)) (by rw [List.length_take]; omega)
    have ct := textL_c [.txt (groupL (l.take k)), .num n] H 2 rfl wfH (t.ext hx) ⟨⟨trivial, hg⟩, ⟨hI, trivial⟩, trivial⟩ (by show 2 ≤ 1000; omega)
    repeat (first | refine AL.nil ?_ | refine AWp.seq ?_ | refine AWp.region ?_ | refine AWp.condT rfl ?_ | refine AWp.block ?_ | refine AWp.skip ?_ | refine AL.set rfl rfl (op_intT rfl rfl rfl (by omega) ?_) | refine AL.set rfl rfl (op_indexR (r.ext hx) rfl rfl (by omega) hx2 ?_))
    intro p hp
    repeat (first | refine AL.nil ?_ | refine AWp.region ?_ | refine AL.set rfl rfl (op_moveI rfl ?_) | refine AL.set rfl rfl (op_moveStr rfl ?_) | refine AL.set rfl rfl (op_assignI rfl ?_) | refine AL.set rfl rfl (op_assignStr rfl ?_) | refine AL.set rfl rfl (op_loadR hp rfl rfl ?_) | refine AL.set rfl rfl (op_mkIf rfl rfl ?_) | refine AL.set rfl rfl (op_row (([.txt (groupL (l.take k)), .num n] : List WArg).map argV) rfl rfl rfl rfl (argV_ones _) ?_) | refine AL.set rfl rfl (op_callS rfl rfl ct ?_) | refine AL.set rfl rfl (op_add64 rfl rfl (by omega) ?_))
    refine ⟨(k + 1, H.alloc (rowA [.txt (groupL (l.take k)), .num n])), ⟨hlt, hx.trans (wfH.ext _), wfH.alloc _⟩, by show l.length - (k + 1) < l.length - k; omega, Weak.same (EW.cons ?_ (EW.cons rfl (EW.cons rfl (EW.cons rfl EW.nil))))⟩
    show str (joinW [groupL (l.take k), itoa n]) = str (groupL (l.take (k + 1)))
    unfold groupL
    rw [map_take_succ hn, joinW_more (by simp)]
    rfl
  · obtain rfl : k = l.length := by omega
    rw [List.take_length]
    repeat (first | refine AL.nil ?_ | refine AWp.seq ?_ | refine AWp.region ?_ | refine AWp.condF rfl ?_ | refine AWp.ret ?_ | refine AWp.exit ?_ | refine AL.set rfl rfl (op_moveStr rfl ?_) | refine AL.set rfl rfl (op_assignStr rfl ?_) | refine AL.set rfl rfl (op_intF rfl rfl rfl (by omega) ?_))
    exact ⟨_, ResV.tmp rfl, rfl, hx, rfl, rfl⟩
def headV (x : SetM) : Value := if maySet x then .tuple #[str (catN (headsM x)), .int .i64 0] else .tuple #[str [], .int .i64 2]
end Go.Proofs.YtigmojilaadbhaaGreatDoor

/-
  Scripts: a group's line, read.
-/
namespace Go.Proofs.YtigmojilaadbhaaGreatDoor
open Go Go.Eng Go.Pln Go.Lib
attribute [local irreducible] AWp AL DAL AOp TAL

instance i_members : FnC Tryz.prog 108 := ⟨Tryz.f108, Tryz.func108, by kernel_rfl, by kernel_rfl⟩
theorem numP_I64 (w : Bytes) : I64 (numP w) := by
  unfold numP
  split
  · rename_i n hn
    have := atoi_range hn
    split
    · exact this
    · exact ⟨by omega, by omega⟩
  · exact ⟨by omega, by omega⟩
theorem iv64_app (l : List Int) (n : Int) : iv64 l ++ [Value.int .i64 n] = iv64 (l ++ [n]) := by simp
structure MbI (H1 : Heap) (rd : Nat) (s rest : Bytes) (acc : List Int) (H : Heap) (u : Value) : Prop where
  r : Rdr H1 rd rest H
  eq : membersV 4 s = acc ++ membersV (4 - acc.length) rest
  le : acc.length ≤ 4
  os : OS H1.next H 3 u (iv64 acc)
  num : ∀ n ∈ acc, I64 n
  len : rest.length ≤ s.length
set_option maxHeartbeats 4000000 in
theorem members_c (s : Bytes) (h : Heap) (t : Tabs h) (h8 : 8 ≤ h.next) (hl : s.length ≤ 1000000000) : ACalls Tryz.prog 108 [str s] h fun u h' => ∃ v, u = .tuple #[v, .bool (membersP s).2] ∧ OS h.next h' 3 v (iv64 (membersP s).1) ∧ Ext h h' := by
  refine ACalls.wf fun wf => ?_
  refine ACalls.body Tryz.func108 rfl rfl ?_
  repeat (first | refine AL.nil ?_ | refine AWp.seq ?_ | refine AWp.region ?_ | refine AL.set rfl rfl (op_moveStr rfl ?_) | refine AL.set rfl rfl (op_assignS rfl ?_) | refine AL.set rfl rfl (op_assignB rfl ?_) | refine AL.set rfl rfl (op_buildS (out := [str s]) rfl rfl ?_))
  refine AL.set rfl rfl (op_box (v := .agg #[str s]) rfl (by intro e; cases e) ?_)
  refine AL.heap (h := h.alloc (rdB s)) rfl ?_
  generalize hH : h.alloc (rdB s) = H1
  have gr : H1.get h.next = some (rdB s) := hH ▸ Heap.alloc_new _ _
  have x1 : Ext h H1 := hH ▸ wf.ext _
  have w1 : WF H1 := hH ▸ wf.alloc _
  have n1 : h.next < H1.next := w1.lt gr
  clear hH
  have r1 : Rdr H1 h.next s H1 := ⟨by rw [set_same gr]; exact Ext.refl H1, w1, w1, n1, h8, Nat.le_refl _, t.ext x1⟩
  have xb : ∀ b, Ext h (H1.set h.next b) := fun b => wf.ext_set x1 (Nat.le_refl _) b
  generalize h.next = rd at gr n1 h8 r1 xb ⊢
  repeat (first | refine AL.nil ?_ | refine AWp.seq ?_ | refine AWp.region ?_ | refine AL.set rfl rfl (op_moveP rfl ?_) | refine AL.set rfl rfl (op_assignP rfl ?_))
  refine AL.set rfl rfl (op_call (evs := [ptr rd]) rfl rfl ((rdNext_c r1 hl).mono ?_))
  rintro _ H2 ⟨rfl, hH2⟩
  have r2 : Rdr H1 rd (cutS s).2 H2 := hH2 ▸ r1.set _
  clear hH2
  have hcl := (cutS_len s).2
  have hmp : membersP s = (membersV 4 (cutS s).2, decide (groupL (membersV 4 (cutS s).2) = s)) := rfl
  rw [hmp]
  generalize (cutS s).2 = s1 at r2 hcl ⊢
  repeat (first | refine AL.nil ?_ | refine AWp.seq ?_ | refine AWp.region ?_ | refine AWp.block ?_ | refine AL.set rfl rfl (op_assignS rfl ?_))
  refine AWp.loop (α := Bytes × List Int × Heap × Value) (fun d => [(0, str s), (4, ptr rd), (5, d.2.2.2)]) (fun d => d.2.2.1) (fun d => MbI H1 rd s1 d.1 d.2.1 d.2.2.1 d.2.2.2) (fun d => d.1.length) (s1, [], H2, .slice none 0 0) ⟨r2, rfl, Nat.zero_le _, OS.nil _ _ _, (fun n hn => by cases hn), Nat.le_refl _⟩
    (Weak.same (EW.cons rfl (EW.cons rfl (EW.cons rfl EW.nil)))) ?_
  rintro ⟨rest, acc, H, u⟩ k
  replace k : MbI H1 rd s1 rest acc H u := k
  show AWp _ _ _ _ [(0, str s), (4, ptr rd), (5, u)] H
  obtain ⟨kr, ke, kl, ko, kn, kq⟩ := k
  have hb := kr.box
  obtain ⟨ua, uc, hu⟩ := RS.slice ko.rs
  have hml : (iv64 acc).length = acc.length := List.length_map _
  have xH : Ext h H := (xb _).trans kr.ext
  have cg := group_c u acc H kr.tabs ko.rs kn (by omega)
  have fin : membersV 4 s1 = acc → ∀ b, b = decide (groupL acc = s) → ∃ v, Value.tuple #[u, .bool b] = .tuple #[v, .bool (decide (groupL (membersV 4 s1) = s))] ∧ OS rd H 3 v (iv64 (membersV 4 s1)) ∧ Ext h H := fun e b hb => by
    rw [e, hb]
    exact ⟨u, rfl, OS.low ko (Nat.le_of_lt n1), xH⟩
  by_cases h1 : rest = []
  · have e0 : membersV 4 s1 = acc := by
      rw [ke, h1]
      cases 4 - acc.length <;> simp [membersV]
    by_cases hg : groupL acc = s
    · repeat (first | refine AL.nil ?_ | refine AL.skip rfl rfl ?_ | refine AWp.seq ?_ | refine AWp.region ?_ | refine AWp.condF rfl ?_ | refine AWp.ret ?_ | refine AWp.exit ?_ | refine AL.set rfl rfl (op_moveB rfl ?_) | refine AL.set rfl rfl (op_moveP rfl ?_) | refine AL.set rfl rfl (op_moveStr rfl ?_) | refine AL.set rfl rfl (op_assignB rfl ?_) | refine AL.set rfl rfl (op_nilCheck rfl ?_) | refine AL.set rfl rfl (op_fa rfl ?_) | refine AL.set rfl rfl (op_load rfl rfl hb rfl ?_) | refine AL.set rfl rfl (op_sNeF (a := rest) (b := []) rfl rfl h1 ?_) | refine AL.set rfl rfl (op_pick (v := .bool _) rfl rfl ?_) | refine AL.set rfl rfl (op_move (v := u) rfl ?_) | refine AL.set rfl rfl (op_assign (v := u) rfl ?_) | refine AL.set rfl rfl (op_callS rfl rfl cg ?_) | refine AL.set rfl rfl (op_sEqT rfl rfl hg ?_))
      exact ⟨_, ResV.tmp2 rfl, fin e0 _ (decide_eq_true hg).symm⟩
    · repeat (first | refine AL.nil ?_ | refine AL.skip rfl rfl ?_ | refine AWp.seq ?_ | refine AWp.region ?_ | refine AWp.condF rfl ?_ | refine AWp.ret ?_ | refine AWp.exit ?_ | refine AL.set rfl rfl (op_moveB rfl ?_) | refine AL.set rfl rfl (op_moveP rfl ?_) | refine AL.set rfl rfl (op_moveStr rfl ?_) | refine AL.set rfl rfl (op_assignB rfl ?_) | refine AL.set rfl rfl (op_nilCheck rfl ?_) | refine AL.set rfl rfl (op_fa rfl ?_) | refine AL.set rfl rfl (op_load rfl rfl hb rfl ?_) | refine AL.set rfl rfl (op_sNeF (a := rest) (b := []) rfl rfl h1 ?_) | refine AL.set rfl rfl (op_pick (v := .bool _) rfl rfl ?_) | refine AL.set rfl rfl (op_move (v := u) rfl ?_) | refine AL.set rfl rfl (op_assign (v := u) rfl ?_) | refine AL.set rfl rfl (op_callS rfl rfl cg ?_) | refine AL.set rfl rfl (op_sEqF rfl rfl hg ?_))
      exact ⟨_, ResV.tmp2 rfl, fin e0 _ (decide_eq_false hg).symm⟩
  · by_cases h2 : acc.length ≤ 3
    · repeat (first | refine AL.nil ?_ | refine AWp.seq ?_ | refine AWp.region ?_ | refine AWp.condT rfl ?_ | refine AWp.block ?_ | refine AWp.skip ?_ | refine AL.set rfl rfl (op_moveB rfl ?_) | refine AL.set rfl rfl (op_moveP rfl ?_) | refine AL.set rfl rfl (op_nilCheck rfl ?_) | refine AL.set rfl rfl (op_fa rfl ?_) | refine AL.set rfl rfl (op_load rfl rfl hb rfl ?_) | refine AL.set rfl rfl (op_sNeT (a := rest) (b := []) rfl rfl h1 ?_) | refine AL.set rfl rfl (op_pick (v := .bool _) rfl rfl ?_) | refine AL.set rfl rfl (op_move (v := u) rfl ?_) | refine AL.set rfl rfl (op_lenR ko.rs rfl ?_) | refine AL.set rfl rfl (op_intT rfl rfl rfl (by omega) ?_))
      refine AL.set rfl rfl (op_call (evs := [ptr rd]) rfl rfl ((rdNum_c kr (by omega)).mono ?_))
      rintro _ H3 ⟨rfl, hH3⟩
      have r3 : Rdr H1 rd (numS rest).2 H3 := hH3 ▸ kr.set _
      have x3 : Ext (H.set rd (rdB (numS rest).2)) H3 := hH3 ▸ Ext.refl _
      have o3 := OS.over ko (by omega) x3
      have hc2 := cutS_lt h1
      have hc3 : (numS rest).2.length < rest.length := hc2
      clear hH3
      repeat (first | refine AL.set rfl rfl (op_row [.int .i64 (numS rest).1] rfl rfl rfl rfl (by intro w hw; rw [List.mem_singleton.1 hw]; rfl) ?_))
      have gq := Heap.alloc_new H3 ⟨[.int .i64 (numS rest).1], 3, true⟩
      have xr := r3.wf.ext ⟨[.int .i64 (numS rest).1], 3, true⟩
      have wr := r3.wf.alloc ⟨[.int .i64 (numS rest).1], 3, true⟩
      generalize H3.alloc ⟨[.int .i64 (numS rest).1], 3, true⟩ = H4 at gq xr wr ⊢
      have r4 := r3.grow xr wr (by have := wr.lt gq; omega)
      have o4 := o3.ext xr
      have rn : RS H4 (.slice (some ⟨H3.next, 0, some 1⟩) 1 1) [.int .i64 (numS rest).1] := RS.own gq rfl
      refine AL.set rfl rfl (op_appendO (by_ := 8) (z := .int .i64 0) (B := H1.next) (e := 3) rfl wr r4.nx o4 rfl rfl rn.src rfl rfl (by rw [hml]; simp only [maxLen, List.length_cons, List.length_nil]; omega) (by rw [hml]; simp only [List.length_cons, List.length_nil]; omega) ?_)
      intro u' H5 o5 k5 wf5 n5
      rw [iv64_app] at o5
      have r5 : Rdr H1 rd (numS rest).2 H5 := ⟨k5.ext o4 (w1.set n1 _) (Nat.le_refl _) r4.ext, wf5, w1, n1, h8, by have := r4.nx; omega, t.ext x1⟩
      repeat (first | refine AL.nil ?_ | refine AL.set rfl rfl (op_assign (v := u') rfl ?_))
      refine ⟨((numS rest).2, acc ++ [(numS rest).1], H5, u'), ⟨r5, ?_, by simp only [List.length_append, List.length_cons, List.length_nil]; omega, o5, ?_, by show (numS rest).2.length ≤ s1.length; omega⟩, hc3, Weak.same (EW.cons rfl (EW.cons rfl (EW.cons rfl EW.nil)))⟩
      · show membersV 4 s1 = (acc ++ [(numS rest).1]) ++ membersV (4 - (acc ++ [(numS rest).1]).length) (numS rest).2
        rw [ke, List.length_append, show 4 - acc.length = (4 - (acc.length + [(numS rest).1].length)) + 1 by simp only [List.length_cons, List.length_nil]; omega, membersV, if_neg h1]
        simp
      · intro n hn
        rcases List.mem_append.1 hn with hn | hn
        · exact kn n hn
        · rw [List.mem_singleton.1 hn]
          exact numP_I64 _
    · have e0 : membersV 4 s1 = acc := by rw [ke, show 4 - acc.length = 0 by omega, membersV, List.append_nil]
      by_cases hg : groupL acc = s
      · repeat (first | refine AL.nil ?_ | refine AWp.seq ?_ | refine AWp.region ?_ | refine AWp.condF rfl ?_ | refine AWp.ret ?_ | refine AWp.exit ?_ | refine AL.set rfl rfl (op_moveB rfl ?_) | refine AL.set rfl rfl (op_moveP rfl ?_) | refine AL.set rfl rfl (op_moveStr rfl ?_) | refine AL.set rfl rfl (op_assignB rfl ?_) | refine AL.set rfl rfl (op_nilCheck rfl ?_) | refine AL.set rfl rfl (op_fa rfl ?_) | refine AL.set rfl rfl (op_load rfl rfl hb rfl ?_) | refine AL.set rfl rfl (op_sNeT (a := rest) (b := []) rfl rfl h1 ?_) | refine AL.set rfl rfl (op_pick (v := .bool _) rfl rfl ?_) | refine AL.set rfl rfl (op_move (v := u) rfl ?_) | refine AL.set rfl rfl (op_assign (v := u) rfl ?_) | refine AL.set rfl rfl (op_lenR ko.rs rfl ?_) | refine AL.set rfl rfl (op_intF rfl rfl rfl (by omega) ?_) | refine AL.set rfl rfl (op_callS rfl rfl cg ?_) | refine AL.set rfl rfl (op_sEqT rfl rfl hg ?_))
        exact ⟨_, ResV.tmp2 rfl, fin e0 _ (decide_eq_true hg).symm⟩
      · repeat (first | refine AL.nil ?_ | refine AWp.seq ?_ | refine AWp.region ?_ | refine AWp.condF rfl ?_ | refine AWp.ret ?_ | refine AWp.exit ?_ | refine AL.set rfl rfl (op_moveB rfl ?_) | refine AL.set rfl rfl (op_moveP rfl ?_) | refine AL.set rfl rfl (op_moveStr rfl ?_) | refine AL.set rfl rfl (op_assignB rfl ?_) | refine AL.set rfl rfl (op_nilCheck rfl ?_) | refine AL.set rfl rfl (op_fa rfl ?_) | refine AL.set rfl rfl (op_load rfl rfl hb rfl ?_) | refine AL.set rfl rfl (op_sNeT (a := rest) (b := []) rfl rfl h1 ?_) | refine AL.set rfl rfl (op_pick (v := .bool _) rfl rfl ?_) | refine AL.set rfl rfl (op_move (v := u) rfl ?_) | refine AL.set rfl rfl (op_assign (v := u) rfl ?_) | refine AL.set rfl rfl (op_lenR ko.rs rfl ?_) | refine AL.set rfl rfl (op_intF rfl rfl rfl (by omega) ?_) | refine AL.set rfl rfl (op_callS rfl rfl cg ?_) | refine AL.set rfl rfl (op_sEqF rfl rfl hg ?_))
        exact ⟨_, ResV.tmp2 rfl, fin e0 _ (decide_eq_false hg).symm⟩
end Go.Proofs.YtigmojilaadbhaaGreatDoor

/-
  Scripts: a setup's line, read.
-/
namespace Go.Proofs.YtigmojilaadbhaaGreatDoor
open Go Go.Eng Go.Pln Go.Lib
attribute [local irreducible] AWp AL DAL AOp TAL

instance i_first : FnC Tryz.prog 60 := ⟨Tryz.f60, Tryz.func60, by kernel_rfl, by kernel_rfl⟩
instance i_StD_api_Setup : StD Tryz.prog 24 [(0, 1), (1, 1), (2, 1), (3, 1), (4, 1)] := ⟨_, Tryz.underlying24, by kernel_rfl⟩
abbrev nilS : Value := .slice none 0 0
abbrev setB (x : SetM) : Blk := ⟨setC nilS x, 24, true⟩
set_option maxHeartbeats 4000000 in
theorem first_c (s : Bytes) (h : Heap) (t : Tabs h) (h8 : 8 ≤ h.next) (hl : s.length ≤ 1000000000) : ACalls Tryz.prog 60 [str s] h fun u h' => u = .tuple #[.agg (setC nilS (firstP s).1).toArray, .bool (firstP s).2] ∧ Ext h h' := by
  refine ACalls.wf fun wf => ?_
  refine ACalls.body Tryz.func60 rfl rfl ?_
  repeat (first | refine AWp.seq ?_ | refine AWp.region ?_)
  refine AL.set rfl rfl (op_alloc ?_)
  refine AL.heap (h := h.alloc (setB set0)) rfl ?_
  generalize hH : h.alloc (setB set0) = H0
  have g0 : H0.get h.next = some (setB set0) := hH ▸ Heap.alloc_new _ _
  have x0 : Ext h H0 := hH ▸ wf.ext _
  have w0 : WF H0 := hH ▸ wf.alloc _
  have n0' : h.next < H0.next := w0.lt g0
  clear hH
  repeat (first | refine AL.nil ?_ | refine AWp.seq ?_ | refine AWp.region ?_ | refine AL.set rfl rfl (op_moveStr rfl ?_) | refine AL.set rfl rfl (op_assignB rfl ?_) | refine AL.set rfl rfl (op_buildS (out := [str s]) rfl rfl ?_))
  refine AL.set rfl rfl (op_box (v := .agg #[str s]) rfl (by intro e; cases e) ?_)
  refine AL.heap (h := H0.alloc (rdB s)) rfl ?_
  generalize hH : H0.alloc (rdB s) = H1
  have gr : H1.get H0.next = some (rdB s) := hH ▸ Heap.alloc_new _ _
  have x1 : Ext H0 H1 := hH ▸ w0.ext _
  have w1 : WF H1 := hH ▸ w0.alloc _
  have n1 : H0.next < H1.next := w1.lt gr
  clear hH
  have r1 : Rdr H1 H0.next s H1 := ⟨by rw [set_same gr]; exact Ext.refl H1, w1, w1, n1, by omega, Nat.le_refl _, t.ext (x0.trans x1)⟩
  have g1 := x1.c _ _ g0
  have xb : ∀ b, Ext h (H1.set H0.next b) := fun b => wf.ext_set (x0.trans x1) (by omega) b
  have hne : h.next ≠ H0.next := by omega
  have lr : h.next ≤ H1.next := by omega
  have lx : h.next < H1.next := by omega
  generalize H0.next = rd at gr n1 r1 xb hne ⊢
  repeat (first | refine AL.nil ?_ | refine AWp.seq ?_ | refine AWp.region ?_ | refine AL.set rfl rfl (op_moveP rfl ?_) | refine AL.set rfl rfl (op_assignP rfl ?_))
  refine AL.set rfl rfl (op_call (evs := [ptr rd]) rfl rfl ((rdNext_c r1 hl).mono ?_))
  rintro _ H2 ⟨rfl, hH2⟩
  have r2 : Rdr H1 rd (cutS s).2 H2 := hH2 ▸ r1.set _
  clear hH2
  have hcl := (cutS_len s).2
  have hfp : firstP s = (firstV (cutS s).2, sizesM (firstV (cutS s).2) && decide (firstL (firstV (cutS s).2) = s)) := rfl
  rw [hfp]
  generalize (cutS s).2 = s1 at r2 hcl ⊢
  have l1 := numS_len s1
  have l2 := numS_len (numS s1).2
  have l3 := numS_len (numS (numS s1).2).2
  repeat (first | refine AL.nil ?_ | refine AWp.seq ?_ | refine AWp.region ?_ | refine AL.set rfl rfl (op_moveP rfl ?_))
  refine AL.set rfl rfl (op_call (evs := [ptr rd]) rfl rfl ((rdNum_c r2 (by omega)).mono ?_))
  rintro _ H3 ⟨rfl, hH3⟩
  have r3 : Rdr H1 rd (numS s1).2 H3 := hH3 ▸ r2.set _
  clear hH3
  repeat (first | refine AL.set rfl rfl (op_moveP rfl ?_))
  refine AL.set rfl rfl (op_call (evs := [ptr rd]) rfl rfl ((rdNum_c r3 (by omega)).mono ?_))
  rintro _ H4 ⟨rfl, hH4⟩
  have r4 : Rdr H1 rd (numS (numS s1).2).2 H4 := hH4 ▸ r3.set _
  clear hH4
  repeat (first | refine AL.set rfl rfl (op_moveP rfl ?_))
  refine AL.set rfl rfl (op_call (evs := [ptr rd]) rfl rfl ((rdNum_c r4 (by omega)).mono ?_))
  rintro _ H5 ⟨rfl, hH5⟩
  have r5 : Rdr H1 rd (numS (numS (numS s1).2).2).2 H5 := hH5 ▸ r4.set _
  clear hH5
  repeat (first | refine AL.set rfl rfl (op_moveP rfl ?_))
  refine AL.set rfl rfl (op_call (evs := [ptr rd]) rfl rfl ((rdNum_c r5 (by omega)).mono ?_))
  rintro _ H6 ⟨rfl, hH6⟩
  have r6 : Rdr H1 rd (numS (numS (numS (numS s1).2).2).2).2 H6 := hH6 ▸ r5.set _
  clear hH6
  obtain ⟨x, hx⟩ : ∃ x, x = firstV s1 := ⟨_, rfl⟩
  have hI : I64 x.nodes ∧ I64 x.disk ∧ I64 x.memory ∧ I64 x.level := by rw [hx]; exact ⟨numP_I64 _, numP_I64 _, numP_I64 _, numP_I64 _⟩
  rw [← hx]
  repeat (first | refine AL.nil ?_ | refine AWp.seq ?_ | refine AL.set rfl rfl (op_buildS (out := setC nilS x) rfl (by rw [hx]; rfl) ?_) | refine AL.set rfl rfl (op_alloc ?_) | refine AL.eff rfl (op_storeW (vs := setC nilS x) rfl rfl rfl rfl rfl ?_))
  have g5 := Heap.alloc_new H6 (setB x)
  have x6 := r6.wf.ext (setB x)
  have w6 := r6.wf.alloc (setB x)
  have g2 := x6.c _ _ (r6.ext.c _ _ ((Heap.set_other hne).trans g1))
  have xh := (xb _).trans (r6.ext.trans x6)
  have th := r6.tabs.ext x6
  have nb : h.next < (H6.alloc (setB x)).next := by
    have := r6.nx
    show h.next < H6.next + 1
    omega
  refine AWp.heap (h := H6.alloc (setB x)) rfl ?_
  have nc : h.next ≠ H6.next := by have := r6.nx; omega
  generalize H6.alloc (setB x) = H7 at g5 w6 g2 xh th nb ⊢
  generalize H6.next = b5 at g5 nc ⊢
  have cs := sizes_c x nilS (by intro e; cases e) 
  cases hs : sizesM x with
  | false =>
    rw [hs] at cs
    refine AWp.tree (t := OT.seq [(0, .R), (1, .R), (2, .R), (3, .R), (19, .P), (4, .R), (5, .R), (6, .R), (7, .R), (8, .R), (9, .R), (10, .R), (11, .R), (12, .R), (13, .R), (14, .R), (15, .R), (16, .R), (17, .X), (18, .R), (20, .P), (21, .P), (22, .W), (23, .P)] .nil) mixed (by kernel_rfl) ?_
    repeat' (first | refine TAL.skip rfl rfl rfl ?_ | refine TAL.r rfl rfl rfl (fun h' hx hn => op_moveB rfl ⟨rfl, rfl⟩) ?_ | refine TAL.r rfl rfl rfl (fun h' hx hn => op_loadA (sz := 5) rfl rfl (hx.c _ _ g5) (Nat.le_refl _) ⟨rfl, rfl⟩) ?_ | refine TAL.r rfl rfl rfl (fun h' hx hn => op_callS rfl rfl (cs h') ⟨rfl, rfl⟩) ?_ | refine TAL.p rfl rfl rfl (fun h' hn => op_pick (v := .bool _) rfl rfl ⟨rfl, rfl⟩) ?_)
    refine TAL.w0 rfl rfl (op_storeO (vs := setC nilS x) rfl rfl rfl rfl g2 rfl ?_)
    repeat' (first | refine TAL.nil ?_ | refine TAL.p rfl rfl rfl (fun h' hn => op_assignB rfl ⟨rfl, rfl⟩) ?_)
    repeat (first | refine AWp.ret ?_)
    exact ⟨_, ResV.cell2 rfl rfl rfl (Heap.set_at _ _ _) (Nat.le_refl _), rfl, wf.ext_set xh (Nat.le_refl _) _⟩
  | true =>
    rw [hs] at cs
    have ct := textX_c [.txt wSetup, .num x.nodes, .num x.disk, .num x.memory, .num x.level] H7 5 rfl w6 th ⟨⟨trivial, Nat.le_of_ble_eq_true rfl⟩, ⟨hI.1, trivial⟩, ⟨hI.2.1, trivial⟩, ⟨hI.2.2.1, trivial⟩, ⟨hI.2.2.2, trivial⟩, trivial⟩ (by show 5 ≤ 1000; omega)
    have ct' : ∀ h', Ext (H7.alloc (rowA [.txt wSetup, .num x.nodes, .num x.disk, .num x.memory, .num x.level])) h' → ACalls Tryz.prog 43 [.slice (some ⟨H7.next, 0, some 1⟩) 5 5] h' fun u h'' => u = str (firstL x) ∧ h'' = h' := ct
    refine AWp.tree (t := OT.seq [(0, .R), (1, .R), (2, .R), (3, .R), (19, .P), (4, .R), (5, .R), (6, .R), (7, .R), (8, .R), (9, .R), (10, .R), (11, .R), (12, .R), (13, .R), (14, .R), (15, .R), (16, .R), (17, .X), (18, .R), (20, .P), (21, .P), (22, .W), (23, .P)] .nil) mixed (by kernel_rfl) ?_
    repeat' (first | refine TAL.r rfl rfl rfl (fun h' hx hn => op_moveB rfl ⟨rfl, rfl⟩) ?_ | refine TAL.p rfl rfl rfl (fun h' hn => op_moveStr rfl ⟨rfl, rfl⟩) ?_ | refine TAL.r rfl rfl rfl (fun h' hx hn => op_loadA (sz := 5) rfl rfl (hx.c _ _ g5) (Nat.le_refl _) ⟨rfl, rfl⟩) ?_ | refine TAL.r rfl rfl rfl (fun h' hx hn => op_callS rfl rfl (cs h') ⟨rfl, rfl⟩) ?_ | refine TAL.r rfl rfl rfl (fun h' hx hn => op_fa rfl ⟨rfl, rfl⟩) ?_ | refine TAL.r rfl rfl rfl (fun h' hx hn => op_load rfl rfl (hx.c _ _ g5) rfl ⟨rfl, rfl⟩) ?_ | refine TAL.r rfl rfl rfl (fun h' hx hn => op_mkIf rfl rfl ⟨rfl, rfl⟩) ?_)
    refine TAL.x rfl rfl rfl (op_row (([.txt wSetup, .num x.nodes, .num x.disk, .num x.memory, .num x.level] : List WArg).map argV) rfl rfl rfl rfl (argV_ones _) ⟨w6.ext _, ?_⟩)
    have x8 := w6.ext (rowA [.txt wSetup, .num x.nodes, .num x.disk, .num x.memory, .num x.level])
    have g28 := x8.c _ _ g2
    by_cases he : firstL x = s
    · repeat' (first | refine TAL.r rfl rfl rfl (fun h' hx hn => op_callS rfl rfl (ct' h' hx) ⟨rfl, rfl⟩) ?_ | refine TAL.p rfl rfl rfl (fun h' hn => op_sEqT rfl rfl he ⟨rfl, rfl⟩) ?_ | refine TAL.p rfl rfl rfl (fun h' hn => op_pick (v := .bool _) rfl rfl ⟨rfl, rfl⟩) ?_)
      refine TAL.w0 rfl rfl (op_storeO (vs := setC nilS x) rfl rfl rfl rfl g28 rfl ?_)
      repeat' (first | refine TAL.nil ?_ | refine TAL.p rfl rfl rfl (fun h' hn => op_assignB rfl ⟨rfl, rfl⟩) ?_)
      repeat (first | refine AWp.ret ?_)
      exact ⟨_, ResV.cell2 rfl rfl rfl (Heap.set_at _ _ _) (Nat.le_refl _), by rw [decide_eq_true he]; rfl, wf.ext_set (xh.trans x8) (Nat.le_refl _) _⟩
    · repeat' (first | refine TAL.r rfl rfl rfl (fun h' hx hn => op_callS rfl rfl (ct' h' hx) ⟨rfl, rfl⟩) ?_ | refine TAL.p rfl rfl rfl (fun h' hn => op_sEqF rfl rfl he ⟨rfl, rfl⟩) ?_ | refine TAL.p rfl rfl rfl (fun h' hn => op_pick (v := .bool _) rfl rfl ⟨rfl, rfl⟩) ?_)
      refine TAL.w0 rfl rfl (op_storeO (vs := setC nilS x) rfl rfl rfl rfl g28 rfl ?_)
      repeat' (first | refine TAL.nil ?_ | refine TAL.p rfl rfl rfl (fun h' hn => op_assignB rfl ⟨rfl, rfl⟩) ?_)
      repeat (first | refine AWp.ret ?_)
      exact ⟨_, ResV.cell2 rfl rfl rfl (Heap.set_at _ _ _) (Nat.le_refl _), by rw [decide_eq_false he]; rfl, wf.ext_set (xh.trans x8) (Nat.le_refl _) _⟩
end Go.Proofs.YtigmojilaadbhaaGreatDoor

/-
  Scripts: what is wrong with a script.
-/
namespace Go.Proofs.YtigmojilaadbhaaGreatDoor
open Go Go.Eng Go.Pln Go.Lib
attribute [local irreducible] AWp AL DAL AOp TAL

instance i_TyD_api_Script : TyD Tryz.prog 44 (.struct #[fd "Setup" 24 0 "" 0, fd "Acts" 42 5 "" 56]) := ⟨Tryz.underlying44⟩
instance i_TyI_api_Script : TyI Tryz.prog 44 6 80 (.agg #[.int .i64 0, .slice none 0 0, .int .i64 0, .int .i64 0, .int .i64 0, .slice none 0 0]) := ⟨info_of (by kernel_rfl), rfl, rfl⟩
instance i_FAd_api_Script_0_0 : FAd Tryz.prog 44 0 0 := FAd.mk' (ft := 24) Tryz.underlying44 rfl rfl rfl rfl
instance i_FAd_api_Script_1_5 : FAd Tryz.prog 44 1 5 := FAd.mk' (ft := 42) Tryz.underlying44 rfl rfl rfl rfl
structure RA (h : Heap) (v : Value) (l : List ActM) : Prop where
  ex : ∃ rows, RN 33 h v rows ∧ rows.length = l.length ∧ ∀ (k : Nat) row a, rows[k]? = some row → l[k]? = some a → ∃ q, row = actC q a ∧ ActR h q a
  len : l.length ≤ 140737488351232
theorem RA.ext {h h' : Heap} {v : Value} {l : List ActM} (r : RA h v l) (hx : Ext h h') : RA h' v l := by
  obtain ⟨rows, h1, h2, h3⟩ := r.ex
  exact ⟨⟨rows, h1.ext hx, h2, fun k row a e1 e2 => by
    obtain ⟨q, e, hq⟩ := h3 k row a e1 e2
    exact ⟨q, e, hq.ext hx⟩⟩, r.len⟩
def scrC (vg va : Value) (x : SetM) : List Value := [.int .i64 x.nodes, vg, .int .i64 x.disk, .int .i64 x.memory, .int .i64 x.level, va]
abbrev scrB (vg va : Value) (x : SetM) : Blk := ⟨scrC vg va x, 44, true⟩
abbrev chkV (b : Nat) : Value := .func (.func 81) #[] #[ptr b]
def idxM (o : Option Nat) : Int := match o with
  | some i => (i : Int)
  | none => -1
end Go.Proofs.YtigmojilaadbhaaGreatDoor

/-
  Scripts: the text of a script; how long a line is.
-/
namespace Go.Proofs.YtigmojilaadbhaaGreatDoor
open Go Go.Eng Go.Pln Go.Lib

end Go.Proofs.YtigmojilaadbhaaGreatDoor

/-
  Scripts: Text.
-/
namespace Go.Proofs.YtigmojilaadbhaaGreatDoor
open Go Go.Eng Go.Pln Go.Lib
attribute [local irreducible] AWp AL DAL AOp TAL

def textV (s : ScrM) : Value := if (checkM s).2 = 0 then (if 1048576 < (textM s).length then .tuple #[str [], .int .i64 3] else .tuple #[str (textM s), .int .i64 0]) else .tuple #[str [], .int .i64 (checkM s).2]
end Go.Proofs.YtigmojilaadbhaaGreatDoor

/-
  Scripts: a line laid behind a script.
-/
namespace Go.Proofs.YtigmojilaadbhaaGreatDoor
open Go Go.Eng Go.Pln Go.Lib
attribute [local irreducible] AWp AL DAL AOp TAL

instance i_lay : FnC Tryz.prog 61 := ⟨Tryz.f61, Tryz.func61, by kernel_rfl, by kernel_rfl⟩
theorem keeps_el {B c : Nat} {h h' : Heap} {e : TypeId} {u : Value} {rows : List (List Value)} (k : Keeps u h h') (r : ON B c h e u rows) : ∀ j b, h.get j = some b → (j < B ∨ b.elem ≠ e) → h'.get j = some b := by
  intro j b hj hb
  refine k.c j b hj fun s n c' hu => ?_
  rcases r.at_ with ⟨h1, _⟩ | ⟨i, cap, h0, h1, h3⟩
  · rw [h1] at hu; cases hu
  · rw [h1] at hu
    cases hu
    rw [hj] at h3
    cases h3
    rcases hb with hb | hb
    · omega
    · exact hb rfl
theorem keeps_os {B : Nat} {h h' : Heap} {e : TypeId} {u : Value} {vs : List Value} (k : Keeps u h h') (r : OS B h e u vs) : ∀ j b, h.get j = some b → (j < B ∨ b.elem ≠ e) → h'.get j = some b := by
  intro j b hj hb
  refine k.c j b hj fun s n c' hu => ?_
  rcases r with ⟨h1, _⟩ | ⟨i, cap, h0, h1, h3⟩
  · rw [h1] at hu; cases hu
  · rw [h1] at hu
    cases hu
    rw [hj] at h3
    cases h3
    rcases hb with hb | hb
    · omega
    · exact hb rfl
structure GO (B : Nat) (h : Heap) (vg : Value) (gs : List (List Int)) : Prop where
  ex : ∃ vs, OS B h 77 vg vs ∧ vs.length = gs.length ∧ ∀ (k : Nat) v g, vs[k]? = some v → gs[k]? = some g → ∃ B', OS B' h 3 v (iv64 g)
  len : gs.length ≤ 5
  all : ∀ g ∈ gs, g.length ≤ 4
structure AO (B : Nat) (h : Heap) (va : Value) (ac : List ActM) : Prop where
  ex : ∃ rows, ON B 33 h 40 va rows ∧ rows.length = ac.length ∧ ∀ (k : Nat) row a, rows[k]? = some row → ac[k]? = some a → ∃ q, row = actC q a ∧ ∃ B', ActO B' h q a
  len : ac.length ≤ 65536
  all : ∀ a ∈ ac, a.keep.length ≤ 1000
theorem GO.rg {B : Nat} {h : Heap} {vg : Value} {gs : List (List Int)} (g : GO B h vg gs) : RG h vg gs := by
  obtain ⟨vs, h1, h2, h3⟩ := g.ex
  refine ⟨vs, OS.rs h1, h2, by have := g.len; omega, fun k v x hv hx => ?_⟩
  obtain ⟨B', h4⟩ := h3 k v x hv hx
  exact ⟨OS.rs h4, by have := g.all x (List.mem_of_getElem? hx); omega⟩
theorem AO.ra {B : Nat} {h : Heap} {va : Value} {ac : List ActM} (g : AO B h va ac) : RA h va ac := by
  obtain ⟨rows, h1, h2, h3⟩ := g.ex
  refine ⟨⟨rows, h1.rn, h2, fun k row a hr ha => ?_⟩, by have := g.len; omega⟩
  obtain ⟨q, e, B', h4⟩ := h3 k row a hr ha
  exact ⟨q, e, h4.r (by have := g.all a (List.mem_of_getElem? ha); omega)⟩
theorem GO.pres {B : Nat} {h h' : Heap} {vg : Value} {gs : List (List Int)} (g : GO B h vg gs) (p : ∀ j b, h.get j = some b → b.elem = 77 ∨ b.elem = 3 → h'.get j = some b) : GO B h' vg gs := by
  obtain ⟨vs, h1, h2, h3⟩ := g.ex
  refine ⟨⟨vs, OS.elem h1 fun j b hj he => p j b hj (.inl he), h2, fun k v x hv hx => ?_⟩, g.len, g.all⟩
  obtain ⟨B', h4⟩ := h3 k v x hv hx
  exact ⟨B', OS.elem h4 fun j b hj he => p j b hj (.inr he)⟩
theorem AO.pres {B : Nat} {h h' : Heap} {va : Value} {ac : List ActM} (g : AO B h va ac) (p : ∀ j b, h.get j = some b → b.elem = 40 ∨ b.elem = 5 ∨ b.elem = 79 → h'.get j = some b) : AO B h' va ac := by
  obtain ⟨rows, h1, h2, h3⟩ := g.ex
  refine ⟨⟨rows, ⟨h1.len, h1.at_.imp id fun ⟨j, c, g1, g2, g3⟩ => ⟨j, c, g1, g2, p _ _ g3 (.inl rfl)⟩⟩, h2, fun k row a hr ha => ?_⟩, g.len, g.all⟩
  obtain ⟨q, e, B', h4⟩ := h3 k row a hr ha
  exact ⟨q, e, B', h4.elem (fun j b hj he => p j b hj (.inr (.inl he))) (fun j b hj he => p j b hj (.inr (.inr he)))⟩
theorem GO.nil (B : Nat) (h : Heap) : GO B h (.slice none 0 0) [] := ⟨⟨[], OS.nil _ _ _, rfl, fun k v g hv => by simp at hv⟩, Nat.zero_le _, fun g hg => by cases hg⟩
theorem AO.nil (B : Nat) (h : Heap) : AO B h (.slice none 0 0) [] := ⟨⟨[], ON.nil _ _ _ _, rfl, fun k v g hv => by simp at hv⟩, Nat.zero_le _, fun g hg => by cases hg⟩
structure Kp2 (B i : Nat) (h h' : Heap) : Prop where
  c : ∀ j b, h.get j = some b → j ≠ i → (j < B ∨ (b.elem ≠ 40 ∧ b.elem ≠ 77)) → h'.get j = some b
  o : ∀ j b, h.obj j = some b → h'.obj j = some b
  n : h.next ≤ h'.next
theorem Kp2.trans {B i : Nat} {a b c : Heap} (x : Kp2 B i a b) (y : Kp2 B i b c) : Kp2 B i a c := ⟨fun j b h1 h2 h3 => y.c j b (x.c j b h1 h2 h3) h2 h3, fun j b h1 => y.o j b (x.o j b h1), Nat.le_trans x.n y.n⟩
theorem Kp2.ext {B i : Nat} {a b : Heap} (x : Ext a b) (n : a.next ≤ b.next) : Kp2 B i a b := ⟨fun j b h1 _ _ => x.c j b h1, fun j b h1 => x.o j b h1, n⟩
theorem Kp2.set {B i : Nat} (a : Heap) (b : Blk) : Kp2 B i a (a.set i b) := ⟨fun _j _x h1 h2 _ => (Heap.set_other h2).trans h1, fun _j _x h1 => h1, Nat.le_refl _⟩
theorem Kp2.act {B i : Nat} {a b : Heap} {u : Value} {rows : List (List Value)} (k : Keeps u a b) (r : ON B 33 a 40 u rows) (n : a.next ≤ b.next) : Kp2 B i a b := ⟨fun j x h1 _ h3 => keeps_el k r j x h1 (h3.imp id fun e => e.1), fun j x h1 => k.o j x h1, n⟩
theorem Kp2.grp {B i : Nat} {a b : Heap} {u : Value} {vs : List Value} (k : Keeps u a b) (r : OS B a 77 u vs) (n : a.next ≤ b.next) : Kp2 B i a b := ⟨fun j x h1 _ h3 => keeps_os k r j x h1 (h3.imp id fun e => e.2), fun j x h1 => k.o j x h1, n⟩
theorem scr_el : (44 : TypeId) ≠ 77 ∧ (44 : TypeId) ≠ 3 ∧ (44 : TypeId) ≠ 40 ∧ (44 : TypeId) ≠ 5 ∧ (44 : TypeId) ≠ 79 := by decide
theorem GO.set {B i : Nat} {h : Heap} {vg : Value} {gs : List (List Int)} {x y : Blk} (g : GO B h vg gs) (hi : h.get i = some x) (hx : x.elem = 44) : GO B (h.set i y) vg gs :=
  g.pres fun j b hj he => (Heap.set_other fun e => by
    subst e; rw [hi] at hj; cases hj
    rcases he with he | he
    · exact scr_el.1 (hx.symm.trans he)
    · exact scr_el.2.1 (hx.symm.trans he)).trans hj
theorem AO.set {B i : Nat} {h : Heap} {va : Value} {ac : List ActM} {x y : Blk} (g : AO B h va ac) (hi : h.get i = some x) (hx : x.elem = 44) : AO B (h.set i y) va ac :=
  g.pres fun j b hj he => (Heap.set_other fun e => by
    subst e; rw [hi] at hj; cases hj
    rcases he with he | he | he
    · exact scr_el.2.2.1 (hx.symm.trans he)
    · exact scr_el.2.2.2.1 (hx.symm.trans he)
    · exact scr_el.2.2.2.2 (hx.symm.trans he)).trans hj
structure ScO (B i : Nat) (h : Heap) (s : ScrM) : Prop where
  ex : ∃ vg va, h.get i = some (scrB vg va s.setup) ∧ GO B h vg s.setup.groups ∧ AO B h va s.acts
set_option maxHeartbeats 8000000 in
theorem lay_c (B i : Nat) (s : ScrM) (line : Bytes) (h : Heap) (t : Tabs h) (h8 : 8 ≤ h.next) (hl : line.length ≤ 100000000) (hB : B ≤ h.next) (_hi : B ≤ i) (o : ScO B i h s) (hn : 1 ≤ s.setup.nodes ∧ s.setup.nodes ≤ 5) :
    ACalls Tryz.prog 61 [ptr i, str line] h fun u h' => u = .bool (layP s line).isSome ∧ ScO B i h' ((layP s line).getD s) ∧ Kp2 B i h h' := by
  refine ACalls.wf fun wf => ?_
  obtain ⟨vg, va, g1, g2, g3⟩ := o.ex
  refine ACalls.body Tryz.func61 rfl rfl ?_
  repeat (first | refine AL.nil ?_ | refine AWp.seq ?_ | refine AWp.region ?_ | refine AL.set rfl rfl (op_moveStr rfl ?_) | refine AL.set rfl rfl (op_assignB rfl ?_))
  refine AL.set rfl rfl (op_call rfl rfl ((members_c line h t h8 (by omega)).wf_post.mono ?_))
  rintro _ H1 ⟨⟨v, rfl, ov, x1⟩, w1, n1⟩
  have q1 := x1.c _ _ g1
  have q2 := g2.pres fun j b hj _ => x1.c j b hj
  have q3 := g3.pres fun j b hj _ => x1.c j b hj
  obtain ⟨vs, c1, c2, c3⟩ := q2.ex
  obtain ⟨rows, d1, d2, d3⟩ := q3.ex
  have gl := q2.len
  have al := q3.len
  obtain ⟨ga, gc, hvg⟩ := RS.slice c1.rs
  have no : layP s line = none → (Value.bool false = .bool (layP s line).isSome ∧ ScO B i H1 ((layP s line).getD s) ∧ Kp2 B i h H1) := fun e => by
    rw [e]; exact ⟨rfl, ⟨vg, va, q1, q2, q3⟩, Kp2.ext x1 n1⟩
  have hml : (membersP line).1.length ≤ 4 := by
    have key : ∀ (f : Nat) (r : Bytes), (membersV f r).length ≤ f := by
      intro f
      induction f with
      | zero => intro r; exact Nat.le_refl _
      | succ f ih =>
        intro r
        rw [membersV]
        split
        · exact Nat.zero_le _
        · have := ih (numS r).2
          simp only [List.length_cons]
          omega
    exact key 4 _
  have cg := mayGroup_c s.setup.nodes v (membersP line).1 H1 (OS.rs ov) hn (by omega)
  have hlp : layP s line = if (membersP line).2 then (if s.acts = [] ∧ s.setup.groups.length < 5 ∧ mayGroup s.setup.nodes (membersP line).1 = true then some { s with setup := { s.setup with groups := s.setup.groups ++ [(membersP line).1] } } else none) else (match unlineP line with
    | some a => if mayIn s.setup a = true ∧ s.acts.length < 65536 then some { s with acts := s.acts ++ [a] } else none
    | none => none) := rfl
  generalize (membersP line).1 = mem at hml ov cg hlp no
  cases hm : (membersP line).2 with
  | true =>
    rw [hm, if_pos rfl] at hlp
    by_cases ha : s.acts = []
    · have ha0 : rows.length = 0 := by rw [d2, ha]; rfl
      by_cases hg5 : s.setup.groups.length < 5
      · cases hmg : mayGroup s.setup.nodes mem with
        | true =>
          rw [hmg] at cg
          rw [if_pos ⟨ha, hg5, hmg⟩] at hlp
          have hv1 : oneB v = true := (RS.one (OS.rs ov)).1
          repeat (first | refine AL.nil ?_ | refine AWp.seq ?_ | refine AWp.region ?_ | refine AWp.condT rfl ?_ | refine AWp.condF rfl ?_ | refine AWp.skip ?_ | refine AL.set rfl rfl (op_moveB rfl ?_) | refine AL.set rfl rfl (op_moveP rfl ?_) | refine AL.set rfl rfl (op_moveT rfl ?_) | refine AL.set rfl rfl (op_assignB rfl ?_) | refine AL.set rfl rfl (op_extract rfl rfl ?_) | refine AL.set rfl rfl (op_assign (v := v) rfl ?_) | refine AL.set rfl rfl (op_move (v := v) rfl ?_) | refine AL.set rfl rfl (op_nilCheck rfl ?_) | refine AL.set rfl rfl (op_fa rfl ?_) | refine AL.set rfl rfl (op_load rfl rfl q1 rfl ?_) | refine AL.set rfl rfl (op_lenN d1.rn rfl ?_) | refine AL.set rfl rfl (op_lenR c1.rs rfl ?_) | refine AL.set rfl rfl (op_callS rfl rfl cg ?_) | refine AL.set rfl rfl (op_intF rfl rfl rfl (by omega) ?_) | refine AL.set rfl rfl (op_pick (v := .bool _) rfl rfl ?_) | refine AL.set rfl rfl (op_row [v] rfl rfl rfl rfl (by intro w hw; rw [List.mem_singleton.1 hw]; exact hv1) ?_) | refine AL.set rfl rfl (op_not rfl ?_))
          have gr := Heap.alloc_new H1 ⟨[v], 77, true⟩
          have xr := w1.ext ⟨[v], 77, true⟩
          have wr := w1.alloc ⟨[v], 77, true⟩
          have nr : (H1.alloc ⟨[v], 77, true⟩).next = H1.next + 1 := rfl
          generalize H1.alloc ⟨[v], 77, true⟩ = H2 at gr xr wr nr ⊢
          have rb : RS H2 (.slice (some ⟨H1.next, 0, some 1⟩) 1 1) [v] := RS.own gr rfl
          have c1' := c1.ext xr
          refine AL.set rfl rfl (op_appendO (by_ := 24) (z := .slice none 0 0) (B := B) (e := 77) rfl wr (by omega) c1' rfl rfl rb.src rfl (by simp [hv1]) (by rw [c2]; simp only [maxLen, List.length_cons, List.length_nil]; omega) (by rw [c2]; simp only [List.length_cons, List.length_nil]; omega) ?_)
          intro u' H3 o3 k3 wf3 n3
          have p3 := keeps_os k3 c1'
          have e3 := p3 _ _ (xr.c _ _ q1) (.inr scr_el.1)
          repeat (first | refine AL.nil ?_ | refine AWp.seq ?_ | refine AWp.region ?_ | refine AWp.ret ?_ | refine AL.set rfl rfl (op_assignB rfl ?_) | refine AL.set rfl rfl (op_nilCheck rfl ?_) | refine AL.set rfl rfl (op_fa rfl ?_) | refine AL.eff rfl (op_store (b := scrB vg va s.setup) rfl rfl (RS.one o3.rs).1 e3 rfl (by exact Nat.le_of_ble_eq_true rfl) ?_))
          refine ⟨_, ResV.tmp rfl, by rw [hlp]; rfl, ?_, ((Kp2.ext x1 n1).trans (Kp2.ext xr (by omega))).trans ((Kp2.grp k3 c1' n3).trans (Kp2.set _ _))⟩
          rw [hlp]
          have sg : GO B H3 u' (s.setup.groups ++ [mem]) := by
            refine ⟨⟨vs ++ [v], o3, by simp [c2], fun k w g hw hg => ?_⟩, by rw [List.length_append, List.length_cons, List.length_nil]; omega, fun g hg => ?_⟩
            · rcases Nat.lt_or_ge k vs.length with hk | hk
              · rw [List.getElem?_append_left hk] at hw
                rw [List.getElem?_append_left (by omega)] at hg
                obtain ⟨B', h4⟩ := c3 k w g hw hg
                exact ⟨B', OS.elem (h4.ext xr) fun j b hj he => p3 j b hj (.inr (by rw [he]; decide))⟩
              · rw [List.getElem?_append_right hk] at hw
                rw [List.getElem?_append_right (by omega)] at hg
                have hk0 : k - vs.length = 0 := by
                  have := (List.getElem?_eq_some_iff.1 hw).1
                  simp at this; omega
                rw [hk0] at hw
                rw [show k - s.setup.groups.length = 0 by omega] at hg
                simp at hw hg
                subst hw hg
                exact ⟨h.next, OS.elem (ov.ext xr) fun j b hj he => p3 j b hj (.inr (by rw [he]; decide))⟩
            · rcases List.mem_append.1 hg with hg | hg
              · exact q2.all g hg
              · rw [List.mem_singleton.1 hg]; exact hml
          have sa : AO B H3 va s.acts := (q3.pres fun j b hj _ => xr.c j b hj).pres fun j b hj he => p3 j b hj (.inr (by rcases he with he | he | he <;> rw [he] <;> decide))
          exact ⟨u', va, Heap.set_at _ _ _, sg.set e3 rfl, sa.set e3 rfl⟩
        | false =>
          rw [hmg] at cg
          rw [if_neg fun e => by rw [hmg] at e; cases e.2.2] at hlp
          repeat (first | refine AL.nil ?_ | refine AWp.seq ?_ | refine AWp.region ?_ | refine AWp.condT rfl ?_ | refine AWp.ret ?_ | refine AL.set rfl rfl (op_moveB rfl ?_) | refine AL.set rfl rfl (op_moveP rfl ?_) | refine AL.set rfl rfl (op_moveT rfl ?_) | refine AL.set rfl rfl (op_assignB rfl ?_) | refine AL.set rfl rfl (op_extract rfl rfl ?_) | refine AL.set rfl rfl (op_assign (v := v) rfl ?_) | refine AL.set rfl rfl (op_move (v := v) rfl ?_) | refine AL.set rfl rfl (op_nilCheck rfl ?_) | refine AL.set rfl rfl (op_fa rfl ?_) | refine AL.set rfl rfl (op_load rfl rfl q1 rfl ?_) | refine AL.set rfl rfl (op_lenN d1.rn rfl ?_) | refine AL.set rfl rfl (op_lenR c1.rs rfl ?_) | refine AL.set rfl rfl (op_callS rfl rfl cg ?_) | refine AL.set rfl rfl (op_intF rfl rfl rfl (by omega) ?_) | refine AL.set rfl rfl (op_pick (v := .bool _) rfl rfl ?_) | refine AL.set rfl rfl (op_not rfl ?_))
          exact ⟨_, ResV.tmp rfl, no hlp⟩
      · rw [if_neg fun e => hg5 e.2.1] at hlp
        repeat (first | refine AL.nil ?_ | refine AL.skip rfl rfl ?_ | refine AWp.seq ?_ | refine AWp.region ?_ | refine AWp.condT rfl ?_ | refine AWp.ret ?_ | refine AL.set rfl rfl (op_moveB rfl ?_) | refine AL.set rfl rfl (op_moveP rfl ?_) | refine AL.set rfl rfl (op_moveT rfl ?_) | refine AL.set rfl rfl (op_assignB rfl ?_) | refine AL.set rfl rfl (op_extract rfl rfl ?_) | refine AL.set rfl rfl (op_assign (v := v) rfl ?_) | refine AL.set rfl rfl (op_nilCheck rfl ?_) | refine AL.set rfl rfl (op_fa rfl ?_) | refine AL.set rfl rfl (op_load rfl rfl q1 rfl ?_) | refine AL.set rfl rfl (op_lenN d1.rn rfl ?_) | refine AL.set rfl rfl (op_lenR c1.rs rfl ?_) | refine AL.set rfl rfl (op_intT rfl rfl rfl (by omega) ?_) | refine AL.set rfl rfl (op_intF rfl rfl rfl (by omega) ?_) | refine AL.set rfl rfl (op_pick (v := .bool _) rfl rfl ?_))
        exact ⟨_, ResV.tmp rfl, no hlp⟩
    · have ha0 : rows.length ≠ 0 := fun e => ha (List.length_eq_zero_iff.1 (d2 ▸ e))
      rw [if_neg fun e => ha e.1] at hlp
      repeat (first | refine AL.nil ?_ | refine AL.skip rfl rfl ?_ | refine AWp.seq ?_ | refine AWp.region ?_ | refine AWp.condT rfl ?_ | refine AWp.ret ?_ | refine AL.set rfl rfl (op_moveB rfl ?_) | refine AL.set rfl rfl (op_moveP rfl ?_) | refine AL.set rfl rfl (op_moveT rfl ?_) | refine AL.set rfl rfl (op_assignB rfl ?_) | refine AL.set rfl rfl (op_extract rfl rfl ?_) | refine AL.set rfl rfl (op_assign (v := v) rfl ?_) | refine AL.set rfl rfl (op_nilCheck rfl ?_) | refine AL.set rfl rfl (op_fa rfl ?_) | refine AL.set rfl rfl (op_load rfl rfl q1 rfl ?_) | refine AL.set rfl rfl (op_lenN d1.rn rfl ?_) | refine AL.set rfl rfl (op_intT rfl rfl rfl (by omega) ?_) | refine AL.set rfl rfl (op_pick (v := .bool _) rfl rfl ?_))
      exact ⟨_, ResV.tmp rfl, no hlp⟩
  | false =>
    rw [hm, if_neg Bool.false_ne_true] at hlp
    repeat (first | refine AL.nil ?_ | refine AWp.seq ?_ | refine AWp.region ?_ | refine AWp.condF rfl ?_ | refine AWp.skip ?_ | refine AL.set rfl rfl (op_moveB rfl ?_) | refine AL.set rfl rfl (op_moveStr rfl ?_) | refine AL.set rfl rfl (op_moveT rfl ?_) | refine AL.set rfl rfl (op_assignB rfl ?_) | refine AL.set rfl rfl (op_extract rfl rfl ?_) | refine AL.set rfl rfl (op_assign (v := v) rfl ?_))
    refine AL.set rfl rfl (op_call rfl rfl ((unline_c line H1 (t.ext x1) (by omega) (by omega)).wf_post.mono ?_))
    rintro _ H2 ⟨⟨q, rfl, ⟨⟨B2, oa⟩, hkl⟩, x2⟩, w2, n2⟩
    have hua : unA line = match unlineP line with | some a => (a, 0) | none => (act0, 4) := rfl
    have ar := oa.r hkl
    repeat (first | refine AL.nil ?_ | refine AWp.seq ?_ | refine AL.set rfl rfl (op_moveT rfl ?_) | refine AL.set rfl rfl (op_assignI rfl ?_) | refine AL.set rfl rfl (op_extract rfl rfl ?_) | refine AL.set rfl rfl (op_alloc ?_) | refine AL.eff rfl (op_storeW (vs := actC q (unA line).1) rfl rfl rfl rfl (actC_one ar) ?_))
    have x3 := w2.ext ⟨actC q (unA line).1, 40, true⟩
    have w3 := w2.alloc ⟨actC q (unA line).1, 40, true⟩
    have g7 := Heap.alloc_new H2 ⟨actC q (unA line).1, 40, true⟩
    have n3 : (H2.alloc ⟨actC q (unA line).1, 40, true⟩).next = H2.next + 1 := rfl
    refine AWp.heap (h := H2.alloc ⟨actC q (unA line).1, 40, true⟩) rfl ?_
    have n3b : H2.next ≤ (H2.alloc ⟨actC q (unA line).1, 40, true⟩).next := Nat.le_succ _
    have n2b : h.next ≤ H2.next := by omega
    replace n2b := Nat.le_trans n2b n3b
    clear n3b
    generalize H2.next = j7 at g7 n3 ⊢
    generalize H2.alloc ⟨actC q (unA line).1, 40, true⟩ = H3 at g7 x3 w3 n3 n2b ⊢
    have x13 := x2.trans x3
    have e1 := x13.c _ _ q1
    have e2 := q2.pres fun j b hj _ => x13.c j b hj
    have e3 := q3.pres fun j b hj _ => x13.c j b hj
    have oa3 : ActO B2 H3 q (unA line).1 := oa.elem (fun j b hj _ => x3.c j b hj) (fun j b hj _ => x3.c j b hj)
    have ar3 := oa3.r hkl
    have k03 := Kp2.ext (B := B) (i := i) (x1.trans x13) n2b
    have no3 : layP s line = none → (Value.bool false = .bool (layP s line).isSome ∧ ScO B i H3 ((layP s line).getD s) ∧ Kp2 B i h H3) := fun e => by
      rw [e]; exact ⟨rfl, ⟨vg, va, e1, e2, e3⟩, k03⟩
    obtain ⟨rows3, d13, d23, d33⟩ := e3.ex
    cases hu : unlineP line with
    | none =>
      rw [hu] at hlp hua
      simp only at hlp hua
      have h4 : (unA line).2 = 4 := by rw [hua]
      refine AWp.drawR mixed (by kernel_rfl) ?_
      rw [h4]
      repeat' (first | refine DAL.skip rfl rfl rfl ?_ | refine DAL.nil ?_ | refine DAL.r rfl rfl rfl (fun h' hx hn => op_moveI rfl ⟨rfl, rfl⟩) ?_ | refine DAL.r rfl rfl rfl (fun h' hx hn => op_moveB rfl ⟨rfl, rfl⟩) ?_ | refine DAL.r rfl rfl rfl (fun h' hx hn => op_intT rfl rfl rfl (by omega) ⟨rfl, rfl⟩) ?_ | refine DAL.r rfl rfl rfl (fun h' hx hn => op_pick (v := .bool _) rfl rfl ⟨rfl, rfl⟩) ?_)
      repeat' (first | refine AL.nil ?_ | refine AWp.seq ?_ | refine AWp.region ?_ | refine AWp.condT rfl ?_ | refine AWp.ret ?_ | refine AL.set rfl rfl (op_assignB rfl ?_))
      exact ⟨_, ResV.tmp rfl, no3 hlp⟩
    | some a =>
      rw [hu] at hlp hua
      simp only at hlp hua
      rw [hua] at g7 oa3 ar3
      have h4 : (unA line).2 = 0 := by rw [hua]
      have hka : a.keep.length ≤ 1000 := by
        have hml := (unlineP_iff line a).1 hu
        have hq := (may_iff (by omega) (by omega) a).1 hml.1
        have := hq.2.2.2.2.2.2.2.2
        unfold kp at this
        rw [Bool.and_eq_true] at this
        have := of_decide_eq_true this.2
        omega
      have cm := fun (h' : Heap) (hx : Ext H3 h') => mayIn_c s.setup vg q a h' (e2.rg.ext hx) (ar3.ext hx)
      cases hmi : mayIn s.setup a with
      | false =>
        rw [if_neg fun e => by rw [hmi] at e; cases e.1] at hlp
        rw [hmi] at cm
        refine AWp.drawR mixed (by kernel_rfl) ?_
        rw [h4]
        repeat' (first | refine DAL.skip rfl rfl rfl ?_ | refine DAL.nil ?_ | refine DAL.r rfl rfl rfl (fun h' hx hn => op_moveI rfl ⟨rfl, rfl⟩) ?_ | refine DAL.r rfl rfl rfl (fun h' hx hn => op_moveB rfl ⟨rfl, rfl⟩) ?_ | refine DAL.r rfl rfl rfl (fun h' hx hn => op_moveP rfl ⟨rfl, rfl⟩) ?_ | refine DAL.r rfl rfl rfl (fun h' hx hn => op_nilCheck rfl ⟨rfl, rfl⟩) ?_ | refine DAL.r rfl rfl rfl (fun h' hx hn => op_fa rfl ⟨rfl, rfl⟩) ?_ | refine DAL.r rfl rfl rfl (fun h' hx hn => op_loadA (sz := 5) rfl rfl (hx.c _ _ e1) (Nat.le_of_ble_eq_true rfl) ⟨rfl, rfl⟩) ?_ | refine DAL.r rfl rfl rfl (fun h' hx hn => op_loadA (sz := 33) rfl rfl (hx.c _ _ g7) (Nat.le_refl _) ⟨rfl, rfl⟩) ?_ | refine DAL.r rfl rfl rfl (fun h' hx hn => op_callS rfl rfl (cm h' hx) ⟨rfl, rfl⟩) ?_ | refine DAL.r rfl rfl rfl (fun h' hx hn => op_intF rfl rfl rfl (by omega) ⟨rfl, rfl⟩) ?_ | refine DAL.r rfl rfl rfl (fun h' hx hn => op_not rfl ⟨rfl, rfl⟩) ?_ | refine DAL.r rfl rfl rfl (fun h' hx hn => op_pick (v := .bool _) rfl rfl ⟨rfl, rfl⟩) ?_)
        repeat' (first | refine AL.nil ?_ | refine AWp.seq ?_ | refine AWp.region ?_ | refine AWp.condT rfl ?_ | refine AWp.ret ?_ | refine AL.set rfl rfl (op_assignB rfl ?_))
        exact ⟨_, ResV.tmp rfl, no3 hlp⟩
      | true =>
        rw [hmi] at cm
        by_cases hfull : s.acts.length < 65536
        · rw [if_pos ⟨hmi, hfull⟩] at hlp
          refine AWp.drawR mixed (by kernel_rfl) ?_
          rw [h4]
          repeat' (first | refine DAL.nil ?_ | refine DAL.r rfl rfl rfl (fun h' hx hn => op_moveI rfl ⟨rfl, rfl⟩) ?_ | refine DAL.r rfl rfl rfl (fun h' hx hn => op_moveB rfl ⟨rfl, rfl⟩) ?_ | refine DAL.r rfl rfl rfl (fun h' hx hn => op_moveP rfl ⟨rfl, rfl⟩) ?_ | refine DAL.r rfl rfl rfl (fun h' hx hn => op_nilCheck rfl ⟨rfl, rfl⟩) ?_ | refine DAL.r rfl rfl rfl (fun h' hx hn => op_fa rfl ⟨rfl, rfl⟩) ?_ | refine DAL.r rfl rfl rfl (fun h' hx hn => op_loadA (sz := 5) rfl rfl (hx.c _ _ e1) (Nat.le_of_ble_eq_true rfl) ⟨rfl, rfl⟩) ?_ | refine DAL.r rfl rfl rfl (fun h' hx hn => op_loadA (sz := 33) rfl rfl (hx.c _ _ g7) (Nat.le_refl _) ⟨rfl, rfl⟩) ?_ | refine DAL.r rfl rfl rfl (fun h' hx hn => op_callS rfl rfl (cm h' hx) ⟨rfl, rfl⟩) ?_ | refine DAL.r rfl rfl rfl (fun h' hx hn => op_load rfl rfl (hx.c _ _ e1) rfl ⟨rfl, rfl⟩) ?_ | refine DAL.r rfl rfl rfl (fun h' hx hn => op_lenN (d13.rn.ext hx) rfl ⟨rfl, rfl⟩) ?_ | refine DAL.r rfl rfl rfl (fun h' hx hn => op_intF rfl rfl rfl (by omega) ⟨rfl, rfl⟩) ?_ | refine DAL.r rfl rfl rfl (fun h' hx hn => op_not rfl ⟨rfl, rfl⟩) ?_ | refine DAL.r rfl rfl rfl (fun h' hx hn => op_pick (v := .bool _) rfl rfl ⟨rfl, rfl⟩) ?_)
          repeat (first | refine AWp.seq ?_ | refine AWp.condF rfl ?_ | refine AWp.skip ?_)
          refine AWp.tree (t := OT.seq [(0, .P), (1, .R), (2, .R), (3, .R), (4, .R), (5, .R), (6, .X), (7, .W), (8, .P), (9, .P), (10, .W)] .nil) mixed (by kernel_rfl) ?_
          repeat (first | refine TAL.r rfl rfl rfl (fun h' hx hn => op_moveP rfl ⟨rfl, rfl⟩) ?_ | refine TAL.r rfl rfl rfl (fun h' hx hn => op_nilCheck rfl ⟨rfl, rfl⟩) ?_ | refine TAL.r rfl rfl rfl (fun h' hx hn => op_fa rfl ⟨rfl, rfl⟩) ?_ | refine TAL.r rfl rfl rfl (fun h' hx hn => op_load rfl rfl (hx.c _ _ e1) rfl ⟨rfl, rfl⟩) ?_ | refine TAL.r rfl rfl rfl (fun h' hx hn => op_loadA (sz := 33) rfl rfl (hx.c _ _ g7) (Nat.le_refl _) ⟨rfl, rfl⟩) ?_ | refine TAL.p rfl rfl rfl (fun h' hn => op_moveP rfl ⟨rfl, rfl⟩) ?_)
          refine TAL.x rfl rfl rfl (op_rowN1 (sz := 33) (row := actC q a) (by decide) (by decide) rfl rfl ⟨w3.ext _, ?_⟩)
          have gr := Heap.alloc_new H3 ⟨actC q a, 40, true⟩
          have xr := w3.ext ⟨actC q a, 40, true⟩
          have wr := w3.alloc ⟨actC q a, 40, true⟩
          have nr : (H3.alloc ⟨actC q a, 40, true⟩).next = H3.next + 1 := rfl
          generalize H3.alloc ⟨actC q a, 40, true⟩ = H4 at gr xr wr nr ⊢
          have rb : RN 33 H4 (.slice (some ⟨H3.next, 0, some 33⟩) 1 1) [actC q a] := RN.row1 rfl gr
          have d14 := d13.ext xr
          refine TAL.w rfl rfl rfl (op_appendN (m := 1) (B := B) (e := 40) (news := [actC q a]) rfl wr (by omega) d14 rfl rfl rb.src rfl (by intro w hw; rw [List.mem_singleton.1 hw]; rfl) (by simpa using actC_one ar3) (by rw [d23]; simp only [maxLen]; omega) (by rw [d23]; omega) ?_)
          intro u' H5 o5 _ k5 wf5 n5
          have p5 := keeps_el k5 d14
          have e5 := p5 _ _ (xr.c _ _ e1) (.inr scr_el.2.2.1)
          repeat (first | refine TAL.p rfl rfl rfl (fun h' hn => op_nilCheck rfl ⟨rfl, rfl⟩) ?_ | refine TAL.p rfl rfl rfl (fun h' hn => op_fa rfl ⟨rfl, rfl⟩) ?_)
          refine TAL.w0 rfl rfl (op_store (b := scrB vg va s.setup) rfl rfl o5.one e5 rfl (by exact Nat.le_of_ble_eq_true rfl) ?_)
          refine TAL.nil ?_
          repeat (first | refine AL.nil ?_ | refine AWp.seq ?_ | refine AWp.region ?_ | refine AWp.ret ?_ | refine AL.set rfl rfl (op_assignB rfl ?_))
          refine ⟨_, ResV.tmp rfl, by rw [hlp]; rfl, ?_, (k03.trans (Kp2.ext xr (by omega))).trans ((Kp2.act k5 d14 n5).trans (Kp2.set _ _))⟩
          rw [hlp]
          have sg : GO B H5 vg s.setup.groups := (e2.pres fun j b hj _ => xr.c j b hj).pres fun j b hj he => p5 j b hj (.inr (by rcases he with he | he <;> rw [he] <;> decide))
          have sa : AO B H5 u' (s.acts ++ [a]) := by
            refine ⟨⟨rows3 ++ [actC q a], o5, by simp [d23], fun k w g hw hg => ?_⟩, by rw [List.length_append, List.length_cons, List.length_nil]; omega, fun g hg => ?_⟩
            · rcases Nat.lt_or_ge k rows3.length with hk | hk
              · rw [List.getElem?_append_left hk] at hw
                rw [List.getElem?_append_left (by omega)] at hg
                obtain ⟨q', er, B', h4⟩ := d33 k w g hw hg
                exact ⟨q', er, B', h4.elem (fun j b hj he => p5 j b (xr.c j b hj) (.inr (by rw [he]; decide))) (fun j b hj he => p5 j b (xr.c j b hj) (.inr (by rw [he]; decide)))⟩
              · rw [List.getElem?_append_right hk] at hw
                rw [List.getElem?_append_right (by omega)] at hg
                have hk0 : k - rows3.length = 0 := by
                  have := (List.getElem?_eq_some_iff.1 hw).1
                  simp at this; omega
                rw [hk0] at hw
                rw [show k - s.acts.length = 0 by omega] at hg
                simp at hw hg
                subst hw hg
                exact ⟨q, rfl, B2, oa3.elem (fun j b hj he => p5 j b (xr.c j b hj) (.inr (by rw [he]; decide))) (fun j b hj he => p5 j b (xr.c j b hj) (.inr (by rw [he]; decide)))⟩
            · rcases List.mem_append.1 hg with hg | hg
              · exact e3.all g hg
              · rw [List.mem_singleton.1 hg]; exact hka
          exact ⟨vg, u', Heap.set_at _ _ _, sg.set e5 rfl, sa.set e5 rfl⟩
        · rw [if_neg fun e => hfull e.2] at hlp
          refine AWp.drawR mixed (by kernel_rfl) ?_
          rw [h4]
          repeat' (first | refine DAL.nil ?_ | refine DAL.r rfl rfl rfl (fun h' hx hn => op_moveI rfl ⟨rfl, rfl⟩) ?_ | refine DAL.r rfl rfl rfl (fun h' hx hn => op_moveB rfl ⟨rfl, rfl⟩) ?_ | refine DAL.r rfl rfl rfl (fun h' hx hn => op_moveP rfl ⟨rfl, rfl⟩) ?_ | refine DAL.r rfl rfl rfl (fun h' hx hn => op_nilCheck rfl ⟨rfl, rfl⟩) ?_ | refine DAL.r rfl rfl rfl (fun h' hx hn => op_fa rfl ⟨rfl, rfl⟩) ?_ | refine DAL.r rfl rfl rfl (fun h' hx hn => op_loadA (sz := 5) rfl rfl (hx.c _ _ e1) (Nat.le_of_ble_eq_true rfl) ⟨rfl, rfl⟩) ?_ | refine DAL.r rfl rfl rfl (fun h' hx hn => op_loadA (sz := 33) rfl rfl (hx.c _ _ g7) (Nat.le_refl _) ⟨rfl, rfl⟩) ?_ | refine DAL.r rfl rfl rfl (fun h' hx hn => op_callS rfl rfl (cm h' hx) ⟨rfl, rfl⟩) ?_ | refine DAL.r rfl rfl rfl (fun h' hx hn => op_load rfl rfl (hx.c _ _ e1) rfl ⟨rfl, rfl⟩) ?_ | refine DAL.r rfl rfl rfl (fun h' hx hn => op_lenN (d13.rn.ext hx) rfl ⟨rfl, rfl⟩) ?_ | refine DAL.r rfl rfl rfl (fun h' hx hn => op_intT rfl rfl rfl (by omega) ⟨rfl, rfl⟩) ?_ | refine DAL.r rfl rfl rfl (fun h' hx hn => op_intF rfl rfl rfl (by omega) ⟨rfl, rfl⟩) ?_ | refine DAL.r rfl rfl rfl (fun h' hx hn => op_not rfl ⟨rfl, rfl⟩) ?_ | refine DAL.r rfl rfl rfl (fun h' hx hn => op_pick (v := .bool _) rfl rfl ⟨rfl, rfl⟩) ?_)
          repeat' (first | refine AL.nil ?_ | refine AWp.seq ?_ | refine AWp.region ?_ | refine AWp.condT rfl ?_ | refine AWp.ret ?_ | refine AL.set rfl rfl (op_assignB rfl ?_))
          exact ⟨_, ResV.tmp rfl, no3 hlp⟩
end Go.Proofs.YtigmojilaadbhaaGreatDoor
