/-
  Texts of one claim, merged: 3 parts.
-/
import Derived.Test.YtnioldkmckmajaaRows
import Derived.Test.YtnioldkmckmajaaMnm
import Derived.Test.YtnioldkmckmajaaMnj
import Derived.Test.YtnioldkmckmajaaMnd
set_option maxHeartbeats 16000000
/-
  Disks: is there one; names; a file's bytes.
-/
namespace Go.Proofs.Ytnioldkmckmajaa.Dk
open Go Go.Eng Go.Dsk
attribute [local irreducible] AWp AL DAL AOp
instance i_TyD_int_DskA : TyD Try.prog 3 (.int .i64) := ⟨Try.underlying3⟩
instance i_TyD_uint8_DskA : TyD Try.prog 5 (.int .u8) := ⟨Try.underlying5⟩
instance i_TyD_bool_DskA : TyD Try.prog 4 .bool := ⟨Try.underlying4⟩
instance i_TyD_string_DskA : TyD Try.prog 9 .string := ⟨Try.underlying9⟩
instance i_TyD_api_Errno_DskA : TyD Try.prog 36 (.int .i64) := ⟨Try.underlying36⟩
instance i_TyD_Sl_uint8_DskA : TyD Try.prog 49 (.slice 5) := ⟨Try.underlying49⟩
instance i_TyD_Sl_string_DskA : TyD Try.prog 113 (.slice 9) := ⟨Try.underlying113⟩
instance i_TyD_map_string_disk_file_DskA : TyD Try.prog 66 (.map 9 87) := ⟨Try.underlying66⟩
instance i_TyD_P_disk_Disk_DskA : TyD Try.prog 23 (.pointer 68) := ⟨Try.underlying23⟩
abbrev fd (n : String) (t o : Nat) (p : String) (b : Nat) : Field := { name := n, type := t, offset := o, embedded := false, tag := "", pkgPath := p, byteOffset := b }
instance i_TyD_disk_file_DskA : TyD Try.prog 87 (.struct #[fd "sure" 9 0 "hectare/disk" 0, fd "loose" 9 1 "hectare/disk" 16]) := ⟨Try.underlying87⟩
instance i_TyI_int_DskA : TyI Try.prog 3 1 8 (.int .i64 0) := ⟨info_of (by kernel_rfl), rfl, rfl⟩
instance i_TyI_uint8_DskA : TyI Try.prog 5 1 1 (.int .u8 0) := ⟨info_of (by kernel_rfl), rfl, rfl⟩
instance i_TyI_string_DskA : TyI Try.prog 9 1 16 (.string ⟨#[]⟩) := ⟨info_of (by kernel_rfl), rfl, rfl⟩
instance i_TyI_bool_DskA : TyI Try.prog 4 1 1 (.bool false) := ⟨info_of (by kernel_rfl), rfl, rfl⟩
instance i_TyI_api_Errno_DskA : TyI Try.prog 36 1 8 (.int .i64 0) := ⟨info_of (by kernel_rfl), rfl, rfl⟩
instance i_TyI_Sl_uint8_DskA : TyI Try.prog 49 1 24 (.slice none 0 0) := ⟨info_of (by kernel_rfl), rfl, rfl⟩
instance i_TyI_P_disk_Disk_DskA : TyI Try.prog 23 1 8 (.pointer none) := ⟨info_of (by kernel_rfl), rfl, rfl⟩
instance i_TyI_map_string_disk_file_DskA : TyI Try.prog 66 1 8 (.map none) := ⟨info_of (by kernel_rfl), rfl, rfl⟩
instance i_TyI_disk_file_DskA : TyI Try.prog 87 2 32 (.agg #[.string ⟨#[]⟩, .string ⟨#[]⟩]) := ⟨info_of (by kernel_rfl), rfl, rfl⟩
instance i_TyI_disk_Disk_DskA : TyI Try.prog 68 3 24 (.agg #[.int .i64 0, .int .i64 0, .map none]) := ⟨info_of (by kernel_rfl), rfl, rfl⟩
instance i_FAd_disk_Disk_0_0_DskA : FAd Try.prog 68 0 0 := FAd.mk' (ft := 3) Try.underlying68 rfl rfl rfl rfl
instance i_FAd_disk_Disk_1_1_DskA : FAd Try.prog 68 1 1 := FAd.mk' (ft := 3) Try.underlying68 rfl rfl rfl rfl
instance i_FAd_disk_Disk_2_2_DskA : FAd Try.prog 68 2 2 := FAd.mk' (ft := 66) Try.underlying68 rfl rfl rfl rfl
instance i_FAd_disk_file_0_0_DskA : FAd Try.prog 87 0 0 := FAd.mk' (ft := 9) Try.underlying87 rfl rfl rfl rfl
instance i_FAd_disk_file_1_1_DskA : FAd Try.prog 87 1 1 := FAd.mk' (ft := 9) Try.underlying87 rfl rfl rfl rfl
instance i_FnC__cP_hectare_disk_Diskd_on_DskA : FnC Try.prog 59 := ⟨Try.f59, Try.func59, by kernel_rfl, by kernel_rfl⟩
instance i_FnC_hectare_disk_good_DskA : FnC Try.prog 79 := ⟨Try.f79, Try.func79, by kernel_rfl, by kernel_rfl⟩
instance i_FnC_hectare_disk_good_1_DskA : FnC Try.prog 87 := ⟨Try.f87, Try.func87, by kernel_rfl, by kernel_rfl⟩
instance i_FnC_strings_ContainsFunc_DskA : FnC Try.prog 88 := ⟨Try.f88, Try.func88, by kernel_rfl, by kernel_rfl⟩
instance i_FnC_strings_IndexFunc_DskA : FnC Try.prog 90 := ⟨Try.f90, Try.func90, by kernel_rfl, by kernel_rfl⟩
instance i_FnC_strings_indexFunc_DskA : FnC Try.prog 92 := ⟨Try.f92, Try.func92, by kernel_rfl, by kernel_rfl⟩
instance i_FnC__chectare_disk_filed_all_DskA : FnC Try.prog 57 := ⟨Try.f57, Try.func57, by kernel_rfl, by kernel_rfl⟩
abbrev dskB (room used : Int) (m : Option Nat) : Blk := ⟨[.int .i64 room, .int .i64 used, .map m], 68, true⟩
abbrev ptr (i : Nat) : Value := .pointer (some ⟨i, 0, none⟩)
theorem on_c (i : Nat) (room used : Int) (m : Option Nat) (h : Heap) (hi : h.get i = some (dskB room used m)) : ACalls Try.prog 59 [ptr i] h fun u h' => u = .bool m.isSome ∧ h' = h := by
  refine ACalls.body Try.func59 rfl rfl ?_
  repeat (first | refine AL.nil ?_ | refine AWp.seq ?_ | refine AWp.region ?_ | refine AWp.ret ?_ | refine AL.set rfl rfl (op_moveB rfl ?_) | refine AL.set rfl rfl (op_moveP rfl ?_) | refine AL.set rfl rfl (op_assignB rfl ?_) | refine AL.set rfl rfl (op_nePtrNil rfl rfl ?_) | refine AL.set rfl rfl (op_nilCheck rfl ?_) | refine AL.set rfl rfl (op_fa rfl ?_) | refine AL.set rfl rfl (op_load rfl rfl hi rfl ?_) | refine AL.set rfl rfl (op_neMapNil rfl rfl ?_) | refine AL.set rfl rfl (op_pick rfl rfl ?_))
  exact ⟨_, ResV.tmp rfl, rfl, rfl⟩
theorem on_nil (h : Heap) : ACalls Try.prog 59 [.pointer none] h fun u h' => u = .bool false ∧ h' = h := by
  refine ACalls.body Try.func59 rfl rfl ?_
  repeat (first | refine AL.nil ?_ | refine AL.skip rfl rfl ?_ | refine AWp.seq ?_ | refine AWp.region ?_ | refine AWp.ret ?_ | refine AL.set rfl rfl (op_moveB rfl ?_) | refine AL.set rfl rfl (op_moveP rfl ?_) | refine AL.set rfl rfl (op_assignB rfl ?_) | refine AL.set rfl rfl (op_nePtrNil rfl rfl ?_) | refine AL.set rfl rfl (op_pick (v := .bool false) rfl rfl ?_))
  exact ⟨_, ResV.tmp rfl, rfl, rfl⟩
theorem bad_c (c : Nat) (h : Heap) (hc : c ≤ 2147483647) : ACalls Try.prog 87 [.int .i32 (c : Nat)] h fun u h' => u = .bool (decide (c < 33 ∨ 126 < c)) ∧ h' = h := by
  refine ACalls.body Try.func87 rfl rfl ?_
  by_cases h1 : c < 33
  · repeat (first | refine AL.nil ?_ | refine AL.skip rfl rfl ?_ | refine AWp.seq ?_ | refine AWp.region ?_ | refine AWp.ret ?_ | refine AL.set rfl rfl (op_moveI rfl ?_) | refine AL.set rfl rfl (op_moveB rfl ?_) | refine AL.set rfl rfl (op_assignB rfl ?_) | refine AL.set rfl rfl (op_intT rfl rfl rfl (by omega) ?_) | refine AL.set rfl rfl (op_pick (v := .bool true) rfl rfl ?_))
    exact ⟨_, ResV.tmp rfl, by rw [decide_eq_true (.inl h1)]; rfl, rfl⟩
  · by_cases h2 : 126 < c
    · repeat (first | refine AL.nil ?_ | refine AWp.seq ?_ | refine AWp.region ?_ | refine AWp.ret ?_ | refine AL.set rfl rfl (op_moveI rfl ?_) | refine AL.set rfl rfl (op_moveB rfl ?_) | refine AL.set rfl rfl (op_assignB rfl ?_) | refine AL.set rfl rfl (op_intT rfl rfl rfl (by omega) ?_) | refine AL.set rfl rfl (op_intF rfl rfl rfl (by omega) ?_) | refine AL.set rfl rfl (op_pick (v := .bool true) rfl rfl ?_))
      exact ⟨_, ResV.tmp rfl, by rw [decide_eq_true (.inr h2)]; rfl, rfl⟩
    · repeat (first | refine AL.nil ?_ | refine AWp.seq ?_ | refine AWp.region ?_ | refine AWp.ret ?_ | refine AL.set rfl rfl (op_moveI rfl ?_) | refine AL.set rfl rfl (op_moveB rfl ?_) | refine AL.set rfl rfl (op_assignB rfl ?_) | refine AL.set rfl rfl (op_intF rfl rfl rfl (by omega) ?_) | refine AL.set rfl rfl (op_pick (v := .bool false) rfl rfl ?_))
      exact ⟨_, ResV.tmp rfl, by rw [decide_eq_false (by omega)]; rfl, rfl⟩
abbrev badV : Value := .func (.func 87) #[] #[]
theorem okByte_take {s : List UInt8} {p : Nat} {b : UInt8} (hp : (s.take p).all okByte = true) (hb : s[p]? = some b) (hk : okByte b = true) : (s.take (p + 1)).all okByte = true := by
  rw [List.take_add_one, hb, List.all_append, hp]
  simp [hk]
theorem all_not {s : List UInt8} {p : Nat} {b : UInt8} (hb : s[p]? = some b) (hk : okByte b = false) : s.all okByte = false := by
  cases ha : s.all okByte with
  | false => rfl
  | true =>
    have := List.all_eq_true.1 ha b (List.mem_of_getElem? hb)
    rw [hk] at this
    cases this
set_option maxHeartbeats 1000000 in
theorem indexf_c (s : List UInt8) (h : Heap) (_hl : s.length ≤ 1000000000) : ACalls Try.prog 92 [.string (bstr s), badV, .bool true] h fun u h' => ∃ z : Int, u = .int .i64 z ∧ (z = -1 ∨ 0 ≤ z) ∧ decide (0 ≤ z) = !s.all okByte ∧ h' = h := by
  refine ACalls.wf fun wf => ACalls.reset ?_
  refine ACalls.body Try.func92 rfl rfl ?_
  repeat (first | refine AL.nil ?_ | refine AWp.seq ?_ | refine AWp.region ?_ | refine AWp.block ?_ | refine AL.set rfl rfl (op_moveStr rfl ?_) | refine AL.set rfl rfl (op_assignI rfl ?_) | refine AL.set rfl rfl (op_rangeStr rfl ?_))
  refine AWp.loop (α := Nat × Heap) (fun s' => [(1, badV), (2, .bool true), (10, ptr h.next)]) (fun s' => s'.2) (fun s' => s'.1 ≤ s.length ∧ (s.take s'.1).all okByte = true ∧ s'.2.obj h.next = some (.strIter (bstr s) s'.1) ∧ Ext h s'.2 ∧ WF s'.2) (fun s' => s.length - s'.1) (0, h.allocO (.strIter (bstr s) 0))
    ⟨Nat.zero_le _, by simp, Heap.allocO_new _ _, wf.extO _, wf.allocO _⟩ (Weak.same (EW.cons rfl (EW.cons rfl (EW.cons rfl EW.nil)))) ?_
  rintro ⟨p, H⟩ ⟨hp1, hp2, hp3, hp4, hp5⟩
  replace hp1 : p ≤ s.length := hp1
  replace hp2 : (s.take p).all okByte = true := hp2
  replace hp3 : H.obj h.next = some (.strIter (bstr s) p) := hp3
  replace hp4 : Ext h H := hp4
  replace hp5 : WF H := hp5
  show AWp _ _ _ _ [(1, badV), (2, .bool true), (10, ptr h.next)] H
  repeat (first | refine AWp.seq ?_ | refine AWp.region ?_)
  refine AL.set rfl rfl (op_nextStr rfl hp3 ?_ ?_)
  · intro hge
    repeat (first | refine AL.nil ?_ | refine AWp.seq ?_ | refine AWp.region ?_ | refine AWp.condF rfl ?_ | refine AWp.ret ?_ | refine AWp.exit ?_ | refine AL.set rfl rfl (op_assignI rfl ?_) | refine AL.set rfl rfl (op_extract rfl rfl ?_))
    refine ⟨_, ResV.tmp rfl, rfl, hp4, -1, rfl, .inl rfl, ?_, rfl⟩
    have : s.take p = s := List.take_of_length_le hge
    rw [this] at hp2
    rw [hp2]
    rfl
  · intro b c d hb hlo hhi hc
    have hlt : p < s.length := (List.getElem?_eq_some_iff.1 hb).1
    have hx : Ext h (H.setO h.next (.strIter (bstr s) (p + d))) := wf.ext_setO hp4 (Nat.le_refl _) _
    have hg : (H.setO h.next (.strIter (bstr s) (p + d))).obj h.next = some (.strIter (bstr s) (p + d)) := Heap.setO_at _ _ _
    have hw : WF (H.setO h.next (.strIter (bstr s) (p + d))) := hp5.setO (hp5.ltO hp3) _
    generalize H.setO h.next (.strIter (bstr s) (p + d)) = H2 at hx hg hw ⊢
    by_cases hk : okByte b = true
    · have hk2 : 33 ≤ b.toNat ∧ b.toNat ≤ 126 := of_decide_eq_true hk
      obtain ⟨rfl, rfl⟩ := hlo (by omega)
      have cb := bad_c b.toNat H2 hc
      rw [decide_eq_false (by omega)] at cb
      repeat (first | refine AL.nil ?_ | refine AWp.seq ?_ | refine AWp.region ?_ | refine AWp.condT rfl ?_ | refine AWp.condF rfl ?_ | refine AWp.block ?_ | refine AWp.skip ?_ | refine AL.set rfl rfl (op_moveI rfl ?_) | refine AL.set rfl rfl (op_moveB rfl ?_) | refine AL.set rfl rfl (op_moveF rfl ?_) | refine AL.set rfl rfl (op_assignI rfl ?_) | refine AL.set rfl rfl (op_extract rfl rfl ?_) | refine AL.set rfl rfl (op_callS rfl rfl cb ?_) | refine AL.set rfl rfl (op_boolEq rfl rfl ?_))
      exact ⟨(p + 1, H2), ⟨by show p + 1 ≤ _; omega, okByte_take hp2 hb hk, hg, hx, hw⟩, by show s.length - (p + 1) < s.length - p; omega, Weak.same (EW.cons rfl (EW.cons rfl (EW.cons rfl EW.nil)))⟩
    · have hk2 : ¬ (33 ≤ b.toNat ∧ b.toNat ≤ 126) := fun e => hk (decide_eq_true e)
      have hcc : c < 33 ∨ 126 < c := by
        by_cases h8 : b.toNat < 128
        · obtain ⟨rfl, _⟩ := hlo h8; omega
        · have := hhi (by omega); omega
      have cb := bad_c c H2 hc
      rw [decide_eq_true hcc] at cb
      repeat (first | refine AL.nil ?_ | refine AWp.seq ?_ | refine AWp.region ?_ | refine AWp.condT rfl ?_ | refine AWp.ret ?_ | refine AWp.block ?_ | refine AWp.skip ?_ | refine AL.set rfl rfl (op_moveI rfl ?_) | refine AL.set rfl rfl (op_moveB rfl ?_) | refine AL.set rfl rfl (op_moveF rfl ?_) | refine AL.set rfl rfl (op_assignI rfl ?_) | refine AL.set rfl rfl (op_extract rfl rfl ?_) | refine AL.set rfl rfl (op_callS rfl rfl cb ?_) | refine AL.set rfl rfl (op_boolEq rfl rfl ?_))
      refine ⟨_, ResV.tmp rfl, rfl, hx, (p : Nat), rfl, .inr (by omega), ?_, rfl⟩
      rw [all_not hb (by simpa using hk)]
      exact decide_eq_true (by omega)
theorem indexF_c (s : List UInt8) (h : Heap) (hl : s.length ≤ 1000000000) : ACalls Try.prog 90 [.string (bstr s), badV] h fun u h' => ∃ z : Int, u = .int .i64 z ∧ (z = -1 ∨ 0 ≤ z) ∧ decide (0 ≤ z) = !s.all okByte ∧ h' = h := by
  refine ACalls.body Try.func90 rfl rfl ?_
  repeat (first | refine AL.nil ?_ | refine AWp.seq ?_ | refine AWp.region ?_ | refine AL.set rfl rfl (op_moveStr rfl ?_) | refine AL.set rfl rfl (op_moveF rfl ?_) | refine AL.set rfl rfl (op_assignI rfl ?_) | refine AL.set rfl rfl (op_call rfl rfl ((indexf_c s h hl).mono ?_)))
  rintro _ _ ⟨z, rfl, h1, h2, rfl⟩
  repeat (first | refine AL.nil ?_ | refine AWp.ret ?_ | refine AL.set rfl rfl (op_assignI rfl ?_))
  exact ⟨_, ResV.tmp rfl, z, rfl, h1, h2, rfl⟩
theorem containsF_c (s : List UInt8) (h : Heap) (hl : s.length ≤ 1000000000) : ACalls Try.prog 88 [.string (bstr s), badV] h fun u h' => u = .bool (!s.all okByte) ∧ h' = h := by
  refine ACalls.body Try.func88 rfl rfl ?_
  repeat (first | refine AL.nil ?_ | refine AWp.seq ?_ | refine AWp.region ?_ | refine AL.set rfl rfl (op_moveStr rfl ?_) | refine AL.set rfl rfl (op_moveF rfl ?_) | refine AL.set rfl rfl (op_assignB rfl ?_) | refine AL.set rfl rfl (op_call rfl rfl ((indexF_c s h hl).mono ?_)))
  rintro _ _ ⟨z, rfl, h1, h2, rfl⟩
  repeat (first | refine AL.nil ?_ | refine AWp.ret ?_ | refine AL.set rfl rfl (op_assignB rfl ?_) | refine AL.set rfl rfl (op_int rfl rfl rfl ?_))
  refine ⟨_, ResV.tmp rfl, ?_, rfl⟩
  rw [← h2]
  rfl
theorem good_nil {s : List UInt8} (h : s = []) : goodN s = false := by rw [h]; rfl
theorem good_long {s : List UInt8} (h : 32 < s.length) : goodN s = false := by unfold goodN; rw [decide_eq_false (by omega)]; rfl
theorem good_else {s : List UInt8} (h0 : s ≠ []) (h : ¬ 32 < s.length) : goodN s = s.all okByte := by
  have : s.length ≠ 0 := fun e => h0 (List.eq_nil_of_length_eq_zero e)
  unfold goodN
  rw [decide_eq_true (by omega)]
  rfl
set_option maxHeartbeats 1000000 in
theorem good_c (v : Value) (ll : List (List UInt8)) (h : Heap) (hr : RS h v (sv ll)) (hl : ∀ s ∈ ll, s.length ≤ 4611686018427387904) (hn : ll.length ≤ 1000000) : ACalls Try.prog 79 [v] h fun u h' => u = .bool (ll.all goodN) ∧ h' = h := by
  refine ACalls.wf fun wf => ?_
  refine ACalls.body Try.func79 rfl rfl ?_
  have hsl := sv_length ll
  repeat (first | refine AL.nil ?_ | refine AWp.seq ?_ | refine AWp.region ?_ | refine AWp.block ?_ | refine AWp.label ?_ | refine AWp.scope ?_ | refine AL.set rfl rfl (op_moveI rfl ?_) | refine AL.set rfl rfl (op_assignB rfl ?_) | refine AL.set rfl rfl (op_assignF rfl ?_) | refine AL.set rfl rfl (op_lenR hr rfl ?_) | refine AL.set rfl rfl (op_move (by conv => lhs; whnf) ?_))
  refine AWp.loop (α := Nat) (fun k => [(3, badV), (4, .bool true), (7, v), (8, .int .i64 ((sv ll).length : Nat)), (9, .int .i64 (k : Nat))]) (fun _ => h) (fun k => k ≤ ll.length ∧ (ll.take k).all goodN = true) (fun k => ll.length - k) 0 ⟨Nat.zero_le _, by simp⟩
    (Weak.same (EW.cons rfl (EW.cons rfl (EW.cons rfl (EW.cons rfl (EW.cons rfl EW.nil)))))) ?_
  rintro k ⟨hk1, hk2⟩
  by_cases hlt : k < ll.length
  · obtain ⟨s, hs⟩ : ∃ s, ll[k]? = some s := ⟨_, List.getElem?_eq_getElem hlt⟩
    have hs2 : (sv ll)[((k : Nat) : Int).toNat]? = some (.string (bstr s)) := by simpa using sv_get hs
    have hsz := hl s (List.mem_of_getElem? hs)
    have hbad : goodN s = false → ll.all goodN = false := by
      intro hg
      cases ha : ll.all goodN with
      | false => rfl
      | true =>
        have := List.all_eq_true.1 ha s (List.mem_of_getElem? hs)
        rw [hg] at this; cases this
    have e0 : ∀ {K : Value → Heap → Prop} {ρ : Operand → Value} {x y : Operand} {dst : Option Tmp} {ty t t' : TypeId} {pos : String} {aft : Array Edge} {g : Option (Nat × Bool)}, ρ x = .string (bstr s) → ρ y = .string ⟨#[]⟩ → K (.bool (s == [])) h → AOp Try.prog ⟨dst, .binOp .eql t x y t', ty, pos, aft, g⟩ ρ h K := fun hx hy kk => op_sEqC [] rfl hx hy kk
    repeat (first | refine AL.nil ?_ | refine AWp.seq ?_ | refine AWp.region ?_ | refine AWp.condT rfl ?_ | refine AWp.block ?_ | refine AWp.skip ?_ | refine AL.set rfl rfl (op_intT rfl rfl rfl (by omega) ?_))
    refine AL.set rfl rfl (op_indexR hr rfl rfl (by omega) hs2 ?_)
    intro q hq
    by_cases h0 : s = []
    · have hb : (s == []) = true := by rw [h0]; rfl
      rw [hb] at e0
      rw [hbad (good_nil h0)]
      repeat (first | refine AL.nil ?_ | refine AL.skip rfl rfl ?_ | refine AWp.seq ?_ | refine AWp.region ?_ | refine AWp.condT rfl ?_ | refine AWp.ret ?_ | refine AWp.exit ?_ | refine AL.set rfl rfl (op_moveB rfl ?_) | refine AL.set rfl rfl (op_moveStr rfl ?_) | refine AL.set rfl rfl (op_assignB rfl ?_) | refine AL.set rfl rfl (op_assignStr rfl ?_) | refine AL.set rfl rfl (op_loadR hq rfl rfl ?_) | refine AL.set rfl rfl (e0 rfl rfl ?_) | refine AL.set rfl rfl (op_pick (v := .bool true) rfl rfl ?_))
      exact ⟨_, ResV.tmp rfl, rfl, rfl⟩
    have hb : (s == []) = false := by simpa using h0
    rw [hb] at e0
    by_cases h32 : 32 < s.length
    · rw [hbad (good_long h32)]
      repeat (first | refine AL.nil ?_ | refine AL.skip rfl rfl ?_ | refine AWp.seq ?_ | refine AWp.region ?_ | refine AWp.condT rfl ?_ | refine AWp.ret ?_ | refine AWp.exit ?_ | refine AL.set rfl rfl (op_moveB rfl ?_) | refine AL.set rfl rfl (op_moveStr rfl ?_) | refine AL.set rfl rfl (op_assignB rfl ?_) | refine AL.set rfl rfl (op_assignStr rfl ?_) | refine AL.set rfl rfl (op_loadR hq rfl rfl ?_) | refine AL.set rfl rfl (e0 rfl rfl ?_) | refine AL.set rfl rfl (op_lenSB rfl ?_) | refine AL.set rfl rfl (op_intT rfl rfl rfl (by omega) ?_) | refine AL.set rfl rfl (op_pick (v := .bool true) rfl rfl ?_))
      exact ⟨_, ResV.tmp rfl, rfl, rfl⟩
    have cc := containsF_c s h (by omega)
    cases hg : s.all okByte with
    | false =>
      rw [hbad (by rw [good_else h0 h32]; exact hg)]
      rw [hg] at cc
      repeat (first | refine AL.nil ?_ | refine AWp.seq ?_ | refine AWp.region ?_ | refine AWp.condT rfl ?_ | refine AWp.ret ?_ | refine AWp.exit ?_ | refine AL.set rfl rfl (op_moveB rfl ?_) | refine AL.set rfl rfl (op_moveStr rfl ?_) | refine AL.set rfl rfl (op_moveF rfl ?_) | refine AL.set rfl rfl (op_assignB rfl ?_) | refine AL.set rfl rfl (op_assignStr rfl ?_) | refine AL.set rfl rfl (op_loadR hq rfl rfl ?_) | refine AL.set rfl rfl (e0 rfl rfl ?_) | refine AL.set rfl rfl (op_lenSB rfl ?_) | refine AL.set rfl rfl (op_intF rfl rfl rfl (by omega) ?_) | refine AL.set rfl rfl (op_callS rfl rfl cc ?_) | refine AL.set rfl rfl (op_pick (v := .bool false) rfl rfl ?_) | refine AL.set rfl rfl (op_pick (v := .bool true) rfl rfl ?_))
      exact ⟨_, ResV.tmp rfl, rfl, rfl⟩
    | true =>
      rw [hg] at cc
      repeat (first | refine AL.nil ?_ | refine AWp.seq ?_ | refine AWp.region ?_ | refine AWp.condF rfl ?_ | refine AWp.skip ?_ | refine AL.set rfl rfl (op_moveI rfl ?_) | refine AL.set rfl rfl (op_moveB rfl ?_) | refine AL.set rfl rfl (op_moveStr rfl ?_) | refine AL.set rfl rfl (op_moveF rfl ?_) | refine AL.set rfl rfl (op_assignStr rfl ?_) | refine AL.set rfl rfl (op_loadR hq rfl rfl ?_) | refine AL.set rfl rfl (e0 rfl rfl ?_) | refine AL.set rfl rfl (op_lenSB rfl ?_) | refine AL.set rfl rfl (op_intF rfl rfl rfl (by omega) ?_) | refine AL.set rfl rfl (op_callS rfl rfl cc ?_) | refine AL.set rfl rfl (op_pick (v := .bool false) rfl rfl ?_) | refine AL.set rfl rfl (op_add64 rfl rfl (by omega) ?_))
      refine ⟨k + 1, ⟨hlt, ?_⟩, by omega, Weak.same (EW.cons rfl (EW.cons rfl (EW.cons rfl (EW.cons rfl (EW.cons rfl EW.nil)))))⟩
      rw [List.take_add_one, hs, List.all_append, hk2]
      simp [good_else h0 h32, hg]
  · rw [List.take_of_length_le (by omega)] at hk2
    rw [hk2]
    repeat (first | refine AL.nil ?_ | refine AWp.seq ?_ | refine AWp.region ?_ | refine AWp.condF rfl ?_ | refine AWp.ret ?_ | refine AWp.exit ?_ | refine AL.set rfl rfl (op_moveB rfl ?_) | refine AL.set rfl rfl (op_assignB rfl ?_) | refine AL.set rfl rfl (op_intF rfl rfl rfl (by omega) ?_))
    exact ⟨_, ResV.tmp rfl, rfl, rfl⟩
theorem op_boxF {ρ : Operand → Value} {h : Heap} {K : Value → Heap → Prop} {dst : Option Tmp} {ty : TypeId} {pos : String} {aft : Array Edge} {g : Option (Nat × Bool)} {x : Operand} {f : File} (hx : ρ x = fileV f) (kk : K (ptr h.next) (h.alloc ⟨[.string (bstr f.1), .string (bstr f.2)], 87, true⟩)) :
    AOp Try.prog ⟨dst, .box 87 x, ty, pos, aft, g⟩ ρ h K := op_box (v := fileV f) hx (by intro e; cases e) kk
theorem all_c (f : File) (h : Heap) (hl : f.1.length + f.2.length ≤ 1000000000) : ACalls Try.prog 57 [fileV f] h fun u h' => u = .string (bstr (allF f)) ∧ h' = h := by
  refine ACalls.wf fun wf => ACalls.reset ?_
  refine ACalls.body Try.func57 rfl rfl ?_
  have g1 := Heap.alloc_new h ⟨[.string (bstr f.1), .string (bstr f.2)], 87, true⟩
  repeat (first | refine AL.nil ?_ | refine AWp.seq ?_ | refine AWp.region ?_ | refine AWp.ret ?_ | refine AL.set rfl rfl (op_assignStr rfl ?_) | refine AL.set rfl rfl (op_boxF rfl ?_) | refine AL.set rfl rfl (op_fa rfl ?_) | refine AL.set rfl rfl (op_load rfl rfl g1 rfl ?_) | refine AL.set rfl rfl (op_sCat rfl rfl (by simp only [maxLen]; omega) ?_))
  exact ⟨_, ResV.tmp rfl, rfl, wf.ext _, rfl, rfl⟩
end Go.Proofs.Ytnioldkmckmajaa.Dk
/-
  Disks: a file taken away, a file laid, a file sought.
-/
namespace Go.Proofs.Ytnioldkmckmajaa.Dk
open Go Go.Eng Go.Dsk
attribute [local irreducible] AWp AL DAL AOp
instance i_FnC__cP_hectare_disk_Diskd_drop_DskB : FnC Try.prog 76 := ⟨Try.f76, Try.func76, by kernel_rfl, by kernel_rfl⟩
instance i_FnC__cP_hectare_disk_Diskd_put_DskB : FnC Try.prog 58 := ⟨Try.f58, Try.func58, by kernel_rfl, by kernel_rfl⟩
instance i_FnC__cP_hectare_disk_Diskd_open_DskB : FnC Try.prog 56 := ⟨Try.f56, Try.func56, by kernel_rfl, by kernel_rfl⟩
instance i_FnC__cP_hectare_disk_Diskd_Room_DskB : FnC Try.prog 37 := ⟨Try.f37, Try.func37, by kernel_rfl, by kernel_rfl⟩
instance i_StD_disk_file_DskB : StD Try.prog 87 [(0, 1), (1, 1)] := ⟨_, Try.underlying87, by kernel_rfl⟩
instance i_StD_disk_Disk_DskB : StD Try.prog 68 [(0, 1), (1, 1), (2, 1)] := ⟨_, Try.underlying68, by kernel_rfl⟩
theorem mixed : Try.prog.follows .mixedOrders = true := by kernel_rfl
structure At (h : Heap) (i m room : Nat) (l : FL) (c : Nat) : Prop where
  box : h.get i = some (dskB room (used l : Nat) (some m))
  map : h.obj m = some (.map (ents (kvF l)) c)
  ok : DOk room l c
  big : room ≤ 1048576
def stD (h : Heap) (i m room : Nat) (l : FL) (c : Nat) : Heap := (h.set i (dskB room (used l : Nat) (some m))).setO m (.map (ents (kvF l)) c)
structure Ch (i m : Nat) (h H : Heap) : Prop where
  c : ∀ j b, h.get j = some b → j ≠ i → H.get j = some b
  o : ∀ j b, h.obj j = some b → j ≠ m → H.obj j = some b
  wf : WF H
  nx : h.next ≤ H.next
section
variable {i m room : Nat} {l l' : FL} {c c' : Nat} {h H H' : Heap}
theorem Ch.refl (wf : WF h) : Ch i m h h := ⟨fun _ _ e _ => e, fun _ _ e _ => e, wf, Nat.le_refl _⟩
theorem Ch.ext (k : Ch i m h H) (hx : Ext H H') (wf : WF H') (hn : H.next ≤ H'.next) : Ch i m h H' := ⟨fun j b e n => hx.c j b (k.c j b e n), fun j b e n => hx.o j b (k.o j b e n), wf, Nat.le_trans k.nx hn⟩
theorem Ch.alloc (k : Ch i m h H) (b : Blk) : Ch i m h (H.alloc b) := k.ext (k.wf.ext b) (k.wf.alloc b) (by show H.next ≤ H.next + 1; omega)
theorem Ch.set (k : Ch i m h H) (hi : i < H.next) (b : Blk) : Ch i m h (H.set i b) := ⟨fun j x e n => by rw [Heap.set_other n]; exact k.c j x e n, fun j x e n => k.o j x e n, k.wf.set hi b, k.nx⟩
theorem Ch.setO (k : Ch i m h H) (hm : m < H.next) (o : AObj) : Ch i m h (H.setO m o) := ⟨fun j x e n => k.c j x e n, fun j x e n => by rw [Heap.setO_other n]; exact k.o j x e n, k.wf.setO hm o, k.nx⟩
theorem Ch.setG {j : Nat} (k : Ch i m h H) (wf : WF h) (hj : h.next ≤ j) (hl : j < H.next) (b : Blk) : Ch i m h (H.set j b) := ⟨fun j' x e n => by have := wf.lt e; rw [Heap.set_other (by omega)]; exact k.c j' x e n, fun j' x e n => k.o j' x e n, k.wf.set hl b, k.nx⟩
theorem At.lt (a : At h i m room l c) (wf : WF h) : i < h.next ∧ m < h.next := ⟨wf.lt a.box, wf.ltO a.map⟩
theorem At.st (a : DOk room l' c') (b : room ≤ 1048576) : At (stD h i m room l' c') i m room l' c' := ⟨Heap.set_at _ _ _, Heap.setO_at _ _ _, a, b⟩
theorem st_ch (wf : WF h) (hi : i < h.next) (hm : m < h.next) : Ch i m h (stD h i m room l c) := ((Ch.refl wf).set hi _).setO hm _
theorem fileV_plain (f : File) : plainV (fileV f) = true := by simp [fileV, plainV, scalar]
theorem fileV_bdd (n : Nat) (f : File) : Bdd n (fileV f) := Bdd.plain (fileV_plain f)
theorem st_fin (a : At h i m room l c) (wf : WF h) (k : Ch i m h H) (hi : H.get i = some (dskB room (used l' : Nat) (some m))) (hm : H.obj m = some (.map (ents (kvF l')) c')) {Q : Heap → Prop} (q : Q (stD h i m room l' c')) :
    ∃ ht, ht.next = h.next ∧ WF ht ∧ Ext ht H ∧ (∀ i b, ht.get i = some b → h.get i = some b ∨ ∀ v ∈ b.cells, Bdd h.next v) ∧ (∀ i o, ht.obj i = some o → h.obj i = some o ∨ OBdd h.next o) ∧ Q ht := by
  obtain ⟨li, lm⟩ := a.lt wf
  refine ⟨stD h i m room l' c', rfl, (st_ch wf li lm).wf, ⟨fun j b e => ?_, fun j b e => ?_⟩, fun j b e => ?_, fun j b e => ?_, q⟩
  · by_cases hj : j = i
    · subst hj
      have : (stD h j m room l' c').get j = some (dskB room (used l' : Nat) (some m)) := Heap.set_at _ _ _
      rw [this] at e
      rw [hi, e]
    · have e2 : (stD h i m room l' c').get j = h.get j := Heap.set_other hj
      rw [e2] at e
      exact k.c j b e hj
  · by_cases hj : j = m
    · subst hj
      have : (stD h i j room l' c').obj j = some (.map (ents (kvF l')) c') := Heap.setO_at _ _ _
      rw [this] at e
      rw [hm, e]
    · have e2 : (stD h i m room l' c').obj j = h.obj j := Heap.setO_other hj
      rw [e2] at e
      exact k.o j b e hj
  · by_cases hj : j = i
    · subst hj
      have : (stD h j m room l' c').get j = some (dskB room (used l' : Nat) (some m)) := Heap.set_at _ _ _
      rw [this] at e
      cases e
      right
      intro v hv
      simp only [List.mem_cons, List.not_mem_nil, or_false] at hv
      rcases hv with rfl | rfl | rfl
      · exact Bdd.plain rfl
      · exact Bdd.plain rfl
      · exact ⟨fun _ => ⟨0, 0, 0⟩, _, .map m lm⟩
    · left
      have e2 : (stD h i m room l' c').get j = h.get j := Heap.set_other hj
      rw [← e2]; exact e
  · by_cases hj : j = m
    · subst hj
      have : (stD h i j room l' c').obj j = some (.map (ents (kvF l')) c') := Heap.setO_at _ _ _
      rw [this] at e
      cases e
      right
      intro x hx
      unfold ents kvF at hx
      simp only [List.map_map, List.mem_map] at hx
      obtain ⟨y, _, rfl⟩ := hx
      exact ⟨Bdd.plain rfl, fileV_bdd _ _⟩
    · left
      have e2 : (stD h i m room l' c').obj j = h.obj j := Heap.setO_other hj
      rw [← e2]; exact e
end
theorem op_lookupF {ρ : Operand → Value} {h : Heap} {K : Value → Heap → Prop} {dst : Option Tmp} {ty : TypeId} {pos : String} {aft : Array Edge} {g : Option (Nat × Bool)} {x y : Operand} {i c : Nat} {s : List UInt8} {l : FL} (hx : ρ x = .map (some i)) (hy : ρ y = .string (bstr s))
    (hi : h.obj i = some (.map (ents (kvF l)) c)) (kk : K (fileV (fileOf l s)) h) : AOp Try.prog ⟨dst, .lookup 66 x y false, ty, pos, aft, g⟩ ρ h K := by
  refine op_lookup (z := .agg #[.string ⟨#[]⟩, .string ⟨#[]⟩]) hx hy hi (fileV_plain ([], [])) ?_
  rw [getS_kv]
  unfold fileOf at kk
  cases h1 : getS l s with
  | none => rw [h1] at kk; exact kk
  | some f => rw [h1] at kk; exact kk
theorem op_lookupFOk {ρ : Operand → Value} {h : Heap} {K : Value → Heap → Prop} {dst : Option Tmp} {ty : TypeId} {pos : String} {aft : Array Edge} {g : Option (Nat × Bool)} {x y : Operand} {i c : Nat} {s : List UInt8} {l : FL} (hx : ρ x = .map (some i)) (hy : ρ y = .string (bstr s))
    (hi : h.obj i = some (.map (ents (kvF l)) c)) (kk : K (.tuple #[fileV (fileOf l s), .bool (hasS l s)]) h) : AOp Try.prog ⟨dst, .lookup 66 x y true, ty, pos, aft, g⟩ ρ h K := by
  refine op_lookupOk (z := .agg #[.string ⟨#[]⟩, .string ⟨#[]⟩]) hx hy hi (fileV_plain ([], [])) ?_
  rw [getS_kv]
  unfold fileOf at kk
  cases h1 : getS l s with
  | none =>
    have h2 := getS_none.1 h1
    rw [h1, h2] at kk; exact kk
  | some f =>
    have h2 : hasS l s = true := by
      cases h3 : hasS l s with
      | true => rfl
      | false => rw [getS_none.2 h3] at h1; cases h1
    rw [h1, h2] at kk; exact kk
theorem fileOf_le {room : Nat} {l : FL} {c : Nat} (d : DOk room l c) (s : List UInt8) : (fileOf l s).1.length + (fileOf l s).2.length ≤ room ∧ (allF (fileOf l s)).length ≤ used l := by
  have hu := used_del l s
  have h2 : (allF (fileOf l s)).length = (fileOf l s).1.length + (fileOf l s).2.length := by simp [allF]
  have := d.used
  unfold fileOf at h2 ⊢
  omega
set_option maxHeartbeats 1000000 in
theorem drop_c (i m room : Nat) (l : FL) (c : Nat) (s : List UInt8) (h : Heap) (a : At h i m room l c) : ACalls Try.prog 76 [ptr i, .string (bstr s)] h fun u h' => u = .tuple #[] ∧ h' = stD h i m room (delS l s) c := by
  refine ACalls.wf fun wf => ?_
  refine ACalls.body Try.func76 rfl rfl ?_
  obtain ⟨f1, f2⟩ := fileOf_le a.ok s
  have hb := a.big
  have hud := used_del l s
  have hul := a.ok.used
  have ca := fun h' => all_c (fileOf l s) h' (by omega)
  repeat (first | refine AWp.seq ?_)
  refine AWp.draw (σ := [(0, .R), (1, .R), (2, .R), (3, .R), (4, .R), (5, .R), (6, .R), (7, .R), (8, .R), (9, .R), (10, .R), (11, .R), (12, .R), (13, .R), (14, .R), (15, .W)]) mixed (by kernel_rfl) ?_
  repeat (first | refine DAL.r rfl rfl rfl (fun h' hx hn => op_moveP rfl ⟨rfl, rfl⟩) ?_ | refine DAL.r rfl rfl rfl (fun h' hx hn => op_moveStr rfl ⟨rfl, rfl⟩) ?_ | refine DAL.r rfl rfl rfl (fun h' hx hn => op_nilCheck rfl ⟨rfl, rfl⟩) ?_ | refine DAL.r rfl rfl rfl (fun h' hx hn => op_fa rfl ⟨rfl, rfl⟩) ?_ | refine DAL.r rfl rfl rfl (fun h' hx hn => op_load rfl rfl (hx.c _ _ a.box) rfl ⟨rfl, rfl⟩) ?_ | refine DAL.r rfl rfl rfl (fun h' hx hn => op_lookupF rfl rfl (hx.o _ _ a.map) ⟨rfl, rfl⟩) ?_ | refine DAL.r rfl rfl rfl (fun h' hx hn => op_callS rfl rfl (ca h') ⟨rfl, rfl⟩) ?_ | refine DAL.r rfl rfl rfl (fun h' hx hn => op_lenSB rfl ⟨rfl, rfl⟩) ?_ | refine DAL.r rfl rfl rfl (fun h' hx hn => op_sub64 rfl rfl (by omega) ⟨rfl, rfl⟩) ?_)
  refine DAL.w0 rfl rfl (op_store (v := .int .i64 ((used l : Int) - ((allF (fileOf l s)).length : Nat))) rfl rfl rfl a.box rfl (by show 1 < 3; omega) ?_)
  have hs1 : h.set i ⟨(dskB room (used l : Nat) (some m)).cells.set 1 (.int .i64 ((used l : Int) - ((allF (fileOf l s)).length : Nat))), 68, true⟩ = h.set i (dskB room (used (delS l s) : Nat) (some m)) := by
    have e : (used l : Int) - ((allF (fileOf l s)).length : Nat) = ((used (delS l s) : Nat) : Int) := by unfold fileOf; omega
    rw [e]
    rfl
  refine DAL.heap hs1 ?_
  refine DAL.nil ?_
  have g1 : (h.set i (dskB room (used (delS l s) : Nat) (some m))).get i = some (dskB room (used (delS l s) : Nat) (some m)) := Heap.set_at _ _ _
  have g2 : (h.set i (dskB room (used (delS l s) : Nat) (some m))).obj m = some (.map (ents (kvF l)) c) := a.map
  repeat (first | refine AWp.region ?_ | refine AL.set rfl rfl (op_moveP rfl ?_) | refine AL.set rfl rfl (op_moveStr rfl ?_) | refine AL.set rfl rfl (op_nilCheck rfl ?_) | refine AL.set rfl rfl (op_fa rfl ?_) | refine AL.set rfl rfl (op_load rfl rfl g1 rfl ?_))
  refine AL.eff rfl (op_delete rfl rfl g2 ?_)
  rw [delS_kv]
  repeat (first | refine AL.nil ?_)
  exact ⟨_, ResV.none rfl, rfl, rfl⟩
theorem has_del_self {l : FL} (hn : (l.map (·.1)).Nodup) (s : List UInt8) : hasS (delS l s) s = false := by
  rw [del_has hn]
  simp
set_option maxHeartbeats 1000000 in
theorem put_c (i m room : Nat) (l : FL) (c : Nat) (s : List UInt8) (f : File) (h : Heap) (a : At h i m room l c) (hu : used (delS l s) + (allF f).length ≤ room) :
    ACalls Try.prog 58 [ptr i, .string (bstr s), fileV f] h fun u h' => u = .tuple #[] ∧ h' = stD h i m room (putD l s f c) (c + 1) := by
  refine ACalls.wf fun wf => ACalls.resetTo ?_
  refine ACalls.body Try.func58 rfl rfl ?_
  have hb := a.big
  have hfl : (allF f).length = f.1.length + f.2.length := by simp [allF]
  have k1 : Ch i m h (h.alloc ⟨[.string (bstr f.1), .string (bstr f.2)], 87, true⟩) := (Ch.refl wf).alloc _
  have hx1 : Ext h (h.alloc ⟨[.string (bstr f.1), .string (bstr f.2)], 87, true⟩) := wf.ext _
  have g1 := Heap.alloc_new h ⟨[.string (bstr f.1), .string (bstr f.2)], 87, true⟩
  obtain ⟨li, lm⟩ := a.lt wf
  repeat (first | refine AL.nil ?_ | refine AWp.seq ?_ | refine AWp.region ?_ | refine AL.set rfl rfl (op_moveP rfl ?_) | refine AL.set rfl rfl (op_moveStr rfl ?_) | refine AL.set rfl rfl (op_boxF rfl ?_))
  generalize h.alloc ⟨[.string (bstr f.1), .string (bstr f.2)], 87, true⟩ = H1 at k1 hx1 g1 ⊢
  have a1 : At H1 i m room l c := ⟨hx1.c _ _ a.box, hx1.o _ _ a.map, a.ok, a.big⟩
  obtain ⟨li1, lm1⟩ := a1.lt k1.wf
  have k2 : Ch i m h (stD H1 i m room (delS l s) c) := (k1.set li1 _).setO (show m < (H1.set i _).next from lm1) _
  have a2 : At (stD H1 i m room (delS l s) c) i m room (delS l s) c := At.st (a.ok.del s) a.big
  have g2 : (stD H1 i m room (delS l s) c).get h.next = some ⟨[.string (bstr f.1), .string (bstr f.2)], 87, true⟩ := by
    show (H1.set i _).get h.next = _
    rw [Heap.set_other (by omega)]; exact g1
  skip
  refine AL.set rfl rfl (op_call rfl rfl ((drop_c i m room l c s H1 a1).mono ?_))
  rintro _ _ ⟨rfl, rfl⟩
  generalize stD H1 i m room (delS l s) c = H2 at k2 a2 g2 ⊢
  have ca := fun h' => all_c f h' (by omega)
  repeat (first | refine AL.nil ?_ | refine AWp.seq ?_)
  refine AWp.draw (σ := [(0, .R), (1, .R), (2, .R), (3, .R), (4, .R), (5, .R), (6, .R), (7, .R), (8, .R), (9, .R), (10, .W)]) mixed (by kernel_rfl) ?_
  have hld : ∀ {h' : Heap} {K : Value → Heap → Prop} {ρ : Operand → Value} {x : Operand} {dst : Option Tmp} {ty : TypeId} {pos : String} {aft : Array Edge} {g : Option (Nat × Bool)}, Ext H2 h' → ρ x = ptr h.next → K (fileV f) h' → AOp Try.prog ⟨dst, .load 87 x, ty, pos, aft, g⟩ ρ h' K := by
    intro h' K ρ x dst ty pos aft g hx' hx kk
    exact op_loadA (sz := 2) hx rfl (hx'.c _ _ g2) (Nat.le_refl _) kk
  repeat (first | refine DAL.r rfl rfl rfl (fun h' hx hn => op_moveP rfl ⟨rfl, rfl⟩) ?_ | refine DAL.r rfl rfl rfl (fun h' hx hn => op_nilCheck rfl ⟨rfl, rfl⟩) ?_ | refine DAL.r rfl rfl rfl (fun h' hx hn => op_fa rfl ⟨rfl, rfl⟩) ?_ | refine DAL.r rfl rfl rfl (fun h' hx hn => op_load rfl rfl (hx.c _ _ a2.box) rfl ⟨rfl, rfl⟩) ?_ | refine DAL.r rfl rfl rfl (fun h' hx hn => hld hx rfl ⟨rfl, rfl⟩) ?_ | refine DAL.r rfl rfl rfl (fun h' hx hn => op_callS rfl rfl (ca h') ⟨rfl, rfl⟩) ?_ | refine DAL.r rfl rfl rfl (fun h' hx hn => op_lenSB rfl ⟨rfl, rfl⟩) ?_ | refine DAL.r rfl rfl rfl (fun h' hx hn => op_add64 rfl rfl (by omega) ⟨rfl, rfl⟩) ?_)
  refine DAL.w0 rfl rfl (op_store (v := .int .i64 ((used (delS l s) : Int) + ((allF f).length : Nat))) rfl rfl rfl a2.box rfl (by show 1 < 3; omega) ?_)
  have hs1 : H2.set i ⟨(dskB room (used (delS l s) : Nat) (some m)).cells.set 1 (.int .i64 ((used (delS l s) : Int) + ((allF f).length : Nat))), 68, true⟩ = H2.set i (dskB room (used (putD l s f c) : Nat) (some m)) := by
    have e : (used (delS l s) : Int) + ((allF f).length : Nat) = ((used (putD l s f c) : Nat) : Int) := by unfold putD; rw [used_push]; omega
    rw [e]
    rfl
  refine DAL.heap hs1 ?_
  refine DAL.nil ?_
  have li2 : i < H2.next := by have := k2.nx; omega
  have k3 : Ch i m h (H2.set i (dskB room (used (putD l s f c) : Nat) (some m))) := k2.set li2 _
  have g3 : (H2.set i (dskB room (used (putD l s f c) : Nat) (some m))).get i = some (dskB room (used (putD l s f c) : Nat) (some m)) := Heap.set_at _ _ _
  have g4 : (H2.set i (dskB room (used (putD l s f c) : Nat) (some m))).get h.next = some ⟨[.string (bstr f.1), .string (bstr f.2)], 87, true⟩ := by rw [Heap.set_other (by omega)]; exact g2
  have g5 : (H2.set i (dskB room (used (putD l s f c) : Nat) (some m))).obj m = some (.map (ents (kvF (delS l s))) c) := a2.map
  generalize H2.set i (dskB room (used (putD l s f c) : Nat) (some m)) = H3 at k3 g3 g4 g5 ⊢
  have hld : ∀ {h' : Heap} {K : Value → Heap → Prop} {ρ : Operand → Value} {x : Operand} {dst : Option Tmp} {ty : TypeId} {pos : String} {aft : Array Edge} {g : Option (Nat × Bool)}, Ext H3 h' → ρ x = ptr h.next → K (fileV f) h' → AOp Try.prog ⟨dst, .load 87 x, ty, pos, aft, g⟩ ρ h' K := by
    intro h' K ρ x dst ty pos aft g hx' hx kk
    exact op_loadA (sz := 2) hx rfl (hx'.c _ _ g4) (Nat.le_refl _) kk
  skip
  refine AWp.draw (σ := [(0, .R), (1, .R), (2, .R), (3, .R), (4, .R), (5, .R), (6, .W)]) mixed (by kernel_rfl) ?_
  repeat (first | refine DAL.r rfl rfl rfl (fun h' hx hn => op_moveP rfl ⟨rfl, rfl⟩) ?_ | refine DAL.r rfl rfl rfl (fun h' hx hn => op_moveStr rfl ⟨rfl, rfl⟩) ?_ | refine DAL.r rfl rfl rfl (fun h' hx hn => op_nilCheck rfl ⟨rfl, rfl⟩) ?_ | refine DAL.r rfl rfl rfl (fun h' hx hn => op_fa rfl ⟨rfl, rfl⟩) ?_ | refine DAL.r rfl rfl rfl (fun h' hx hn => op_load rfl rfl (hx.c _ _ g3) rfl ⟨rfl, rfl⟩) ?_ | refine DAL.r rfl rfl rfl (fun h' hx hn => hld hx rfl ⟨rfl, rfl⟩) ?_)
  refine DAL.w0 rfl rfl (op_mapUpdate (u := fileV f) rfl rfl rfl g5 ?_)
  have hno : hasS (kvF (delS l s)) s = false := by rw [hasS_kv]; exact has_del_self a.ok.names s
  rw [hno, putS_kv, put_none (has_del_self a.ok.names s)]
  refine DAL.nil ?_
  skip
  have lm3 : m < H3.next := by have := k3.nx; omega
  refine ⟨_, ResV.none rfl, Bdd.plain (by simp [plainV, scalar]), st_fin a wf (k3.setO lm3 _) (show (H3.setO m _).get i = _ from g3) (Heap.setO_at _ _ _) ⟨rfl, rfl⟩⟩
end Go.Proofs.Ytnioldkmckmajaa.Dk
/-
  Disks: a new one, its room, a file sought.
-/
namespace Go.Proofs.Ytnioldkmckmajaa.Dk
open Go Go.Eng Go.Dsk
attribute [local irreducible] AWp AL DAL AOp
def newOk (room : Int) : Bool := decide (1024 ≤ room ∧ room ≤ 1048576)
theorem new_yes (room : Nat) (h : Heap) (h1 : 1024 ≤ room) (h2 : room ≤ 1048576) : ACalls Try.prog 15 [.int .i64 (room : Nat)] h fun u h' => ∃ i m, u = .tuple #[ptr i, .int .i64 0] ∧ h.next ≤ i ∧ h.next ≤ m ∧ At h' i m room [] 0 ∧ Ext h h' := by
  refine ACalls.wf fun wf => ?_
  refine ACalls.body Try.func15 rfl rfl ?_
  repeat (first | refine AL.nil ?_ | refine AWp.seq ?_ | refine AWp.region ?_ | refine AWp.condT rfl ?_ | refine AL.set rfl rfl (op_moveI rfl ?_) | refine AL.set rfl rfl (op_moveB rfl ?_) | refine AL.set rfl rfl (op_assignI rfl ?_) | refine AL.set rfl rfl (op_assignP rfl ?_) | refine AL.set rfl rfl (op_intT rfl rfl rfl (by omega) ?_) | refine AL.set rfl rfl (op_pick (v := .bool true) rfl rfl ?_) | refine AL.set rfl rfl (op_makeMap ?_))
  have hx1 := wf.extO (.map (ents []) 0)
  have wf1 := wf.allocO (.map (ents []) 0)
  have g1 := Heap.allocO_new h (.map (ents []) 0)
  have hn1 : (h.allocO (.map (ents []) 0)).next = h.next + 1 := rfl
  generalize h.allocO (.map (ents []) 0) = H1 at hx1 wf1 g1 hn1 ⊢
  refine AL.set rfl rfl (op_buildS (out := [.int .i64 (room : Nat), .int .i64 0, .map (some h.next)]) rfl rfl ?_)
  skip
  refine AL.set rfl rfl (op_box (v := .agg #[.int .i64 (room : Nat), .int .i64 0, .map (some h.next)]) rfl (by intro e; cases e) ?_)
  repeat (first | refine AL.nil ?_ | refine AWp.ret ?_ | refine AL.set rfl rfl (op_assignI rfl ?_) | refine AL.set rfl rfl (op_assignP rfl ?_))
  refine ⟨_, ResV.tmp2 rfl, H1.next, h.next, rfl, by omega, Nat.le_refl _, ⟨Heap.alloc_new _ _, g1, ⟨by simp, by simp, by simp, by simp [used], by simp, by simp⟩, h2⟩, hx1.trans (wf1.ext _)⟩
theorem room_c (i m room : Nat) (l : FL) (c : Nat) (h : Heap) (a : At h i m room l c) : ACalls Try.prog 37 [ptr i] h fun u h' => u = .int .i64 (room : Nat) ∧ h' = h := by
  refine ACalls.body Try.func37 rfl rfl ?_
  repeat (first | refine AL.nil ?_ | refine AWp.seq ?_ | refine AWp.region ?_ | refine AWp.condF rfl ?_ | refine AWp.ret ?_ | refine AWp.skip ?_ | refine AL.set rfl rfl (op_moveP rfl ?_) | refine AL.set rfl rfl (op_assignI rfl ?_) | refine AL.set rfl rfl (op_callS rfl rfl (on_c i _ _ _ h a.box) ?_) | refine AL.set rfl rfl (op_nilCheck rfl ?_) | refine AL.set rfl rfl (op_fa rfl ?_) | refine AL.set rfl rfl (op_load rfl rfl a.box rfl ?_) | refine AL.set rfl rfl (op_not rfl ?_))
  exact ⟨_, ResV.tmp rfl, rfl, rfl⟩
abbrev fileB (f : File) : Blk := ⟨[.string (bstr f.1), .string (bstr f.2)], 87, true⟩
theorem op_allocF {ρ : Operand → Value} {h : Heap} {K : Value → Heap → Prop} {dst : Option Tmp} {ty : TypeId} {pos : String} {aft : Array Edge} {g : Option (Nat × Bool)} (kk : K (ptr h.next) (h.alloc (fileB ([], [])))) : AOp Try.prog ⟨dst, .alloc 87, ty, pos, aft, g⟩ ρ h K := op_alloc (z := .agg #[.string ⟨#[]⟩, .string ⟨#[]⟩]) kk
theorem op_storeF {ρ : Operand → Value} {h : Heap} {K : Value → Heap → Prop} {dst : Option Tmp} {ty : TypeId} {pos : String} {aft : Array Edge} {g : Option (Nat × Bool)} {x y : Operand} {j : Nat} (f f' : File) (hx : ρ x = ptr j) (hy : ρ y = fileV f') (hj : h.get j = some (fileB f)) (kk : K undef (h.set j (fileB f'))) :
    AOp Try.prog ⟨dst, .store 87 x y, ty, pos, aft, g⟩ ρ h K := op_storeA (sz := 2) hx hy rfl rfl hj rfl (Nat.le_refl _) kk
theorem op_loadF {ρ : Operand → Value} {h : Heap} {K : Value → Heap → Prop} {dst : Option Tmp} {ty : TypeId} {pos : String} {aft : Array Edge} {g : Option (Nat × Bool)} {x : Operand} {j : Nat} {f : File} (hx : ρ x = ptr j) (hj : h.get j = some (fileB f)) (kk : K (fileV f) h) :
    AOp Try.prog ⟨dst, .load 87 x, ty, pos, aft, g⟩ ρ h K := op_loadA (sz := 2) hx rfl hj (Nat.le_refl _) kk
theorem op_buildF {ρ : Operand → Value} {h : Heap} {K : Value → Heap → Prop} {dst : Option Tmp} {ty : TypeId} {pos : String} {aft : Array Edge} {g : Option (Nat × Bool)} (kk : K (fileV ([], [])) h) : AOp Try.prog ⟨dst, .build 87 #[], ty, pos, aft, g⟩ ρ h K :=
  op_buildS (out := [.string (bstr []), .string (bstr [])]) rfl rfl kk
def openF (l : FL) (s : List UInt8) (more : List (List UInt8)) : File := if openE l s more = 0 then fileOf l s else ([], [])
set_option maxHeartbeats 1000000 in
theorem open_c (i m room : Nat) (l : FL) (c : Nat) (s : List UInt8) (mv : Value) (more : List (List UInt8)) (h : Heap) (a : At h i m room l c) (hs : s.length ≤ 4611686018427387904) (hr : RS h mv (sv more)) (hml : ∀ t ∈ more, t.length ≤ 4611686018427387904) (hmn : more.length ≤ 1000000) :
    ACalls Try.prog 56 [ptr i, .string (bstr s), mv] h fun u h' => u = .tuple #[fileV (openF l s more), .int .i64 (openE l s more)] ∧ h' = h := by
  refine ACalls.wf fun wf => ACalls.resetB ?_
  refine ACalls.body Try.func56 rfl rfl ?_
  have fin : ∀ {f : File} {e : Int}, openE l s more = e → (if e = 0 then fileOf l s else ([], [])) = f → (.tuple #[fileV f, .int .i64 e] : Value) = .tuple #[fileV (openF l s more), .int .i64 (openE l s more)] := by
    intro f e h1 h2
    unfold openF
    rw [h1, h2]
  have hx1 := wf.ext (fileB ([], []))
  have wf1 := wf.alloc (fileB ([], []))
  have g1 := Heap.alloc_new h (fileB ([], []))
  have hn1 : (h.alloc (fileB ([], []))).next = h.next + 1 := rfl
  repeat (first | refine AL.nil ?_ | refine AWp.seq ?_ | refine AWp.region ?_ | refine AL.set rfl rfl (op_moveP rfl ?_) | refine AL.set rfl rfl (op_assignI rfl ?_) | refine AL.set rfl rfl (op_allocF ?_))
  generalize h.alloc (fileB ([], [])) = H1 at hx1 wf1 g1 hn1 ⊢
  have a1 : At H1 i m room l c := ⟨hx1.c _ _ a.box, hx1.o _ _ a.map, a.ok, a.big⟩
  repeat (first | refine AL.nil ?_ | refine AWp.seq ?_ | refine AWp.region ?_ | refine AWp.condF rfl ?_ | refine AWp.skip ?_ | refine AL.set rfl rfl (op_moveStr rfl ?_) | refine AL.set rfl rfl (op_callS rfl rfl (on_c i _ _ _ H1 a1.box) ?_) | refine AL.set rfl rfl (op_row [.string (bstr s)] rfl rfl rfl rfl (by intro u hu; simp only [List.mem_cons, List.not_mem_nil, or_false] at hu; rw [hu]; rfl) ?_) | refine AL.set rfl rfl (op_not rfl ?_))
  have hx2 := wf1.ext ⟨[.string (bstr s)], 9, true⟩
  have wf2 := wf1.alloc ⟨[.string (bstr s)], 9, true⟩
  have r2 : RS (H1.alloc ⟨[.string (bstr s)], 9, true⟩) (.slice (some ⟨H1.next, 0, some 1⟩) 1 1) (sv [s]) := RS.own (Heap.alloc_new _ _) rfl
  have hn2 : (H1.alloc ⟨[.string (bstr s)], 9, true⟩).next = H1.next + 1 := rfl
  generalize H1.alloc ⟨[.string (bstr s)], 9, true⟩ = H2 at hx2 wf2 r2 hn2 ⊢
  have a2 : At H2 i m room l c := ⟨hx2.c _ _ a1.box, hx2.o _ _ a1.map, a.ok, a.big⟩
  have g2 := hx2.c _ _ g1
  have hx := hx1.trans hx2
  have cg := good_c _ [s] H2 r2 (by intro t ht; rw [List.mem_singleton.1 ht]; exact hs) (by simp)
  have cm := good_c mv more H2 (hr.ext hx) hml hmn
  have e1 : [s].all goodN = goodN s := by simp
  rw [e1] at cg
  have two : openE l s more = 2 → AWp Try.prog Try.f56.ntmps (.skip) (fun _ _ _ => True) [] H2 → True := fun _ _ => trivial
  clear two
  cases hg : goodN s with
  | false =>
    have hE : openE l s more = 2 := by unfold openE; rw [hg]; rfl
    rw [hg] at cg
    repeat (first | refine AL.nil ?_ | refine AL.skip rfl rfl ?_ | refine AWp.seq ?_ | refine AWp.region ?_ | refine AWp.condT rfl ?_ | refine AL.set rfl rfl (op_moveB rfl ?_) | refine AL.set rfl rfl (op_callS rfl rfl cg ?_) | refine AL.set rfl rfl (op_pick (v := .bool true) rfl rfl ?_) | refine AL.set rfl rfl (op_buildF ?_) | refine AL.set rfl rfl (op_not rfl ?_))
    refine AL.eff rfl (op_storeF ([], []) ([], []) rfl rfl g2 ?_)
    have hx3 := wf.ext_set hx (Nat.le_refl _) (fileB ([], []))
    have g3 := Heap.set_at H2 h.next (fileB ([], []))
    generalize H2.set h.next (fileB ([], [])) = H3 at hx3 g3 ⊢
    repeat (first | refine AL.nil ?_ | refine AWp.ret ?_ | refine AL.set rfl rfl (op_assignI rfl ?_))
    exact ⟨_, ResV.cell2 rfl rfl rfl g3 (Nat.le_refl _), Bdd.pair (fileV_bdd _ ([], [])) (Bdd.plain rfl) (fileV_plain ([], [])) rfl, hx3, fin hE rfl, rfl⟩
  | true =>
    rw [hg] at cg
    cases hm : more.all goodN with
    | false =>
      have hE : openE l s more = 2 := by unfold openE; rw [hg, hm]; rfl
      rw [hm] at cm
      repeat (first | refine AL.nil ?_ | refine AWp.seq ?_ | refine AWp.region ?_ | refine AWp.condT rfl ?_ | refine AL.set rfl rfl (op_moveB rfl ?_) | refine AL.set rfl rfl (op_callS rfl rfl cg ?_) | refine AL.set rfl rfl (op_callS rfl rfl cm ?_) | refine AL.set rfl rfl (op_pick (v := .bool true) rfl rfl ?_) | refine AL.set rfl rfl (op_buildF ?_) | refine AL.set rfl rfl (op_not rfl ?_) | refine AL.set rfl rfl (op_move (by conv => lhs; whnf) ?_))
      refine AL.eff rfl (op_storeF ([], []) ([], []) rfl rfl g2 ?_)
      have hx3 := wf.ext_set hx (Nat.le_refl _) (fileB ([], []))
      have g3 := Heap.set_at H2 h.next (fileB ([], []))
      generalize H2.set h.next (fileB ([], [])) = H3 at hx3 g3 ⊢
      repeat (first | refine AL.nil ?_ | refine AWp.ret ?_ | refine AL.set rfl rfl (op_assignI rfl ?_))
      exact ⟨_, ResV.cell2 rfl rfl rfl g3 (Nat.le_refl _), Bdd.pair (fileV_bdd _ ([], [])) (Bdd.plain rfl) (fileV_plain ([], [])) rfl, hx3, fin hE rfl, rfl⟩
    | true =>
      rw [hm] at cm
      repeat (first | refine AL.nil ?_ | refine AWp.seq ?_ | refine AWp.region ?_ | refine AWp.condF rfl ?_ | refine AWp.skip ?_ | refine AL.set rfl rfl (op_moveB rfl ?_) | refine AL.set rfl rfl (op_moveP rfl ?_) | refine AL.set rfl rfl (op_moveStr rfl ?_) | refine AL.set rfl rfl (op_moveT rfl ?_) | refine AL.set rfl rfl (op_callS rfl rfl cg ?_) | refine AL.set rfl rfl (op_callS rfl rfl cm ?_) | refine AL.set rfl rfl (op_pick (v := .bool false) rfl rfl ?_) | refine AL.set rfl rfl (op_nilCheck rfl ?_) | refine AL.set rfl rfl (op_fa rfl ?_) | refine AL.set rfl rfl (op_load rfl rfl a2.box rfl ?_) | refine AL.set rfl rfl (op_lookupFOk rfl rfl a2.map ?_) | refine AL.set rfl rfl (op_extract rfl rfl ?_) | refine AL.set rfl rfl (op_allocF ?_) | refine AL.set rfl rfl (op_not rfl ?_) | refine AL.set rfl rfl (op_move (by conv => lhs; whnf) ?_))
      have hx4 := wf2.ext (fileB ([], []))
      have wf4 := wf2.alloc (fileB ([], []))
      have g4 := Heap.alloc_new H2 (fileB ([], []))
      have hn4 : (H2.alloc (fileB ([], []))).next = H2.next + 1 := rfl
      have g5 := hx4.c _ _ g2
      have hx5 := hx.trans hx4
      generalize H2.alloc (fileB ([], [])) = H4 at hx4 wf4 g4 hn4 g5 hx5 ⊢
      refine AL.eff rfl (op_storeF ([], []) (fileOf l s) rfl rfl g4 ?_)
      have hx6 := wf.ext_set hx5 (show h.next ≤ H2.next by omega) (fileB (fileOf l s))
      have g6 := Heap.set_at H4 H2.next (fileB (fileOf l s))
      have g7 : (H4.set H2.next (fileB (fileOf l s))).get h.next = some (fileB ([], [])) := by rw [Heap.set_other (by omega)]; exact g5
      generalize H4.set H2.next (fileB (fileOf l s)) = H6 at hx6 g6 g7 ⊢
      cases hh : hasS l s with
      | false =>
        have hE : openE l s more = 6 := by unfold openE; rw [hg, hm, hh]; rfl
        repeat (first | refine AL.nil ?_ | refine AWp.seq ?_ | refine AWp.region ?_ | refine AWp.condT rfl ?_ | refine AL.set rfl rfl (op_moveB rfl ?_) | refine AL.set rfl rfl (op_assignB rfl ?_) | refine AL.set rfl rfl (op_buildF ?_) | refine AL.set rfl rfl (op_not rfl ?_))
        refine AL.eff rfl (op_storeF ([], []) ([], []) rfl rfl g7 ?_)
        have hx3 := wf.ext_set hx6 (Nat.le_refl _) (fileB ([], []))
        have g3 := Heap.set_at H6 h.next (fileB ([], []))
        generalize H6.set h.next (fileB ([], [])) = H3 at hx3 g3 ⊢
        repeat (first | refine AL.nil ?_ | refine AWp.ret ?_ | refine AL.set rfl rfl (op_assignI rfl ?_))
        exact ⟨_, ResV.cell2 rfl rfl rfl g3 (Nat.le_refl _), Bdd.pair (fileV_bdd _ ([], [])) (Bdd.plain rfl) (fileV_plain ([], [])) rfl, hx3, fin hE rfl, rfl⟩
      | true =>
        have hE : openE l s more = 0 := by unfold openE; rw [hg, hm, hh]; rfl
        repeat (first | refine AL.nil ?_ | refine AWp.seq ?_ | refine AWp.region ?_ | refine AWp.condF rfl ?_ | refine AWp.skip ?_ | refine AL.set rfl rfl (op_moveB rfl ?_) | refine AL.set rfl rfl (op_assignB rfl ?_) | refine AL.set rfl rfl (op_loadF rfl g6 ?_) | refine AL.set rfl rfl (op_not rfl ?_))
        refine AL.eff rfl (op_storeF ([], []) (fileOf l s) rfl rfl g7 ?_)
        have hx3 := wf.ext_set hx6 (Nat.le_refl _) (fileB (fileOf l s))
        have g3 := Heap.set_at H6 h.next (fileB (fileOf l s))
        generalize H6.set h.next (fileB (fileOf l s)) = H3 at hx3 g3 ⊢
        repeat (first | refine AL.nil ?_ | refine AWp.ret ?_ | refine AL.set rfl rfl (op_assignI rfl ?_))
        exact ⟨_, ResV.cell2 rfl rfl rfl g3 (Nat.le_refl _), Bdd.pair (fileV_bdd _ (fileOf l s)) (Bdd.plain rfl) (fileV_plain (fileOf l s)) rfl, hx3, fin hE rfl, rfl⟩
end Go.Proofs.Ytnioldkmckmajaa.Dk
