/-
  Texts of one claim, merged: 6 parts.
-/
import Derived.Test.YtiebmncpdnbcjaaMrge
/-
  The document's disk: names, a place, how much is used.
-/
namespace Go.Proofs.Ytiebmncpdnbcjaa
open Go Go.Eng Go.Dsk
attribute [local irreducible] AWp AL DAL AOp TAL

instance : TyD Try.prog 61 (.struct #[fd "Name" 9 0 "" 0, fd "Sure" 9 1 "" 16, fd "Loose" 9 2 "" 32]) := ⟨Try.underlying61⟩
instance : TyD Try.prog 52 (.slice 61) := ⟨Try.underlying52⟩
instance : TyD Try.prog 27 (.pointer 63) := ⟨Try.underlying27⟩
instance : TyD Try.prog 63 (.struct #[fd "Room" 3 0 "" 0, fd "F" 52 1 "" 8]) := ⟨Try.underlying63⟩
instance : TyI Try.prog 61 3 48 (.agg #[.string ⟨#[]⟩, .string ⟨#[]⟩, .string ⟨#[]⟩]) := ⟨info_of (by kernel_rfl), rfl, rfl⟩
instance : TyI Try.prog 52 1 24 (.slice none 0 0) := ⟨info_of (by kernel_rfl), rfl, rfl⟩
instance : TyI Try.prog 27 1 8 (.pointer none) := ⟨info_of (by kernel_rfl), rfl, rfl⟩
instance : TyI Try.prog 63 2 32 (.agg #[.int .i64 0, .slice none 0 0]) := ⟨info_of (by kernel_rfl), rfl, rfl⟩
instance : FAd Try.prog 61 0 0 := FAd.mk' (ft := 9) Try.underlying61 rfl rfl rfl rfl
instance : FAd Try.prog 61 1 1 := FAd.mk' (ft := 9) Try.underlying61 rfl rfl rfl rfl
instance : FAd Try.prog 61 2 2 := FAd.mk' (ft := 9) Try.underlying61 rfl rfl rfl rfl
instance : FAd Try.prog 63 0 0 := FAd.mk' (ft := 3) Try.underlying63 rfl rfl rfl rfl
instance : FAd Try.prog 63 1 1 := FAd.mk' (ft := 52) Try.underlying63 rfl rfl rfl rfl
instance : StD Try.prog 61 [(0, 1), (1, 1), (2, 1)] := ⟨_, Try.underlying61, by kernel_rfl⟩
instance : StD Try.prog 63 [(0, 1), (1, 1)] := ⟨_, Try.underlying63, by kernel_rfl⟩
instance : FnC Try.prog 33 := ⟨Try.f33, Try.func33, by kernel_rfl, by kernel_rfl⟩
instance : FnC Try.prog 28 := ⟨Try.f28, Try.func28, by kernel_rfl, by kernel_rfl⟩
instance : FnC Try.prog 46 := ⟨Try.f46, Try.func46, by kernel_rfl, by kernel_rfl⟩
instance : FnC Try.prog 31 := ⟨Try.f31, Try.func31, by kernel_rfl, by kernel_rfl⟩
instance : FnC Try.prog 14 := ⟨Try.f14, Try.func14, by kernel_rfl, by kernel_rfl⟩
instance : FnC Try.prog 47 := ⟨Try.f47, Try.func47, by kernel_rfl, by kernel_rfl⟩
instance : FnC Try.prog 54 := ⟨Try.f54, Try.func54, by kernel_rfl, by kernel_rfl⟩

abbrev rdB (room : Nat) (v : Value) : Blk := ⟨[.int .i64 (room : Nat), v], 63, true⟩
/-- The document's disk, where it lies. -/
structure RAt (h : Heap) (j room : Nat) (v : Value) (F : List RF) : Prop where
  box : h.get j = some (rdB room v)
  rn : RN 3 h v (F.map rowR)
  cnt : F.length ≤ 128
  big : room ≤ 1048576
  used : usedR F ≤ room
theorem RAt.ext {h h' : Heap} {j room : Nat} {v : Value} {F : List RF} (r : RAt h j room v F) (hx : Ext h h') : RAt h' j room v F := ⟨hx.c _ _ r.box, r.rn.ext hx, r.cnt, r.big, r.used⟩
theorem bstr_at (l : List UInt8) (i : Nat) : (bstr l)[i]? = l[i]? := by
  by_cases h : i < l.length
  · rw [List.getElem?_eq_getElem h]
    have h2 : i < (bstr l).size := by rw [bstr_size]; exact h
    rw [getElem?_pos (bstr l) i h2]
    rfl
  · rw [List.getElem?_eq_none (by omega)]
    exact getElem?_neg (bstr l) i (by rw [bstr_size]; omega)
theorem all_take_succ {s : List UInt8} {k : Nat} {b : UInt8} (hb : s[k]? = some b) (f : UInt8 → Bool) : (s.take (k + 1)).all f = ((s.take k).all f && f b) := by
  rw [List.take_add_one, hb, List.all_append]
  simp
set_option maxHeartbeats 1000000 in
theorem mayName_c (s : List UInt8) (h : Heap) (hl : s.length ≤ 4611686018427387904) : ACalls Try.prog 33 [.string (bstr s)] h fun u h' => u = .bool (goodN s) ∧ h' = h := by
  refine ACalls.body Try.func33 rfl rfl ?_
  obtain ⟨b0, hb0⟩ : ∃ b, decide (1 ≤ s.length ∧ s.length ≤ 32) = b := ⟨_, rfl⟩
  by_cases h1 : 1 ≤ s.length
  · by_cases h2 : s.length ≤ 32
    · obtain rfl : b0 = true := by rw [← hb0]; exact decide_eq_true ⟨h1, h2⟩
      repeat (first | refine AL.nil ?_ | refine AWp.seq ?_ | refine AWp.region ?_ | refine AWp.block ?_ | refine AL.set rfl rfl (op_moveB rfl ?_) | refine AL.set rfl rfl (op_moveStr rfl ?_) | refine AL.set rfl rfl (op_assignI rfl ?_) | refine AL.set rfl rfl (op_assignB rfl ?_) | refine AL.set rfl rfl (op_lenSB rfl ?_) | refine AL.set rfl rfl (op_intT rfl rfl rfl (by omega) ?_) | refine AL.set rfl rfl (op_pick rfl rfl ?_))
      refine AWp.loop (α := Nat) (fun k => [(0, .string (bstr s)), (3, .bool ((s.take k).all okByte)), (4, .int .i64 (k : Nat))]) (fun _ => h) (fun k => k ≤ s.length) (fun k => s.length - k) 0 (Nat.zero_le _) (Weak.same (EW.cons rfl (EW.cons rfl (EW.cons rfl EW.nil)))) ?_
      intro k hk
      by_cases hlt : k < s.length
      · obtain ⟨b, hb⟩ : ∃ b, s[k]? = some b := ⟨_, List.getElem?_eq_getElem hlt⟩
        have hbb : (bstr s)[((k : Nat) : Int).toNat]? = some b := by rw [bstr_at]; simpa using hb
        have hst := all_take_succ hb okByte
        obtain ⟨g, hg⟩ : ∃ g, (s.take k).all okByte = g := ⟨_, rfl⟩
        rw [hg] at hst ⊢
        cases g with
        | false =>
          have e1 : (s.take (k + 1)).all okByte = false := hst
          repeat (first | refine AL.nil ?_ | refine AL.skip rfl rfl ?_ | refine AWp.seq ?_ | refine AWp.region ?_ | refine AWp.condT rfl ?_ | refine AWp.block ?_ | refine AWp.skip ?_ | refine AL.set rfl rfl (op_moveI rfl ?_) | refine AL.set rfl rfl (op_moveB rfl ?_) | refine AL.set rfl rfl (op_moveStr rfl ?_) | refine AL.set rfl rfl (op_assignI rfl ?_) | refine AL.set rfl rfl (op_assignB rfl ?_) | refine AL.set rfl rfl (op_lenSB rfl ?_) | refine AL.set rfl rfl (op_intT rfl rfl rfl (by omega) ?_) | refine AL.set rfl rfl (op_pick rfl rfl ?_) | refine AL.set rfl rfl (op_add64 rfl rfl (by omega) ?_))
          exact ⟨k + 1, hlt, by omega, Weak.same (EW.cons rfl (EW.cons (congrArg Value.bool e1.symm) (EW.cons rfl EW.nil)))⟩
        | true =>
          rw [Bool.true_and] at hst
          by_cases q1 : 33 ≤ b.toNat
          · by_cases q2 : b.toNat ≤ 126
            · have e1 : (s.take (k + 1)).all okByte = true := hst.trans (decide_eq_true ⟨q1, q2⟩)
              repeat (first | refine AL.nil ?_ | refine AWp.seq ?_ | refine AWp.region ?_ | refine AWp.condT rfl ?_ | refine AWp.block ?_ | refine AWp.skip ?_ | refine AL.set rfl rfl (op_moveI rfl ?_) | refine AL.set rfl rfl (op_moveB rfl ?_) | refine AL.set rfl rfl (op_moveStr rfl ?_) | refine AL.set rfl rfl (op_assignI rfl ?_) | refine AL.set rfl rfl (op_assignB rfl ?_) | refine AL.set rfl rfl (op_lenSB rfl ?_) | refine AL.set rfl rfl (op_intT rfl rfl rfl (by omega) ?_) | refine AL.set rfl rfl (op_pick rfl rfl ?_) | refine AL.set rfl rfl (op_indexStr rfl rfl (by omega) hbb ?_) | refine AL.set rfl rfl (op_add64 rfl rfl (by omega) ?_))
              exact ⟨k + 1, hlt, by omega, Weak.same (EW.cons rfl (EW.cons (congrArg Value.bool e1.symm) (EW.cons rfl EW.nil)))⟩
            · have e1 : (s.take (k + 1)).all okByte = false := hst.trans (decide_eq_false (by omega))
              repeat (first | refine AL.nil ?_ | refine AWp.seq ?_ | refine AWp.region ?_ | refine AWp.condT rfl ?_ | refine AWp.block ?_ | refine AWp.skip ?_ | refine AL.set rfl rfl (op_moveI rfl ?_) | refine AL.set rfl rfl (op_moveB rfl ?_) | refine AL.set rfl rfl (op_moveStr rfl ?_) | refine AL.set rfl rfl (op_assignI rfl ?_) | refine AL.set rfl rfl (op_assignB rfl ?_) | refine AL.set rfl rfl (op_lenSB rfl ?_) | refine AL.set rfl rfl (op_intT rfl rfl rfl (by omega) ?_) | refine AL.set rfl rfl (op_intF rfl rfl rfl (by omega) ?_) | refine AL.set rfl rfl (op_pick rfl rfl ?_) | refine AL.set rfl rfl (op_indexStr rfl rfl (by omega) hbb ?_) | refine AL.set rfl rfl (op_add64 rfl rfl (by omega) ?_))
              exact ⟨k + 1, hlt, by omega, Weak.same (EW.cons rfl (EW.cons (congrArg Value.bool e1.symm) (EW.cons rfl EW.nil)))⟩
          · have e1 : (s.take (k + 1)).all okByte = false := hst.trans (decide_eq_false (by omega))
            repeat (first | refine AL.nil ?_ | refine AL.skip rfl rfl ?_ | refine AWp.seq ?_ | refine AWp.region ?_ | refine AWp.condT rfl ?_ | refine AWp.block ?_ | refine AWp.skip ?_ | refine AL.set rfl rfl (op_moveI rfl ?_) | refine AL.set rfl rfl (op_moveB rfl ?_) | refine AL.set rfl rfl (op_moveStr rfl ?_) | refine AL.set rfl rfl (op_assignI rfl ?_) | refine AL.set rfl rfl (op_assignB rfl ?_) | refine AL.set rfl rfl (op_lenSB rfl ?_) | refine AL.set rfl rfl (op_intT rfl rfl rfl (by omega) ?_) | refine AL.set rfl rfl (op_intF rfl rfl rfl (by omega) ?_) | refine AL.set rfl rfl (op_pick rfl rfl ?_) | refine AL.set rfl rfl (op_indexStr rfl rfl (by omega) hbb ?_) | refine AL.set rfl rfl (op_add64 rfl rfl (by omega) ?_))
            exact ⟨k + 1, hlt, by omega, Weak.same (EW.cons rfl (EW.cons (congrArg Value.bool e1.symm) (EW.cons rfl EW.nil)))⟩
      · obtain rfl : k = s.length := by omega
        rw [List.take_length]
        have : goodN s = s.all okByte := by unfold goodN; rw [hb0]; rfl
        rw [this]
        repeat (first | refine AL.nil ?_ | refine AL.skip rfl rfl ?_ | refine AWp.seq ?_ | refine AWp.region ?_ | refine AWp.condF rfl ?_ | refine AWp.ret ?_ | refine AWp.exit ?_ | refine AL.set rfl rfl (op_moveI rfl ?_) | refine AL.set rfl rfl (op_moveB rfl ?_) | refine AL.set rfl rfl (op_moveStr rfl ?_) | refine AL.set rfl rfl (op_assignB rfl ?_) | refine AL.set rfl rfl (op_lenSB rfl ?_) | refine AL.set rfl rfl (op_intF rfl rfl rfl (by omega) ?_) | refine AL.set rfl rfl (op_pick rfl rfl ?_))
        exact ⟨_, ResV.tmp rfl, rfl, rfl⟩
    · obtain rfl : b0 = false := by rw [← hb0]; exact decide_eq_false (by omega)
      have hg : goodN s = false := by unfold goodN; rw [hb0]; rfl
      rw [hg]
      repeat (first | refine AL.nil ?_ | refine AWp.seq ?_ | refine AWp.region ?_ | refine AWp.block ?_ | refine AL.set rfl rfl (op_moveB rfl ?_) | refine AL.set rfl rfl (op_moveStr rfl ?_) | refine AL.set rfl rfl (op_assignI rfl ?_) | refine AL.set rfl rfl (op_assignB rfl ?_) | refine AL.set rfl rfl (op_lenSB rfl ?_) | refine AL.set rfl rfl (op_intT rfl rfl rfl (by omega) ?_) | refine AL.set rfl rfl (op_intF rfl rfl rfl (by omega) ?_) | refine AL.set rfl rfl (op_pick rfl rfl ?_))
      refine AWp.loop (α := Nat) (fun k => [(0, .string (bstr s)), (3, .bool false), (4, .int .i64 (k : Nat))]) (fun _ => h) (fun k => k ≤ s.length) (fun k => s.length - k) 0 (Nat.zero_le _) (Weak.same (EW.cons rfl (EW.cons rfl (EW.cons rfl EW.nil)))) ?_
      intro k hk
      by_cases hlt : k < s.length
      · by_cases h32 : k ≤ 32
        · repeat (first | refine AL.nil ?_ | refine AL.skip rfl rfl ?_ | refine AWp.seq ?_ | refine AWp.region ?_ | refine AWp.condT rfl ?_ | refine AWp.block ?_ | refine AWp.skip ?_ | refine AL.set rfl rfl (op_moveI rfl ?_) | refine AL.set rfl rfl (op_moveB rfl ?_) | refine AL.set rfl rfl (op_moveStr rfl ?_) | refine AL.set rfl rfl (op_assignI rfl ?_) | refine AL.set rfl rfl (op_assignB rfl ?_) | refine AL.set rfl rfl (op_lenSB rfl ?_) | refine AL.set rfl rfl (op_intT rfl rfl rfl (by omega) ?_) | refine AL.set rfl rfl (op_pick rfl rfl ?_) | refine AL.set rfl rfl (op_add64 rfl rfl (by omega) ?_))
          exact ⟨k + 1, hlt, by omega, Weak.same (EW.cons rfl (EW.cons rfl (EW.cons rfl EW.nil)))⟩
        · repeat (first | refine AL.nil ?_ | refine AWp.seq ?_ | refine AWp.region ?_ | refine AWp.condF rfl ?_ | refine AWp.ret ?_ | refine AWp.exit ?_ | refine AL.set rfl rfl (op_moveI rfl ?_) | refine AL.set rfl rfl (op_moveB rfl ?_) | refine AL.set rfl rfl (op_moveStr rfl ?_) | refine AL.set rfl rfl (op_assignB rfl ?_) | refine AL.set rfl rfl (op_lenSB rfl ?_) | refine AL.set rfl rfl (op_intT rfl rfl rfl (by omega) ?_) | refine AL.set rfl rfl (op_intF rfl rfl rfl (by omega) ?_) | refine AL.set rfl rfl (op_pick rfl rfl ?_))
          exact ⟨_, ResV.tmp rfl, rfl, rfl⟩
      · repeat (first | refine AL.nil ?_ | refine AL.skip rfl rfl ?_ | refine AWp.seq ?_ | refine AWp.region ?_ | refine AWp.condF rfl ?_ | refine AWp.ret ?_ | refine AWp.exit ?_ | refine AL.set rfl rfl (op_moveI rfl ?_) | refine AL.set rfl rfl (op_moveB rfl ?_) | refine AL.set rfl rfl (op_moveStr rfl ?_) | refine AL.set rfl rfl (op_assignB rfl ?_) | refine AL.set rfl rfl (op_lenSB rfl ?_) | refine AL.set rfl rfl (op_intF rfl rfl rfl (by omega) ?_) | refine AL.set rfl rfl (op_pick rfl rfl ?_))
        exact ⟨_, ResV.tmp rfl, rfl, rfl⟩
  · have hs0 : s = [] := List.eq_nil_of_length_eq_zero (by omega)
    subst hs0
    repeat (first | refine AL.nil ?_ | refine AL.skip rfl rfl ?_ | refine AWp.seq ?_ | refine AWp.region ?_ | refine AWp.block ?_ | refine AL.set rfl rfl (op_moveB rfl ?_) | refine AL.set rfl rfl (op_moveStr rfl ?_) | refine AL.set rfl rfl (op_assignI rfl ?_) | refine AL.set rfl rfl (op_assignB rfl ?_) | refine AL.set rfl rfl (op_lenSB rfl ?_) | refine AL.set rfl rfl (op_intF rfl rfl rfl (by omega) ?_) | refine AL.set rfl rfl (op_pick rfl rfl ?_))
    refine AWp.loop (α := Nat) (fun k => [(0, .string (bstr [])), (3, .bool false), (4, .int .i64 (k : Nat))]) (fun _ => h) (fun k => k = 0) (fun k => 0) 0 rfl (Weak.same (EW.cons rfl (EW.cons rfl (EW.cons rfl EW.nil)))) ?_
    rintro k rfl
    repeat (first | refine AL.nil ?_ | refine AL.skip rfl rfl ?_ | refine AWp.seq ?_ | refine AWp.region ?_ | refine AWp.condF rfl ?_ | refine AWp.ret ?_ | refine AWp.exit ?_ | refine AL.set rfl rfl (op_moveI rfl ?_) | refine AL.set rfl rfl (op_moveB rfl ?_) | refine AL.set rfl rfl (op_moveStr rfl ?_) | refine AL.set rfl rfl (op_assignB rfl ?_) | refine AL.set rfl rfl (op_lenSB rfl ?_) | refine AL.set rfl rfl (op_intF rfl rfl rfl (by omega) ?_) | refine AL.set rfl rfl (op_pick rfl rfl ?_))
    exact ⟨_, ResV.tmp rfl, rfl, rfl⟩
theorem rall_c (f : RF) (h : Heap) (hl : f.2.1.length + f.2.2.length ≤ 1000000000) : ACalls Try.prog 31 [.agg (rowR f).toArray] h fun u h' => u = .string (bstr (f.2.1 ++ f.2.2)) ∧ h' = h := by
  refine ACalls.wf fun wf => ACalls.reset ?_
  refine ACalls.body Try.func31 rfl rfl ?_
  have g1 := Heap.alloc_new h ⟨rowR f, 61, true⟩
  repeat (first | refine AWp.seq ?_ | refine AWp.region ?_)
  refine AL.set rfl rfl (op_box (v := .agg (rowR f).toArray) rfl (by intro e; cases e) ?_)
  refine AL.heap (show _ = h.alloc ⟨rowR f, 61, true⟩ from rfl) ?_
  repeat (first | refine AL.nil ?_ | refine AWp.seq ?_ | refine AWp.region ?_ | refine AWp.ret ?_ | refine AL.set rfl rfl (op_assignStr rfl ?_) | refine AL.set rfl rfl (op_fa rfl ?_) | refine AL.set rfl rfl (op_load rfl rfl g1 rfl ?_) | refine AL.set rfl rfl (op_sCat rfl rfl (by simp only [maxLen]; omega) ?_))
  exact ⟨_, ResV.tmp rfl, rfl, wf.ext _, rfl, rfl⟩
theorem rnew_no (room : Int) (h : Heap) (hn : newOk room = false) : ACalls Try.prog 14 [.int .i64 room] h fun u h' => u = .pointer none ∧ h' = h := by
  refine ACalls.body Try.func14 rfl rfl ?_
  have hn2 : ¬ (1024 ≤ room ∧ room ≤ 1048576) := of_decide_eq_false hn
  by_cases h1 : room < 1024
  · repeat (first | refine AL.nil ?_ | refine AL.skip rfl rfl ?_ | refine AWp.seq ?_ | refine AWp.region ?_ | refine AWp.condT rfl ?_ | refine AWp.ret ?_ | refine AL.set rfl rfl (op_moveI rfl ?_) | refine AL.set rfl rfl (op_moveB rfl ?_) | refine AL.set rfl rfl (op_assignP rfl ?_) | refine AL.set rfl rfl (op_intT rfl rfl rfl (by omega) ?_) | refine AL.set rfl rfl (op_pick rfl rfl ?_))
    exact ⟨_, ResV.tmp rfl, rfl, rfl⟩
  · repeat (first | refine AL.nil ?_ | refine AWp.seq ?_ | refine AWp.region ?_ | refine AWp.condT rfl ?_ | refine AWp.ret ?_ | refine AL.set rfl rfl (op_moveI rfl ?_) | refine AL.set rfl rfl (op_moveB rfl ?_) | refine AL.set rfl rfl (op_assignP rfl ?_) | refine AL.set rfl rfl (op_intT rfl rfl rfl (by omega) ?_) | refine AL.set rfl rfl (op_intF rfl rfl rfl (by omega) ?_) | refine AL.set rfl rfl (op_pick rfl rfl ?_))
    exact ⟨_, ResV.tmp rfl, rfl, rfl⟩
theorem rnew_yes (room : Nat) (h : Heap) (h1 : 1024 ≤ room) (h2 : room ≤ 1048576) : ACalls Try.prog 14 [.int .i64 (room : Nat)] h fun u h' => u = ptr h.next ∧ RAt h' h.next room (.slice none 0 0) [] ∧ Ext h h' ∧ WF h' ∧ h'.next = h.next + 1 := by
  refine ACalls.wf fun wf => ?_
  refine ACalls.body Try.func14 rfl rfl ?_
  repeat (first | refine AL.nil ?_ | refine AWp.seq ?_ | refine AWp.region ?_ | refine AWp.condF rfl ?_ | refine AWp.skip ?_ | refine AL.set rfl rfl (op_moveI rfl ?_) | refine AL.set rfl rfl (op_moveB rfl ?_) | refine AL.set rfl rfl (op_assignP rfl ?_) | refine AL.set rfl rfl (op_intF rfl rfl rfl (by omega) ?_) | refine AL.set rfl rfl (op_pick rfl rfl ?_))
  refine AL.set rfl rfl (op_buildS (out := [.int .i64 (room : Nat), .slice none 0 0]) rfl rfl ?_)
  skip
  refine AL.set rfl rfl (op_box (v := .agg #[.int .i64 (room : Nat), .slice none 0 0]) rfl (by intro e; cases e) ?_)
  repeat (first | refine AL.nil ?_ | refine AWp.ret ?_ | refine AL.set rfl rfl (op_assignP rfl ?_))
  exact ⟨_, ResV.tmp rfl, rfl, ⟨Heap.alloc_new _ _, RN.nil _ _, by simp, h2, by simp [usedR]⟩, wf.ext _, wf.alloc _, rfl⟩
theorem row_at {F : List RF} {k : Nat} {x : RF} (hx : F[k]? = some x) : (F.map rowR)[((k : Nat) : Int).toNat]? = some (rowR x) := by
  rw [Int.toNat_natCast, List.getElem?_map, hx]; rfl
theorem findIdx_none_take {F : List RF} {s : List UInt8} {k : Nat} (h : ∀ x ∈ F.take k, x.1 ≠ s) {x : RF} (hx : F[k]? = some x) (he : x.1 = s) : seekN F s = some k := by
  have hl := (List.getElem?_eq_some_iff.1 hx).1
  obtain rfl : F[k] = x := by have := List.getElem?_eq_getElem hl; rw [hx] at this; exact (Option.some.inj this).symm
  unfold seekN
  refine List.findIdx?_eq_some_iff_getElem.2 ⟨hl, by simpa using he, fun j hj => ?_⟩
  have := h F[j] (List.mem_of_getElem? (i := j) (by rw [List.getElem?_take_of_lt hj, List.getElem?_eq_getElem (by omega)]))
  simpa using this
theorem findIdx_none {F : List RF} {s : List UInt8} (h : ∀ x ∈ F, x.1 ≠ s) : seekN F s = none := by
  unfold seekN
  rw [List.findIdx?_eq_none_iff]
  intro x hx
  simpa using h x hx
theorem seek_c (j room : Nat) (v : Value) (F : List RF) (s : List UInt8) (h : Heap) (r : RAt h j room v F) (hs : s.length ≤ 4611686018427387904) :
    ACalls Try.prog 28 [ptr j, .string (bstr s)] h fun u h' => u = .tuple #[.int .i64 (iR F s), .int .i64 (eR F s)] ∧ h' = h := by
  refine ACalls.body Try.func28 rfl rfl ?_
  have cm := mayName_c s h hs
  have hc := r.cnt
  cases hg : goodN s with
  | false =>
    rw [hg] at cm
    repeat (first | refine AL.nil ?_ | refine AWp.seq ?_ | refine AWp.region ?_ | refine AWp.condT rfl ?_ | refine AWp.condF rfl ?_ | refine AWp.ret ?_ | refine AWp.skip ?_ | refine AL.set rfl rfl (op_moveP rfl ?_) | refine AL.set rfl rfl (op_moveStr rfl ?_) | refine AL.set rfl rfl (op_assignI rfl ?_) | refine AL.set rfl rfl (op_eqPtrNil rfl rfl ?_) | refine AL.set rfl rfl (op_callS rfl rfl cm ?_) | refine AL.set rfl rfl (op_not rfl ?_))
    refine ⟨_, ResV.tmp2 rfl, ?_, rfl⟩
    unfold iR eR
    rw [hg]; rfl
  | true =>
    rw [hg] at cm
    repeat (first | refine AL.nil ?_ | refine AWp.seq ?_ | refine AWp.region ?_ | refine AWp.condF rfl ?_ | refine AWp.block ?_ | refine AWp.skip ?_ | refine AL.set rfl rfl (op_moveP rfl ?_) | refine AL.set rfl rfl (op_moveStr rfl ?_) | refine AL.set rfl rfl (op_assignI rfl ?_) | refine AL.set rfl rfl (op_eqPtrNil rfl rfl ?_) | refine AL.set rfl rfl (op_callS rfl rfl cm ?_) | refine AL.set rfl rfl (op_not rfl ?_))
    refine AWp.loop (α := Nat) (fun k => [(0, ptr j), (1, .string (bstr s)), (6, .int .i64 (k : Nat))]) (fun _ => h) (fun k => k ≤ F.length ∧ ∀ x ∈ F.take k, x.1 ≠ s) (fun k => F.length - k) 0 ⟨Nat.zero_le _, by simp⟩ (Weak.same (EW.cons rfl (EW.cons rfl (EW.cons rfl EW.nil)))) ?_
    rintro k ⟨hk, hno⟩
    by_cases hlt : k < F.length
    · obtain ⟨x, hx⟩ : ∃ x, F[k]? = some x := ⟨_, List.getElem?_eq_getElem hlt⟩
      have hx2 : (F.map rowR)[((k : Nat) : Int).toNat]? = some (rowR x) := row_at hx
      have hp := r.rn.elt hx2
      by_cases he : x.1 = s
      · have h1 := findIdx_none_take hno hx he
        repeat (first | refine AL.nil ?_ | refine AWp.seq ?_ | refine AWp.region ?_ | refine AWp.condT rfl ?_ | refine AWp.ret ?_ | refine AWp.block ?_ | refine AWp.skip ?_ | refine AL.set rfl rfl (op_moveI rfl ?_) | refine AL.set rfl rfl (op_moveP rfl ?_) | refine AL.set rfl rfl (op_moveStr rfl ?_) | refine AL.set rfl rfl (op_assignI rfl ?_) | refine AL.set rfl rfl (op_nilCheck rfl ?_) | refine AL.set rfl rfl (op_fa rfl ?_) | refine AL.set rfl rfl (op_load rfl rfl r.box rfl ?_) | refine AL.set rfl rfl (op_lenN r.rn rfl ?_) | refine AL.set rfl rfl (op_intT rfl rfl rfl (by rw [List.length_map]; omega) ?_) | refine AL.set rfl rfl (op_indexND r.rn rfl rfl (by omega) hx2 ?_) | refine AL.set rfl rfl (op_faN hp rfl ?_) | refine AL.set rfl rfl (op_loadF0 (off := 0) hp rfl rfl rfl ?_) | refine AL.set rfl rfl (op_sEqT rfl rfl he ?_))
        refine ⟨_, ResV.tmp2 rfl, ?_, rfl⟩
        unfold iR eR
        rw [hg, h1]; rfl
      · repeat (first | refine AL.nil ?_ | refine AWp.seq ?_ | refine AWp.region ?_ | refine AWp.condT rfl ?_ | refine AWp.condF rfl ?_ | refine AWp.block ?_ | refine AWp.skip ?_ | refine AL.set rfl rfl (op_moveI rfl ?_) | refine AL.set rfl rfl (op_moveP rfl ?_) | refine AL.set rfl rfl (op_moveStr rfl ?_) | refine AL.set rfl rfl (op_assignI rfl ?_) | refine AL.set rfl rfl (op_nilCheck rfl ?_) | refine AL.set rfl rfl (op_fa rfl ?_) | refine AL.set rfl rfl (op_load rfl rfl r.box rfl ?_) | refine AL.set rfl rfl (op_lenN r.rn rfl ?_) | refine AL.set rfl rfl (op_intT rfl rfl rfl (by rw [List.length_map]; omega) ?_) | refine AL.set rfl rfl (op_indexND r.rn rfl rfl (by omega) hx2 ?_) | refine AL.set rfl rfl (op_faN hp rfl ?_) | refine AL.set rfl rfl (op_loadF0 (off := 0) hp rfl rfl rfl ?_) | refine AL.set rfl rfl (op_sEqF rfl rfl he ?_) | refine AL.set rfl rfl (op_add64 rfl rfl (by omega) ?_))
        refine ⟨k + 1, ⟨hlt, fun y hy => ?_⟩, by omega, Weak.same (EW.cons rfl (EW.cons rfl (EW.cons rfl EW.nil)))⟩
        rw [List.take_add_one, hx] at hy
        rcases List.mem_append.1 hy with hy | hy
        · exact hno y hy
        · simp at hy; subst hy; exact he
    · obtain rfl : k = F.length := by omega
      rw [List.take_length] at hno
      have h1 := findIdx_none hno
      repeat (first | refine AL.nil ?_ | refine AWp.seq ?_ | refine AWp.region ?_ | refine AWp.condF rfl ?_ | refine AWp.ret ?_ | refine AWp.exit ?_ | refine AL.set rfl rfl (op_moveI rfl ?_) | refine AL.set rfl rfl (op_moveP rfl ?_) | refine AL.set rfl rfl (op_assignI rfl ?_) | refine AL.set rfl rfl (op_nilCheck rfl ?_) | refine AL.set rfl rfl (op_fa rfl ?_) | refine AL.set rfl rfl (op_load rfl rfl r.box rfl ?_) | refine AL.set rfl rfl (op_lenN r.rn rfl ?_) | refine AL.set rfl rfl (op_intF rfl rfl rfl (by rw [List.length_map]; omega) ?_))
      refine ⟨_, ResV.tmp2 rfl, ?_, rfl⟩
      unfold iR eR
      rw [hg, h1]; rfl
theorem usedR_take {F : List RF} {k : Nat} {x : RF} (hx : F[k]? = some x) : usedR (F.take (k + 1)) = usedR (F.take k) + (x.2.1.length + x.2.2.length) := by
  unfold usedR
  rw [List.take_add_one, hx, List.map_append, List.sum_append]
  simp
theorem usedR_le (F : List RF) (k : Nat) : usedR (F.take k) ≤ usedR F := by
  conv => rhs; rw [← List.take_append_drop k F]
  unfold usedR
  rw [List.map_append, List.sum_append]
  omega
set_option maxHeartbeats 1000000 in
theorem rused_c (j room : Nat) (v : Value) (F : List RF) (h : Heap) (r : RAt h j room v F) :
    ACalls Try.prog 46 [ptr j] h fun u h' => u = .int .i64 (usedR F : Nat) ∧ h' = h := by
  refine ACalls.body Try.func46 rfl rfl ?_
  have hc := r.cnt
  have hb := r.big
  have hu := r.used
  repeat (first | refine AL.nil ?_ | refine AWp.seq ?_ | refine AWp.region ?_ | refine AWp.block ?_ | refine AL.set rfl rfl (op_assignI rfl ?_))
  refine AWp.loop (α := Nat) (fun k => [(0, ptr j), (3, .int .i64 (usedR (F.take k) : Nat)), (4, .int .i64 (k : Nat))]) (fun _ => h) (fun k => k ≤ F.length) (fun k => F.length - k) 0 (Nat.zero_le _) (Weak.same (EW.cons rfl (EW.cons rfl (EW.cons rfl EW.nil)))) ?_
  intro k hk
  by_cases hlt : k < F.length
  · obtain ⟨x, hx⟩ : ∃ x, F[k]? = some x := ⟨_, List.getElem?_eq_getElem hlt⟩
    have hx2 : (F.map rowR)[((k : Nat) : Int).toNat]? = some (rowR x) := row_at hx
    have hp := r.rn.elt hx2
    have hst := usedR_take hx
    have hle := usedR_le F (k + 1)
    obtain ⟨n0, hn0⟩ : ∃ n, usedR (F.take k) = n := ⟨_, rfl⟩
    rw [hn0] at hst ⊢
    repeat (first | refine AL.nil ?_ | refine AWp.seq ?_ | refine AWp.region ?_ | refine AWp.condT rfl ?_ | refine AWp.block ?_ | refine AWp.skip ?_ | refine AL.set rfl rfl (op_moveI rfl ?_) | refine AL.set rfl rfl (op_moveB rfl ?_) | refine AL.set rfl rfl (op_moveP rfl ?_) | refine AL.set rfl rfl (op_nilCheck rfl ?_) | refine AL.set rfl rfl (op_fa rfl ?_) | refine AL.set rfl rfl (op_nePtrNil rfl rfl ?_) | refine AL.set rfl rfl (op_load rfl rfl r.box rfl ?_) | refine AL.set rfl rfl (op_lenN r.rn rfl ?_) | refine AL.set rfl rfl (op_intT rfl rfl rfl (by rw [List.length_map]; omega) ?_) | refine AL.set rfl rfl (op_pick rfl rfl ?_))
    refine AWp.draw (σ := [(0, .R), (1, .R), (2, .R), (3, .R), (4, .R), (5, .R), (6, .R), (7, .R), (8, .R), (9, .R), (10, .R), (11, .R), (12, .R), (13, .R), (14, .R), (15, .R), (16, .R), (17, .R), (18, .R), (19, .R), (20, .R), (21, .R)]) mixed (by kernel_rfl) ?_
    repeat (first | refine DAL.r rfl rfl rfl (fun h' hx hn => op_moveI rfl ⟨rfl, rfl⟩) ?_ | refine DAL.r rfl rfl rfl (fun h' hx hn => op_moveP rfl ⟨rfl, rfl⟩) ?_ | refine DAL.r rfl rfl rfl (fun h' hx hn => op_assignI rfl ⟨rfl, rfl⟩) ?_ | refine DAL.r rfl rfl rfl (fun h' hx hn => op_nilCheck rfl ⟨rfl, rfl⟩) ?_ | refine DAL.r rfl rfl rfl (fun h' hx hn => op_fa rfl ⟨rfl, rfl⟩) ?_ | refine DAL.r rfl rfl rfl (fun h' hx hn => op_load rfl rfl (hx.c _ _ r.box) rfl ⟨rfl, rfl⟩) ?_ | refine DAL.r rfl rfl rfl (fun h' hx hn => op_indexND (r.rn.ext hx) rfl rfl (by omega) hx2 ⟨rfl, rfl⟩) ?_ | refine DAL.r rfl rfl rfl (fun h' hx hn => op_faN (hp.ext hx) rfl ⟨rfl, rfl⟩) ?_ | refine DAL.r rfl rfl rfl (fun h' hx hn => op_loadF0 (off := 1) (hp.ext hx) rfl rfl rfl ⟨rfl, rfl⟩) ?_ | refine DAL.r rfl rfl rfl (fun h' hx hn => op_loadF0 (off := 2) (hp.ext hx) rfl rfl rfl ⟨rfl, rfl⟩) ?_ | refine DAL.r rfl rfl rfl (fun h' hx hn => op_lenSB rfl ⟨rfl, rfl⟩) ?_ | refine DAL.r rfl rfl rfl (fun h' hx hn => op_add64 rfl rfl (by omega) ⟨rfl, rfl⟩) ?_)
    refine DAL.nil ?_
    repeat (first | refine AL.nil ?_ | refine AWp.region ?_ | refine AL.set rfl rfl (op_moveI rfl ?_) | refine AL.set rfl rfl (op_assignI rfl ?_) | refine AL.set rfl rfl (op_add64 rfl rfl (by omega) ?_))
    exact ⟨k + 1, hlt, by omega, Weak.same (EW.cons rfl (EW.cons (congrArg (Value.int .i64) (by omega)) (EW.cons rfl EW.nil)))⟩
  · obtain rfl : k = F.length := by omega
    rw [List.take_length]
    repeat (first | refine AL.nil ?_ | refine AWp.seq ?_ | refine AWp.region ?_ | refine AWp.condF rfl ?_ | refine AWp.ret ?_ | refine AWp.exit ?_ | refine AL.set rfl rfl (op_moveI rfl ?_) | refine AL.set rfl rfl (op_moveB rfl ?_) | refine AL.set rfl rfl (op_moveP rfl ?_) | refine AL.set rfl rfl (op_assignI rfl ?_) | refine AL.set rfl rfl (op_nilCheck rfl ?_) | refine AL.set rfl rfl (op_fa rfl ?_) | refine AL.set rfl rfl (op_nePtrNil rfl rfl ?_) | refine AL.set rfl rfl (op_load rfl rfl r.box rfl ?_) | refine AL.set rfl rfl (op_lenN r.rn rfl ?_) | refine AL.set rfl rfl (op_intF rfl rfl rfl (by rw [List.length_map]; omega) ?_) | refine AL.set rfl rfl (op_pick rfl rfl ?_))
    exact ⟨_, ResV.tmp rfl, rfl, rfl⟩
end Go.Proofs.Ytiebmncpdnbcjaa

/-
  The document's disk: a file set, a file less; what is written, synced, named anew, removed.
-/
namespace Go.Proofs.Ytiebmncpdnbcjaa
open Go Go.Eng Go.Dsk
attribute [local irreducible] AWp AL DAL AOp TAL

instance : FnC Try.prog 18 := ⟨Try.f18, Try.func18, by kernel_rfl, by kernel_rfl⟩
instance : FnC Try.prog 19 := ⟨Try.f19, Try.func19, by kernel_rfl, by kernel_rfl⟩
instance : FnC Try.prog 48 := ⟨Try.f48, Try.func48, by kernel_rfl, by kernel_rfl⟩
instance : FnC Try.prog 32 := ⟨Try.f32, Try.func32, by kernel_rfl, by kernel_rfl⟩
/-- All but one block is avs it was. -/
structure Md (j : Nat) (h h' : Heap) : Prop where
  c : ∀ i b, h.get i = some b → i ≠ j → h'.get i = some b
  o : ∀ i b, h.obj i = some b → h'.obj i = some b
  wf : WF h'
  nx : h.next ≤ h'.next
theorem Md.refl {j : Nat} {h : Heap} (wf : WF h) : Md j h h := ⟨fun _ _ e _ => e, fun _ _ e => e, wf, Nat.le_refl _⟩
theorem Md.trans {j : Nat} {h h1 h2 : Heap} (a : Md j h h1) (b : Md j h1 h2) : Md j h h2 := ⟨fun i x e n => b.c i x (a.c i x e n) n, fun i x e => b.o i x (a.o i x e), b.wf, Nat.le_trans a.nx b.nx⟩
theorem Md.ext {j : Nat} {h h1 : Heap} (hx : Ext h h1) (wf : WF h1) (hn : h.next ≤ h1.next) : Md j h h1 := ⟨fun i x e _ => hx.c i x e, fun i x e => hx.o i x e, wf, hn⟩
theorem Md.keep {j B c : Nat} {h h1 h2 : Heap} {e : TypeId} {v : Value} {rows : List (List Value)} (a : Md j h h1) (wf0 : WF h) (k : Keeps v h1 h2) (r : ON B c h1 e v rows) (hB : h.next ≤ B) (wf : WF h2) (hn : h1.next ≤ h2.next) : Md j h h2 := by
  refine ⟨fun i x hi n => ?_, fun i x hi => k.o i x (a.o i x hi), wf, Nat.le_trans a.nx hn⟩
  refine k.c i x (a.c i x hi n) fun s m c' hv => ?_
  have hlt := wf0.lt hi
  rcases r.at_ with ⟨rfl, _⟩ | ⟨i', cap, hi', rfl, _⟩
  · cases hv
  · cases hv; omega
/-- What a writing call leaves of the document's disk. -/
structure RSt (h : Heap) (j room : Nat) (F' : List RF) (h' : Heap) : Prop where
  ex : ∃ v', RAt h' j room v' F' ∧ ∀ i, vblk v' = some i → h.next ≤ i
  md : Md j h h'
theorem RSt.of {h H : Heap} {j room : Nat} {v u' : Value} {F' : List RF} (m : Md j h H) (b : H.get j = some (rdB room v)) (rn : RN 3 H u' (F'.map rowR)) (hb : ∀ i, vblk u' = some i → h.next ≤ i) (lj : j < h.next) (hc : F'.length ≤ 128) (hbg : room ≤ 1048576) (hu : usedR F' ≤ room) :
    RSt h j room F' (H.set j (rdB room u')) := by
  have hset : ∀ i x, H.get i = some x → i ≠ j → (H.set j (rdB room u')).get i = some x := fun i x e n => (Heap.set_other n).trans e
  refine ⟨⟨u', ⟨Heap.set_at _ _ _, rn.keep fun i b hi hb' => hset i b hb' (by have := hb i hi; omega), hc, hbg, hu⟩, hb⟩, ⟨fun i x e n => hset i x (m.c i x e n) n, fun i x e => m.o i x e, m.wf.set (m.wf.lt b) _, m.nx⟩⟩
theorem rset_c (j room : Nat) (v : Value) (F : List RF) (k : Nat) (f : RF) (h : Heap) (r : RAt h j room v F) (hk : k < F.length) (hu : usedR (F.set k f) ≤ room) :
    ACalls Try.prog 47 [ptr j, .int .i64 (k : Nat), .agg (rowR f).toArray] h fun u h' => u = .tuple #[] ∧ RSt h j room (F.set k f) h' := by
  refine ACalls.wf fun wf => ?_
  refine ACalls.body Try.func47 rfl rfl ?_
  have hc := r.cnt
  have lj := wf.lt r.box
  repeat (first | refine AWp.seq ?_ | refine AWp.region ?_)
  refine AL.set rfl rfl (op_box (v := .agg (rowR f).toArray) rfl (by intro e; cases e) ?_)
  refine AL.heap (show _ = h.alloc ⟨rowR f, 61, true⟩ from rfl) ?_
  have hx1 := wf.ext ⟨rowR f, 61, true⟩
  have wf1 := wf.alloc ⟨rowR f, 61, true⟩
  have g1 := Heap.alloc_new h ⟨rowR f, 61, true⟩
  have n1 : (h.alloc ⟨rowR f, 61, true⟩).next = h.next + 1 := rfl
  generalize h.alloc ⟨rowR f, 61, true⟩ = H1 at hx1 wf1 g1 n1 ⊢
  have r1 := r.ext hx1
  have hlen : (F.map rowR).length = F.length := by simp
  repeat (first | refine AL.nil ?_ | refine AWp.seq ?_ | refine AWp.region ?_ | refine AL.set rfl rfl (op_moveP rfl ?_) | refine AL.set rfl rfl (op_nilCheck rfl ?_) | refine AL.set rfl rfl (op_fa rfl ?_) | refine AL.set rfl rfl (op_load rfl rfl r1.box rfl ?_))
  refine AL.set rfl rfl (op_cloneN (z := .agg #[.string ⟨#[]⟩, .string ⟨#[]⟩, .string ⟨#[]⟩]) rfl wf1 r1.rn rfl rfl (by simp only [maxLen]; omega) (by omega) ?_)
  intro u H2 o2 hx2 wf2 n2 _
  have g2 := hx2.c _ _ g1
  have b2 := hx2.c _ _ r1.box
  have hk2 : ∃ w, (F.map rowR)[((k : Nat) : Int).toNat]? = some w := by
    rw [Int.toNat_natCast]
    exact ⟨_, List.getElem?_eq_getElem (by omega)⟩
  obtain ⟨w0, hw0⟩ := hk2
  repeat (first | refine AL.nil ?_ | refine AWp.seq ?_ | refine AWp.region ?_ | refine AL.set rfl rfl (op_moveI rfl ?_) | refine AL.set rfl rfl (op_move (v := u) rfl ?_) | refine AL.set rfl rfl (op_assign (v := u) rfl ?_) | refine AL.set rfl rfl (op_loadA (sz := 3) rfl rfl g2 (Nat.le_refl _) ?_) | refine AL.set rfl rfl (op_indexND o2.rn rfl rfl (by omega) hw0 ?_))
  refine AL.eff rfl (op_storeN (row := rowR f) o2 wf2 rfl rfl rfl rfl (by rw [Int.toNat_natCast]; omega) ?_)
  intro H3 o3 k3 wf3 n3
  have m3 : Md j h H3 := (Md.ext (hx1.trans hx2) wf2 (by omega)).keep wf k3 o2 (by omega) wf3 (by omega)
  have b3 : H3.get j = some (rdB room v) := k3.c _ _ b2 fun s n c hv => by
    have := o2.blk j (by rw [hv]; rfl)
    omega
  repeat (first | refine AL.nil ?_ | refine AWp.region ?_ | refine AL.set rfl rfl (op_moveP rfl ?_) | refine AL.set rfl rfl (op_move (v := u) rfl ?_) | refine AL.set rfl rfl (op_nilCheck rfl ?_) | refine AL.set rfl rfl (op_fa rfl ?_))
  have hu1 : oneB u = true := by
    rcases o3.at_ with ⟨e1, _⟩ | ⟨i, cap, _, e1, _⟩ <;> rw [e1] <;> rfl
  refine AL.eff rfl (op_store (v := u) rfl rfl hu1 b3 rfl (by show 1 < 2; omega) ?_)
  rw [Int.toNat_natCast, ← List.map_set] at o3
  repeat (first | refine AL.nil ?_)
  exact ⟨_, ResV.none rfl, rfl, RSt.of m3 b3 o3.rn (fun i hi => by have := o3.blk i hi; omega) lj (by simpa using hc) r.big hu⟩
theorem rwithout_c (j room : Nat) (v : Value) (F : List RF) (k : Nat) (h : Heap) (r : RAt h j room v F) (hk : k < F.length) :
    ACalls Try.prog 54 [ptr j, .int .i64 (k : Nat)] h fun u h' => u = .tuple #[] ∧ RSt h j room (dropR F k) h' := by
  refine ACalls.wf fun wf => ?_
  refine ACalls.body Try.func54 rfl rfl ?_
  have hc := r.cnt
  have lj := wf.lt r.box
  have hlen : (F.map rowR).length = F.length := by simp
  repeat (first | refine AWp.seq ?_ | refine AWp.region ?_ | refine AL.set rfl rfl (op_moveP rfl ?_) | refine AL.set rfl rfl (op_nilCheck rfl ?_) | refine AL.set rfl rfl (op_fa rfl ?_) | refine AL.set rfl rfl (op_load rfl rfl r.box rfl ?_))
  refine AL.set rfl rfl (op_cloneN (z := .agg #[.string ⟨#[]⟩, .string ⟨#[]⟩, .string ⟨#[]⟩]) rfl wf r.rn rfl rfl (by simp only [maxLen]; omega) (by omega) ?_)
  intro u H2 o2 hx2 wf2 n2 _
  have b2 := hx2.c _ _ r.box
  obtain ⟨w0, hw0⟩ : ∃ w, (F.map rowR)[((k : Nat) : Int).toNat]? = some w := by
    rw [Int.toNat_natCast]
    exact ⟨_, List.getElem?_eq_getElem (by omega)⟩
  obtain ⟨y, hy⟩ : ∃ y, F[F.length - 1]? = some y := ⟨_, List.getElem?_eq_getElem (by omega)⟩
  have hy2 : (F.map rowR)[(((F.map rowR).length : Nat) - 1 : Int).toNat]? = some (rowR y) := by
    rw [show (((F.map rowR).length : Nat) - 1 : Int).toNat = F.length - 1 by rw [hlen]; omega, List.getElem?_map, hy]; rfl
  have hp := o2.rn.elt hy2
  repeat (first | refine AL.nil ?_ | refine AWp.seq ?_ | refine AWp.region ?_ | refine AL.set rfl rfl (op_moveI rfl ?_) | refine AL.set rfl rfl (op_move (v := u) rfl ?_) | refine AL.set rfl rfl (op_assign (v := u) rfl ?_) | refine AL.set rfl rfl (op_lenN o2.rn rfl ?_) | refine AL.set rfl rfl (op_indexND o2.rn rfl rfl (by omega) hy2 ?_) | refine AL.set rfl rfl (op_loadN hp rfl rfl rfl ?_) | refine AL.set rfl rfl (op_indexND o2.rn rfl rfl (by omega) hw0 ?_) | refine AL.set rfl rfl (op_sub64 rfl rfl (by omega) ?_))
  refine AL.eff rfl (op_storeN (row := rowR y) o2 wf2 rfl rfl rfl rfl (by rw [Int.toNat_natCast]; omega) ?_)
  intro H3 o3 k3 wf3 n3
  have m3 : Md j h H3 := (Md.ext hx2 wf2 n2).keep wf k3 o2 (Nat.le_refl _) wf3 (by omega)
  have b3 : H3.get j = some (rdB room v) := k3.c _ _ b2 fun s n c hv => by
    have := o2.blk j (by rw [hv]; rfl)
    omega
  rw [Int.toNat_natCast, ← List.map_set] at o3
  have hlen3 : ((F.set k y).map rowR).length = F.length := by simp
  repeat (first | refine AL.nil ?_ | refine AWp.region ?_ | refine AL.set rfl rfl (op_moveP rfl ?_) | refine AL.set rfl rfl (op_move (v := u) rfl ?_) | refine AL.set rfl rfl (op_nilCheck rfl ?_) | refine AL.set rfl rfl (op_fa rfl ?_) | refine AL.set rfl rfl (op_lenN o3.rn rfl ?_) | refine AL.set rfl rfl (op_sliceN (l := 0) (m := (((F.set k y).map rowR).length : Nat) - 1) o3.rn rfl rfl rfl (by omega) (by omega) (by omega) ?_) | refine AL.set rfl rfl (op_sub64 rfl rfl (by omega) ?_))
  have r4 := o3.rn.sub (l := 0) (m := (((F.set k y).map rowR).length : Nat) - 1) (by omega) (by omega) (by omega)
  rw [show ((((F.set k y).map rowR).length : Nat) - 1 : Int).toNat = F.length - 1 by rw [hlen3]; omega, show ((0 : Int)).toNat = 0 from rfl, List.drop_zero, ← List.map_take] at r4
  have hd : (F.set k y).take (F.length - 1) = dropR F k := by unfold dropR; rw [hy]; rfl
  rw [hd] at r4
  refine AL.eff rfl (op_store (v := subN 3 u 0 ((((F.set k y).map rowR).length : Nat) - 1)) rfl rfl r4.one b3 rfl (by show 1 < 2; omega) ?_)
  repeat (first | refine AL.nil ?_)
  have hdl := dropR_len (F := F) (i := k)
  have hdu := usedR_drop hk
  exact ⟨_, ResV.none rfl, rfl, RSt.of m3 b3 r4 (fun i hi => o3.blk i (vblk_sub _ _ _ _ _ hi)) lj (by omega) r.big (by have := r.used; omega)⟩
theorem eR_cases (F : List RF) (s : List UInt8) : (eR F s = 2 ∧ iR F s = -1 ∧ goodN s = false) ∨ (eR F s = 6 ∧ goodN s = true ∧ seekN F s = none) ∨ ∃ i x, eR F s = 0 ∧ iR F s = (i : Nat) ∧ goodN s = true ∧ seekN F s = some i ∧ F[i]? = some x ∧ x.1 = s := by
  unfold eR iR
  cases hg : goodN s with
  | false => exact .inl ⟨rfl, rfl, rfl⟩
  | true =>
    cases hs : seekN F s with
    | none => exact .inr (.inl ⟨rfl, rfl, rfl⟩)
    | some i =>
      obtain ⟨x, hx, he⟩ := seekN_at hs
      exact .inr (.inr ⟨i, x, rfl, rfl, rfl, rfl, hx, he⟩)
abbrev rfB (f : RF) : Blk := ⟨rowR f, 61, true⟩
abbrev rowV (f : RF) : Value := .agg (rowR f).toArray
theorem op_allocR {ρ : Operand → Value} {h : Heap} {K : Value → Heap → Prop} {dst : Option Tmp} {ty : TypeId} {pos : String} {aft : Array Edge} {g : Option (Nat × Bool)} (kk : K (ptr h.next) (h.alloc (rfB ([], [], [])))) : AOp Try.prog ⟨dst, .alloc 61, ty, pos, aft, g⟩ ρ h K := op_alloc (z := .agg #[.string ⟨#[]⟩, .string ⟨#[]⟩, .string ⟨#[]⟩]) kk
theorem op_storeR {ρ : Operand → Value} {h : Heap} {K : Value → Heap → Prop} {dst : Option Tmp} {ty : TypeId} {pos : String} {aft : Array Edge} {g : Option (Nat × Bool)} {x y : Operand} {j : Nat} (f f' : RF) (hx : ρ x = ptr j) (hy : ρ y = rowV f') (hj : h.get j = some (rfB f)) (kk : K undef (h.set j (rfB f'))) :
    AOp Try.prog ⟨dst, .store 61 x y, ty, pos, aft, g⟩ ρ h K := op_storeA (sz := 3) hx hy rfl rfl hj rfl (Nat.le_refl _) kk
theorem op_loadR3 {ρ : Operand → Value} {h : Heap} {K : Value → Heap → Prop} {dst : Option Tmp} {ty : TypeId} {pos : String} {aft : Array Edge} {g : Option (Nat × Bool)} {x : Operand} {j : Nat} {f : RF} (hx : ρ x = ptr j) (hj : h.get j = some (rfB f)) (kk : K (rowV f) h) :
    AOp Try.prog ⟨dst, .load 61 x, ty, pos, aft, g⟩ ρ h K := op_loadA (sz := 3) hx rfl hj (Nat.le_refl _) kk
theorem Md.low {j : Nat} {h h1 h2 : Heap} (hx : Ext h h1) (m : Md j h1 h2) (_wf : WF h) (hn : h.next ≤ h1.next) : Md j h h2 := ⟨fun i x e n => m.c i x (hx.c i x e) n, fun i x e => m.o i x (hx.o i x e), m.wf, Nat.le_trans hn m.nx⟩
theorem RSt.low {h h1 h2 : Heap} {j room : Nat} {F : List RF} (r : RSt h1 j room F h2) (hx : Ext h h1) (wf : WF h) (hn : h.next ≤ h1.next) : RSt h j room F h2 := by
  obtain ⟨⟨v', r1, r2⟩, m⟩ := r
  exact ⟨⟨v', r1, fun i hi => Nat.le_trans hn (r2 i hi)⟩, m.low hx wf hn⟩
theorem RSt.refl {h : Heap} {j room : Nat} {v : Value} {F : List RF} (_r : RAt h j room v F) (wf : WF h) : Md j h h := Md.refl wf
set_option maxHeartbeats 1000000 in
theorem rappend_c (j room : Nat) (v : Value) (F : List RF) (s : List UInt8) (bv : Value) (b : List UInt8) (h : Heap) (r : RAt h j room v F) (hs : s.length ≤ 4611686018427387904) (hb : RB h bv b) (hbl : b.length ≤ 4611686018427387904) :
    ACalls Try.prog 18 [ptr j, .string (bstr s), bv] h fun u h' => u = .int .i64 (appRE room F s b) ∧ ((appRE room F s b ≠ 0 ∧ h' = h) ∨ (appRE room F s b = 0 ∧ RSt h j room (appR room F s b) h')) := by
  refine ACalls.wf fun wf => ?_
  refine ACalls.body Try.func18 rfl rfl ?_
  have hc := r.cnt
  have hbg := r.big
  have hu := r.used
  have lj := wf.lt r.box
  have hlen : (F.map rowR).length = F.length := by simp
  obtain ⟨ba, bc, hbv⟩ := hb.slice
  rw [bv_length] at hbv
  subst hbv
  have cs := seek_c j room v F s h r hs
  have cu := rused_c j room v F h r
  obtain ⟨e, he⟩ : ∃ e, eR F s = e := ⟨_, rfl⟩
  have hE : appRE room F s b = if e = 2 then 2 else if room < usedR F + b.length ∨ (e = 6 ∧ F.length = 128) then 5 else 0 := by unfold appRE; rw [he]
  have hF : appR room F s b = if e = 2 ∨ room < usedR F + b.length ∨ (e = 6 ∧ F.length = 128) then F else match seekN F s with
    | none => F ++ [(s, [], b)]
    | some i => match F[i]? with
      | some x => F.set i (x.1, x.2.1, x.2.2 ++ b)
      | none => F := by unfold appR; rw [he]; rfl
  rcases eR_cases F s with ⟨h1, h2, h3⟩ | h0
  · rw [h1] at he; subst he
    rw [h1, h2] at cs
    repeat (first | refine AL.nil ?_ | refine AWp.seq ?_ | refine AWp.region ?_ | refine AWp.condT rfl ?_ | refine AWp.ret ?_ | refine AL.set rfl rfl (op_moveI rfl ?_) | refine AL.set rfl rfl (op_moveB rfl ?_) | refine AL.set rfl rfl (op_moveP rfl ?_) | refine AL.set rfl rfl (op_moveStr rfl ?_) | refine AL.set rfl rfl (op_moveT rfl ?_) | refine AL.set rfl rfl (op_assignI rfl ?_) | refine AL.set rfl rfl (op_callS rfl rfl cs ?_) | refine AL.set rfl rfl (op_extract rfl rfl ?_) | refine AL.set rfl rfl (op_intT rfl rfl rfl (by omega) ?_) | refine AL.set rfl rfl (op_intF rfl rfl rfl (by omega) ?_) | refine AL.set rfl rfl (op_pick rfl rfl ?_))
    exact ⟨_, ResV.tmp rfl, by rw [hE]; rfl, .inl ⟨by rw [hE]; simp, rfl⟩⟩
  · have hne : e = 0 ∨ e = 6 := by
      rcases h0 with ⟨h1, _⟩ | ⟨i, x, h1, _⟩ <;> rw [h1] at he <;> omega
    by_cases hroom : room < usedR F + b.length
    · have hE5 : appRE room F s b = 5 := by rw [hE, if_neg (by omega), if_pos (.inl hroom)]
      rw [hE5]
      rw [he] at cs
      generalize iR F s = ii at cs
      repeat (first | refine AL.nil ?_ | refine AWp.seq ?_ | refine AWp.region ?_ | refine AWp.condF rfl ?_ | refine AWp.skip ?_ | refine AL.set rfl rfl (op_moveI rfl ?_) | refine AL.set rfl rfl (op_moveB rfl ?_) | refine AL.set rfl rfl (op_moveP rfl ?_) | refine AL.set rfl rfl (op_moveStr rfl ?_) | refine AL.set rfl rfl (op_moveT rfl ?_) | refine AL.set rfl rfl (op_assignI rfl ?_) | refine AL.set rfl rfl (op_callS rfl rfl cs ?_) | refine AL.set rfl rfl (op_extract rfl rfl ?_) | refine AL.set rfl rfl (op_intF rfl rfl rfl (by omega) ?_) | refine AL.set rfl rfl (op_pick rfl rfl ?_))
      refine AWp.draw (σ := [(0, .R), (1, .R), (2, .R), (3, .R), (4, .R), (5, .R), (6, .R), (7, .R), (8, .R), (9, .R), (10, .R), (11, .R), (12, .R), (13, .R), (14, .R), (15, .R), (16, .R), (17, .R), (18, .R), (19, .R), (20, .R), (21, .R)]) mixed (by kernel_rfl) ?_
      repeat (first | refine DAL.r rfl rfl rfl (fun h' hx hn => op_moveS rfl ⟨rfl, rfl⟩) ?_ | refine DAL.r rfl rfl rfl (fun h' hx hn => op_moveB rfl ⟨rfl, rfl⟩) ?_ | refine DAL.r rfl rfl rfl (fun h' hx hn => op_moveP rfl ⟨rfl, rfl⟩) ?_ | refine DAL.r rfl rfl rfl (fun h' hx hn => op_nilCheck rfl ⟨rfl, rfl⟩) ?_ | refine DAL.r rfl rfl rfl (fun h' hx hn => op_fa rfl ⟨rfl, rfl⟩) ?_ | refine DAL.r rfl rfl rfl (fun h' hx hn => op_load rfl rfl (hx.c _ _ r.box) rfl ⟨rfl, rfl⟩) ?_ | refine DAL.r rfl rfl rfl (fun h' hx hn => op_callS rfl rfl (rused_c j room v F h' (r.ext hx)) ⟨rfl, rfl⟩) ?_ | refine DAL.r rfl rfl rfl (fun h' hx hn => op_intT rfl rfl rfl (by omega) ⟨rfl, rfl⟩) ?_ | refine DAL.r rfl rfl rfl (fun h' hx hn => op_pick rfl rfl ⟨rfl, rfl⟩) ?_ | refine DAL.r rfl rfl rfl (fun h' hx hn => op_sub64 rfl rfl (by omega) ⟨rfl, rfl⟩) ?_ | refine DAL.r rfl rfl rfl (fun h' hx hn => op_lenS rfl ⟨rfl, rfl⟩) ?_ | refine DAL.skip rfl rfl rfl ?_)
      refine DAL.nil ?_
      repeat (first | refine AL.nil ?_ | refine AWp.seq ?_ | refine AWp.region ?_ | refine AWp.condT rfl ?_ | refine AWp.ret ?_ | refine AL.set rfl rfl (op_assignI rfl ?_))
      exact ⟨_, ResV.tmp rfl, rfl, .inl ⟨by decide, rfl⟩⟩
    · rcases h0 with ⟨h1, h2, h3⟩ | ⟨i, x, h1, h2, h3, h4, h5, h6⟩
      · rw [h1] at he; subst he
        rw [h1] at cs
        generalize iR F s = ii at cs
        by_cases h128 : F.length = 128
        · have hE5 : appRE room F s b = 5 := by rw [hE, if_neg (by omega), if_pos (.inr ⟨rfl, h128⟩)]
          rw [hE5]
          repeat (first | refine AL.nil ?_ | refine AWp.seq ?_ | refine AWp.region ?_ | refine AWp.condF rfl ?_ | refine AWp.skip ?_ | refine AL.set rfl rfl (op_moveI rfl ?_) | refine AL.set rfl rfl (op_moveB rfl ?_) | refine AL.set rfl rfl (op_moveP rfl ?_) | refine AL.set rfl rfl (op_moveStr rfl ?_) | refine AL.set rfl rfl (op_moveT rfl ?_) | refine AL.set rfl rfl (op_assignI rfl ?_) | refine AL.set rfl rfl (op_callS rfl rfl cs ?_) | refine AL.set rfl rfl (op_extract rfl rfl ?_) | refine AL.set rfl rfl (op_intF rfl rfl rfl (by omega) ?_) | refine AL.set rfl rfl (op_pick rfl rfl ?_))
          refine AWp.draw (σ := [(0, .R), (1, .R), (2, .R), (3, .R), (4, .R), (5, .R), (6, .R), (7, .R), (8, .R), (9, .R), (10, .R), (11, .R), (12, .R), (13, .R), (14, .R), (15, .R), (16, .R), (17, .R), (18, .R), (19, .R), (20, .R), (21, .R)]) mixed (by kernel_rfl) ?_
          repeat (first | refine DAL.r rfl rfl rfl (fun h' hx hn => op_moveI rfl ⟨rfl, rfl⟩) ?_ | refine DAL.r rfl rfl rfl (fun h' hx hn => op_moveS rfl ⟨rfl, rfl⟩) ?_ | refine DAL.r rfl rfl rfl (fun h' hx hn => op_moveB rfl ⟨rfl, rfl⟩) ?_ | refine DAL.r rfl rfl rfl (fun h' hx hn => op_moveP rfl ⟨rfl, rfl⟩) ?_ | refine DAL.r rfl rfl rfl (fun h' hx hn => op_nilCheck rfl ⟨rfl, rfl⟩) ?_ | refine DAL.r rfl rfl rfl (fun h' hx hn => op_fa rfl ⟨rfl, rfl⟩) ?_ | refine DAL.r rfl rfl rfl (fun h' hx hn => op_load rfl rfl (hx.c _ _ r.box) rfl ⟨rfl, rfl⟩) ?_ | refine DAL.r rfl rfl rfl (fun h' hx hn => op_callS rfl rfl (rused_c j room v F h' (r.ext hx)) ⟨rfl, rfl⟩) ?_ | refine DAL.r rfl rfl rfl (fun h' hx hn => op_lenN (r.rn.ext hx) rfl ⟨rfl, rfl⟩) ?_ | refine DAL.r rfl rfl rfl (fun h' hx hn => op_intT rfl rfl rfl (by omega) ⟨rfl, rfl⟩) ?_ | refine DAL.r rfl rfl rfl (fun h' hx hn => op_intF rfl rfl rfl (by omega) ⟨rfl, rfl⟩) ?_ | refine DAL.r rfl rfl rfl (fun h' hx hn => op_pick rfl rfl ⟨rfl, rfl⟩) ?_ | refine DAL.r rfl rfl rfl (fun h' hx hn => op_sub64 rfl rfl (by omega) ⟨rfl, rfl⟩) ?_ | refine DAL.r rfl rfl rfl (fun h' hx hn => op_lenS rfl ⟨rfl, rfl⟩) ?_)
          refine DAL.nil ?_
          repeat (first | refine AL.nil ?_ | refine AWp.seq ?_ | refine AWp.region ?_ | refine AWp.condT rfl ?_ | refine AWp.ret ?_ | refine AL.set rfl rfl (op_assignI rfl ?_))
          exact ⟨_, ResV.tmp rfl, rfl, .inl ⟨by decide, rfl⟩⟩
        · have hE0 : appRE room F s b = 0 := by rw [hE, if_neg (by omega), if_neg (by omega)]
          have hF0 : appR room F s b = F ++ [(s, [], b)] := by rw [hF, if_neg (by omega), h3]
          rw [hE0, hF0]
          repeat (first | refine AL.nil ?_ | refine AWp.seq ?_ | refine AWp.region ?_ | refine AWp.condF rfl ?_ | refine AWp.skip ?_ | refine AL.set rfl rfl (op_moveI rfl ?_) | refine AL.set rfl rfl (op_moveB rfl ?_) | refine AL.set rfl rfl (op_moveP rfl ?_) | refine AL.set rfl rfl (op_moveStr rfl ?_) | refine AL.set rfl rfl (op_moveT rfl ?_) | refine AL.set rfl rfl (op_assignI rfl ?_) | refine AL.set rfl rfl (op_callS rfl rfl cs ?_) | refine AL.set rfl rfl (op_extract rfl rfl ?_) | refine AL.set rfl rfl (op_intF rfl rfl rfl (by omega) ?_) | refine AL.set rfl rfl (op_pick rfl rfl ?_))
          refine AWp.draw (σ := [(0, .R), (1, .R), (2, .R), (3, .R), (4, .R), (5, .R), (6, .R), (7, .R), (8, .R), (9, .R), (10, .R), (11, .R), (12, .R), (13, .R), (14, .R), (15, .R), (16, .R), (17, .R), (18, .R), (19, .R), (20, .R), (21, .R)]) mixed (by kernel_rfl) ?_
          repeat (first | refine DAL.r rfl rfl rfl (fun h' hx hn => op_moveI rfl ⟨rfl, rfl⟩) ?_ | refine DAL.r rfl rfl rfl (fun h' hx hn => op_moveS rfl ⟨rfl, rfl⟩) ?_ | refine DAL.r rfl rfl rfl (fun h' hx hn => op_moveB rfl ⟨rfl, rfl⟩) ?_ | refine DAL.r rfl rfl rfl (fun h' hx hn => op_moveP rfl ⟨rfl, rfl⟩) ?_ | refine DAL.r rfl rfl rfl (fun h' hx hn => op_nilCheck rfl ⟨rfl, rfl⟩) ?_ | refine DAL.r rfl rfl rfl (fun h' hx hn => op_fa rfl ⟨rfl, rfl⟩) ?_ | refine DAL.r rfl rfl rfl (fun h' hx hn => op_load rfl rfl (hx.c _ _ r.box) rfl ⟨rfl, rfl⟩) ?_ | refine DAL.r rfl rfl rfl (fun h' hx hn => op_callS rfl rfl (rused_c j room v F h' (r.ext hx)) ⟨rfl, rfl⟩) ?_ | refine DAL.r rfl rfl rfl (fun h' hx hn => op_lenN (r.rn.ext hx) rfl ⟨rfl, rfl⟩) ?_ | refine DAL.r rfl rfl rfl (fun h' hx hn => op_intT rfl rfl rfl (by omega) ⟨rfl, rfl⟩) ?_ | refine DAL.r rfl rfl rfl (fun h' hx hn => op_intF rfl rfl rfl (by omega) ⟨rfl, rfl⟩) ?_ | refine DAL.r rfl rfl rfl (fun h' hx hn => op_pick rfl rfl ⟨rfl, rfl⟩) ?_ | refine DAL.r rfl rfl rfl (fun h' hx hn => op_sub64 rfl rfl (by omega) ⟨rfl, rfl⟩) ?_ | refine DAL.r rfl rfl rfl (fun h' hx hn => op_lenS rfl ⟨rfl, rfl⟩) ?_)
          refine DAL.nil ?_
          repeat (first | refine AL.nil ?_ | refine AWp.seq ?_ | refine AWp.region ?_ | refine AWp.condT rfl ?_ | refine AWp.condF rfl ?_ | refine AWp.skip ?_ | refine AL.set rfl rfl (op_moveI rfl ?_) | refine AL.set rfl rfl (op_intT rfl rfl rfl (by omega) ?_))
          refine AWp.tree (t := OT.seq [(0, .P), (1, .P), (2, .P), (3, .P), (4, .R)] (OT.seq [(6, .P), (7, .P), (8, .R), (9, .P)] (.alt (OT.seq [(5, .X), (10, .X), (11, .W), (12, .P), (13, .P), (14, .W)] .nil) (OT.seq [(10, .X), (5, .X), (11, .W), (12, .P), (13, .P), (14, .W)] .nil)))) mixed (by kernel_rfl) ?_
          repeat (first | refine TAL.r rfl rfl rfl (fun h' hx hn => op_load rfl rfl (hx.c _ _ r.box) rfl ⟨rfl, rfl⟩) ?_ | refine TAL.r rfl rfl rfl (fun h' hx hn => op_bytesStrR (hb.ext hx) rfl ⟨rfl, rfl⟩) ?_ | refine TAL.p rfl rfl rfl (fun h' hn => op_moveS rfl ⟨rfl, rfl⟩) ?_ | refine TAL.p rfl rfl rfl (fun h' hn => op_moveP rfl ⟨rfl, rfl⟩) ?_ | refine TAL.p rfl rfl rfl (fun h' hn => op_moveStr rfl ⟨rfl, rfl⟩) ?_ | refine TAL.p rfl rfl rfl (fun h' hn => op_nilCheck rfl ⟨rfl, rfl⟩) ?_ | refine TAL.p rfl rfl rfl (fun h' hn => op_fa rfl ⟨rfl, rfl⟩) ?_ | refine TAL.p rfl rfl rfl (fun h' hn => op_buildS (out := rowR (s, [], b)) rfl rfl ⟨rfl, rfl⟩) ?_)
          refine TAL.two ?_ ?_
          · refine TAL.x rfl rfl rfl (op_cloneN (z := .agg #[.string ⟨#[]⟩, .string ⟨#[]⟩, .string ⟨#[]⟩]) rfl wf r.rn rfl rfl (by simp only [maxLen]; omega) (by omega) ?_)
            intro u H2 o2 hx2 wf2 n2 _
            refine ⟨hx2, ?_⟩
            refine TAL.x rfl rfl rfl (op_rowN1 (sz := 3) (row := rowR (s, [], b)) (by decide) (by decide) rfl rfl ?_)
            refine ⟨wf2.ext _, ?_⟩
            have hx3 := hx2.trans (wf2.ext ⟨rowR (s, [], b), 61, true⟩)
            have wf3 := wf2.alloc ⟨rowR (s, [], b), 61, true⟩
            have g3 := Heap.alloc_new H2 ⟨rowR (s, [], b), 61, true⟩
            have n3 : (H2.alloc ⟨rowR (s, [], b), 61, true⟩).next = H2.next + 1 := rfl
            have o3 := o2.ext (wf2.ext ⟨rowR (s, [], b), 61, true⟩)
            generalize H2.alloc ⟨rowR (s, [], b), 61, true⟩ = H3 at hx3 wf3 g3 n3 o3 ⊢
            refine TAL.w rfl rfl rfl (op_appendN (m := 1) (z := .agg #[.string ⟨#[]⟩, .string ⟨#[]⟩, .string ⟨#[]⟩]) (news := [rowR (s, [], b)]) rfl wf3 (show h.next ≤ H3.next by omega) o3 rfl rfl (RN.row1 rfl g3).src rfl (by simp [rowR]) rfl (by simp only [maxLen]; omega) (by omega) ?_)
            intro u' H4 o4 _ k4 wf4 n4
            have m4 : Md j h H4 := (Md.ext hx3 wf3 (by omega)).keep wf k4 o3 (Nat.le_refl _) wf4 n4
            have b4 : H4.get j = some (rdB room v) := k4.c _ _ (hx3.c _ _ r.box) fun s n c hv => by
              have := o3.blk j (by rw [hv]; rfl)
              omega
            repeat (first | refine TAL.p rfl rfl rfl (fun h' hn => op_nilCheck rfl ⟨rfl, rfl⟩) ?_ | refine TAL.p rfl rfl rfl (fun h' hn => op_fa rfl ⟨rfl, rfl⟩) ?_)
            refine TAL.w0 rfl rfl (op_store (v := u') rfl rfl o4.one b4 rfl (by show 1 < 2; omega) ?_)
            refine TAL.nil ?_
            repeat (first | refine AL.nil ?_ | refine AWp.seq ?_ | refine AWp.region ?_ | refine AWp.ret ?_ | refine AL.set rfl rfl (op_assignI rfl ?_))
            have hr4 := o4.rn
            rw [show F.map rowR ++ [rowR (s, [], b)] = (F ++ [(s, [], b)]).map rowR by simp] at hr4
            exact ⟨_, ResV.tmp rfl, rfl, .inr ⟨rfl, RSt.of m4 b4 hr4 (fun i hi => o4.blk i hi) lj (by simp; omega) hbg (by rw [usedR_push]; simp; omega)⟩⟩
          · refine TAL.x rfl rfl rfl (op_rowN1 (sz := 3) (row := rowR (s, [], b)) (by decide) (by decide) rfl rfl ?_)
            refine ⟨wf.ext _, ?_⟩
            have hx2 := wf.ext ⟨rowR (s, [], b), 61, true⟩
            have wf2 := wf.alloc ⟨rowR (s, [], b), 61, true⟩
            have g2 := Heap.alloc_new h ⟨rowR (s, [], b), 61, true⟩
            have n2 : (h.alloc ⟨rowR (s, [], b), 61, true⟩).next = h.next + 1 := rfl
            generalize h.alloc ⟨rowR (s, [], b), 61, true⟩ = H2 at hx2 wf2 g2 n2 ⊢
            have r2rn := r.rn.ext hx2
            refine TAL.x rfl rfl rfl (op_cloneN (z := .agg #[.string ⟨#[]⟩, .string ⟨#[]⟩, .string ⟨#[]⟩]) rfl wf2 r2rn rfl rfl (by simp only [maxLen]; omega) (by omega) ?_)
            intro u H3 o3' hx3' wf3 n3 _
            refine ⟨hx3', ?_⟩
            have hx3 := hx2.trans hx3'
            have g3 := hx3'.c _ _ g2
            have o3 := o3'.low (show h.next ≤ H2.next by omega)
            refine TAL.w rfl rfl rfl (op_appendN (m := 1) (z := .agg #[.string ⟨#[]⟩, .string ⟨#[]⟩, .string ⟨#[]⟩]) (news := [rowR (s, [], b)]) rfl wf3 (show h.next ≤ H3.next by omega) o3 rfl rfl (RN.row1 rfl g3).src rfl (by simp [rowR]) rfl (by simp only [maxLen]; omega) (by omega) ?_)
            intro u' H4 o4 _ k4 wf4 n4
            have m4 : Md j h H4 := (Md.ext hx3 wf3 (by omega)).keep wf k4 o3 (Nat.le_refl _) wf4 n4
            have b4 : H4.get j = some (rdB room v) := k4.c _ _ (hx3.c _ _ r.box) fun s n c hv => by
              have := o3.blk j (by rw [hv]; rfl)
              omega
            repeat (first | refine TAL.p rfl rfl rfl (fun h' hn => op_nilCheck rfl ⟨rfl, rfl⟩) ?_ | refine TAL.p rfl rfl rfl (fun h' hn => op_fa rfl ⟨rfl, rfl⟩) ?_)
            refine TAL.w0 rfl rfl (op_store (v := u') rfl rfl o4.one b4 rfl (by show 1 < 2; omega) ?_)
            refine TAL.nil ?_
            repeat (first | refine AL.nil ?_ | refine AWp.seq ?_ | refine AWp.region ?_ | refine AWp.ret ?_ | refine AL.set rfl rfl (op_assignI rfl ?_))
            have hr4 := o4.rn
            rw [show F.map rowR ++ [rowR (s, [], b)] = (F ++ [(s, [], b)]).map rowR by simp] at hr4
            exact ⟨_, ResV.tmp rfl, rfl, .inr ⟨rfl, RSt.of m4 b4 hr4 (fun i hi => o4.blk i hi) lj (by simp; omega) hbg (by rw [usedR_push]; simp; omega)⟩⟩
      · rw [h1] at he; subst he
        rw [h1, h2] at cs
        have hE0 : appRE room F s b = 0 := by rw [hE, if_neg (by omega), if_neg (by omega)]
        have hF0 : appR room F s b = F.set i (x.1, x.2.1, x.2.2 ++ b) := by rw [hF, if_neg (by omega), h4]; simp only [h5]
        rw [hE0, hF0]
        have hil := (List.getElem?_eq_some_iff.1 h5).1
        have hx2 := row_at h5
        have hp := r.rn.elt hx2
        have hus := usedR_set (y := (x.1, x.2.1, x.2.2 ++ b)) h5
        simp only [List.length_append] at hus
        have hxl : x.2.1.length + x.2.2.length ≤ usedR F := by
          rw [usedR_perm (eraseIdx_perm h5)]
          unfold usedR
          rw [List.map_cons, List.sum_cons]
          omega
        repeat (first | refine AL.nil ?_ | refine AWp.seq ?_ | refine AWp.region ?_ | refine AWp.condF rfl ?_ | refine AWp.skip ?_ | refine AL.set rfl rfl (op_moveI rfl ?_) | refine AL.set rfl rfl (op_moveB rfl ?_) | refine AL.set rfl rfl (op_moveP rfl ?_) | refine AL.set rfl rfl (op_moveStr rfl ?_) | refine AL.set rfl rfl (op_moveT rfl ?_) | refine AL.set rfl rfl (op_assignI rfl ?_) | refine AL.set rfl rfl (op_callS rfl rfl cs ?_) | refine AL.set rfl rfl (op_extract rfl rfl ?_) | refine AL.set rfl rfl (op_intF rfl rfl rfl (by omega) ?_) | refine AL.set rfl rfl (op_pick rfl rfl ?_))
        refine AWp.draw (σ := [(0, .R), (1, .R), (2, .R), (3, .R), (4, .R), (5, .R), (6, .R), (7, .R), (8, .R), (9, .R), (10, .R), (11, .R), (12, .R), (13, .R), (14, .R), (15, .R), (16, .R), (17, .R), (18, .R), (19, .R), (20, .R), (21, .R)]) mixed (by kernel_rfl) ?_
        repeat (first | refine DAL.r rfl rfl rfl (fun h' hx hn => op_moveI rfl ⟨rfl, rfl⟩) ?_ | refine DAL.r rfl rfl rfl (fun h' hx hn => op_moveS rfl ⟨rfl, rfl⟩) ?_ | refine DAL.r rfl rfl rfl (fun h' hx hn => op_moveB rfl ⟨rfl, rfl⟩) ?_ | refine DAL.r rfl rfl rfl (fun h' hx hn => op_moveP rfl ⟨rfl, rfl⟩) ?_ | refine DAL.r rfl rfl rfl (fun h' hx hn => op_nilCheck rfl ⟨rfl, rfl⟩) ?_ | refine DAL.r rfl rfl rfl (fun h' hx hn => op_fa rfl ⟨rfl, rfl⟩) ?_ | refine DAL.r rfl rfl rfl (fun h' hx hn => op_load rfl rfl (hx.c _ _ r.box) rfl ⟨rfl, rfl⟩) ?_ | refine DAL.r rfl rfl rfl (fun h' hx hn => op_callS rfl rfl (rused_c j room v F h' (r.ext hx)) ⟨rfl, rfl⟩) ?_ | refine DAL.r rfl rfl rfl (fun h' hx hn => op_intF rfl rfl rfl (by omega) ⟨rfl, rfl⟩) ?_ | refine DAL.r rfl rfl rfl (fun h' hx hn => op_pick rfl rfl ⟨rfl, rfl⟩) ?_ | refine DAL.r rfl rfl rfl (fun h' hx hn => op_sub64 rfl rfl (by omega) ⟨rfl, rfl⟩) ?_ | refine DAL.r rfl rfl rfl (fun h' hx hn => op_lenS rfl ⟨rfl, rfl⟩) ?_ | refine DAL.skip rfl rfl rfl ?_)
        refine DAL.nil ?_
        repeat (first | refine AL.nil ?_ | refine AWp.seq ?_ | refine AWp.region ?_ | refine AWp.condF rfl ?_ | refine AWp.skip ?_ | refine AL.set rfl rfl (op_moveI rfl ?_) | refine AL.set rfl rfl (op_moveP rfl ?_) | refine AL.set rfl rfl (op_intF rfl rfl rfl (by omega) ?_) | refine AL.set rfl rfl (op_nilCheck rfl ?_) | refine AL.set rfl rfl (op_fa rfl ?_) | refine AL.set rfl rfl (op_load rfl rfl r.box rfl ?_) | refine AL.set rfl rfl (op_indexND r.rn rfl rfl (by omega) hx2 ?_) | refine AL.set rfl rfl (op_loadN hp rfl rfl rfl ?_) | refine AL.set rfl rfl (op_allocR ?_))
        refine AL.eff rfl (op_storeR ([], [], []) x rfl rfl (Heap.alloc_new _ _) ?_)
        refine AL.heap (Heap.set_alloc _ _ _) ?_
        have hx1 := wf.ext (rfB x)
        have wf1 := wf.alloc (rfB x)
        have g1 := Heap.alloc_new h (rfB x)
        have n1 : (h.alloc (rfB x)).next = h.next + 1 := rfl
        repeat (first | refine AL.nil ?_ | refine AWp.seq ?_ | refine AWp.region ?_ | refine AL.set rfl rfl (op_moveS rfl ?_) | refine AL.set rfl rfl (op_fa rfl ?_) | refine AL.set rfl rfl (op_load rfl rfl g1 rfl ?_) | refine AL.set rfl rfl (op_bytesStrR (hb.ext hx1) rfl ?_) | refine AL.set rfl rfl (op_sCat rfl rfl (by simp only [maxLen]; omega) ?_))
        refine AL.eff rfl (op_store (v := .string (bstr (x.2.2 ++ b))) rfl rfl rfl g1 rfl (by show 2 < 3; omega) ?_)
        refine AL.heap (h' := (h.alloc (rfB x)).set h.next (rfB (x.1, x.2.1, x.2.2 ++ b))) rfl ?_
        refine AL.heap (Heap.set_alloc _ _ _) ?_
        have hx3 := wf.ext (rfB (x.1, x.2.1, x.2.2 ++ b))
        have wf3 := wf.alloc (rfB (x.1, x.2.1, x.2.2 ++ b))
        have g3 := Heap.alloc_new h (rfB (x.1, x.2.1, x.2.2 ++ b))
        have n3 : (h.alloc (rfB (x.1, x.2.1, x.2.2 ++ b))).next = h.next + 1 := rfl
        generalize h.alloc (rfB (x.1, x.2.1, x.2.2 ++ b)) = H3 at hx3 wf3 g3 n3 ⊢
        repeat (first | refine AL.nil ?_ | refine AWp.seq ?_ | refine AWp.region ?_ | refine AL.set rfl rfl (op_moveI rfl ?_) | refine AL.set rfl rfl (op_moveP rfl ?_) | refine AL.set rfl rfl (op_loadR3 rfl g3 ?_))
        refine AL.set rfl rfl (op_call rfl rfl ((rset_c j room v F i (x.1, x.2.1, x.2.2 ++ b) H3 (r.ext hx3) hil (by omega)).mono ?_))
        rintro _ H4 ⟨rfl, r4⟩
        repeat (first | refine AL.nil ?_ | refine AWp.seq ?_ | refine AWp.region ?_ | refine AWp.ret ?_ | refine AL.set rfl rfl (op_assignI rfl ?_))
        exact ⟨_, ResV.tmp rfl, rfl, .inr ⟨rfl, r4.low hx3 wf (by omega)⟩⟩
end Go.Proofs.Ytiebmncpdnbcjaa

/-
  The document's disk: what is synced, named anew, removed, copied.
-/
namespace Go.Proofs.Ytiebmncpdnbcjaa
open Go Go.Eng Go.Dsk
attribute [local irreducible] AWp AL DAL AOp TAL

instance : FnC Try.prog 38 := ⟨Try.f38, Try.func38, by kernel_rfl, by kernel_rfl⟩
theorem RSt.same {h : Heap} {j room : Nat} {v : Value} {F : List RF} (_r : RAt h j room v F) (wf : WF h) : Md j h h := Md.refl wf
theorem usedR_at {F : List RF} {i : Nat} {x : RF} (h : F[i]? = some x) : x.2.1.length + x.2.2.length ≤ usedR F := by
  rw [usedR_perm (eraseIdx_perm h)]
  unfold usedR
  rw [List.map_cons, List.sum_cons]
  omega
theorem rsync_c (j room : Nat) (v : Value) (F : List RF) (s : List UInt8) (h : Heap) (r : RAt h j room v F) (hs : s.length ≤ 4611686018427387904) :
    ACalls Try.prog 19 [ptr j, .string (bstr s)] h fun u h' => u = .int .i64 (eR F s) ∧ ((eR F s ≠ 0 ∧ h' = h) ∨ ∃ i x, eR F s = 0 ∧ seekN F s = some i ∧ F[i]? = some x ∧ x.1 = s ∧ RSt h j room (F.set i (s, x.2.1 ++ x.2.2, [])) h') := by
  refine ACalls.wf fun wf => ?_
  refine ACalls.body Try.func19 rfl rfl ?_
  have hc := r.cnt
  have hbg := r.big
  have hu := r.used
  have hlen : (F.map rowR).length = F.length := by simp
  have cs := seek_c j room v F s h r hs
  rcases eR_cases F s with ⟨h1, h2, h3⟩ | ⟨h1, h2, h3⟩ | ⟨i, x, h1, h2, h3, h4, h5, h6⟩
  · rw [h1] at cs ⊢
    generalize iR F s = ii at cs
    repeat (first | refine AL.nil ?_ | refine AWp.seq ?_ | refine AWp.region ?_ | refine AWp.condF rfl ?_ | refine AWp.ret ?_ | refine AWp.skip ?_ | refine AL.set rfl rfl (op_moveI rfl ?_) | refine AL.set rfl rfl (op_moveP rfl ?_) | refine AL.set rfl rfl (op_moveStr rfl ?_) | refine AL.set rfl rfl (op_moveT rfl ?_) | refine AL.set rfl rfl (op_assignI rfl ?_) | refine AL.set rfl rfl (op_callS rfl rfl cs ?_) | refine AL.set rfl rfl (op_extract rfl rfl ?_) | refine AL.set rfl rfl (op_intF rfl rfl rfl (by omega) ?_))
    exact ⟨_, ResV.tmp rfl, rfl, .inl ⟨by decide, rfl⟩⟩
  · rw [h1] at cs ⊢
    generalize iR F s = ii at cs
    repeat (first | refine AL.nil ?_ | refine AWp.seq ?_ | refine AWp.region ?_ | refine AWp.condF rfl ?_ | refine AWp.ret ?_ | refine AWp.skip ?_ | refine AL.set rfl rfl (op_moveI rfl ?_) | refine AL.set rfl rfl (op_moveP rfl ?_) | refine AL.set rfl rfl (op_moveStr rfl ?_) | refine AL.set rfl rfl (op_moveT rfl ?_) | refine AL.set rfl rfl (op_assignI rfl ?_) | refine AL.set rfl rfl (op_callS rfl rfl cs ?_) | refine AL.set rfl rfl (op_extract rfl rfl ?_) | refine AL.set rfl rfl (op_intF rfl rfl rfl (by omega) ?_))
    exact ⟨_, ResV.tmp rfl, rfl, .inl ⟨by decide, rfl⟩⟩
  · rw [h1, h2] at cs
    rw [h1]
    have hil := (List.getElem?_eq_some_iff.1 h5).1
    have hx2 := row_at h5
    have hp := r.rn.elt hx2
    have hxl := usedR_at h5
    have hus := usedR_set (y := (s, x.2.1 ++ x.2.2, [])) h5
    simp only [List.length_append, List.length_nil] at hus
    have ca := rall_c x h (by omega)
    repeat (first | refine AL.nil ?_ | refine AWp.seq ?_ | refine AWp.region ?_ | refine AWp.condT rfl ?_ | refine AL.set rfl rfl (op_moveI rfl ?_) | refine AL.set rfl rfl (op_moveP rfl ?_) | refine AL.set rfl rfl (op_moveStr rfl ?_) | refine AL.set rfl rfl (op_moveT rfl ?_) | refine AL.set rfl rfl (op_assignI rfl ?_) | refine AL.set rfl rfl (op_callS rfl rfl cs ?_) | refine AL.set rfl rfl (op_extract rfl rfl ?_) | refine AL.set rfl rfl (op_intT rfl rfl rfl (by omega) ?_) | refine AL.set rfl rfl (op_nilCheck rfl ?_) | refine AL.set rfl rfl (op_fa rfl ?_) | refine AL.set rfl rfl (op_load rfl rfl r.box rfl ?_) | refine AL.set rfl rfl (op_indexND r.rn rfl rfl (by omega) hx2 ?_) | refine AL.set rfl rfl (op_loadN hp rfl rfl rfl ?_) | refine AL.set rfl rfl (op_callS rfl rfl ca ?_) | refine AL.set rfl rfl (op_buildS (out := rowR (s, x.2.1 ++ x.2.2, [])) rfl rfl ?_))
    refine AL.set rfl rfl (op_call rfl rfl ((rset_c j room v F i (s, x.2.1 ++ x.2.2, []) h r hil (by omega)).mono ?_))
    rintro _ H4 ⟨rfl, r4⟩
    repeat (first | refine AL.nil ?_ | refine AWp.seq ?_ | refine AWp.region ?_ | refine AWp.ret ?_ | refine AL.set rfl rfl (op_moveI rfl ?_) | refine AL.set rfl rfl (op_assignI rfl ?_))
    exact ⟨_, ResV.tmp rfl, rfl, .inr ⟨i, x, rfl, h4, h5, h6, r4⟩⟩
theorem rremove_c (j room : Nat) (v : Value) (F : List RF) (s : List UInt8) (h : Heap) (r : RAt h j room v F) (hs : s.length ≤ 4611686018427387904) :
    ACalls Try.prog 32 [ptr j, .string (bstr s)] h fun u h' => u = .int .i64 (eR F s) ∧ ((eR F s ≠ 0 ∧ h' = h) ∨ ∃ i x, eR F s = 0 ∧ seekN F s = some i ∧ F[i]? = some x ∧ x.1 = s ∧ RSt h j room (dropR F i) h') := by
  refine ACalls.wf fun wf => ?_
  refine ACalls.body Try.func32 rfl rfl ?_
  have hc := r.cnt
  have cs := seek_c j room v F s h r hs
  rcases eR_cases F s with ⟨h1, h2, h3⟩ | ⟨h1, h2, h3⟩ | ⟨i, x, h1, h2, h3, h4, h5, h6⟩
  · rw [h1] at cs ⊢
    generalize iR F s = ii at cs
    repeat (first | refine AL.nil ?_ | refine AWp.seq ?_ | refine AWp.region ?_ | refine AWp.condF rfl ?_ | refine AWp.ret ?_ | refine AWp.skip ?_ | refine AL.set rfl rfl (op_moveI rfl ?_) | refine AL.set rfl rfl (op_moveP rfl ?_) | refine AL.set rfl rfl (op_moveStr rfl ?_) | refine AL.set rfl rfl (op_moveT rfl ?_) | refine AL.set rfl rfl (op_assignI rfl ?_) | refine AL.set rfl rfl (op_callS rfl rfl cs ?_) | refine AL.set rfl rfl (op_extract rfl rfl ?_) | refine AL.set rfl rfl (op_intF rfl rfl rfl (by omega) ?_))
    exact ⟨_, ResV.tmp rfl, rfl, .inl ⟨by decide, rfl⟩⟩
  · rw [h1] at cs ⊢
    generalize iR F s = ii at cs
    repeat (first | refine AL.nil ?_ | refine AWp.seq ?_ | refine AWp.region ?_ | refine AWp.condF rfl ?_ | refine AWp.ret ?_ | refine AWp.skip ?_ | refine AL.set rfl rfl (op_moveI rfl ?_) | refine AL.set rfl rfl (op_moveP rfl ?_) | refine AL.set rfl rfl (op_moveStr rfl ?_) | refine AL.set rfl rfl (op_moveT rfl ?_) | refine AL.set rfl rfl (op_assignI rfl ?_) | refine AL.set rfl rfl (op_callS rfl rfl cs ?_) | refine AL.set rfl rfl (op_extract rfl rfl ?_) | refine AL.set rfl rfl (op_intF rfl rfl rfl (by omega) ?_))
    exact ⟨_, ResV.tmp rfl, rfl, .inl ⟨by decide, rfl⟩⟩
  · rw [h1, h2] at cs
    rw [h1]
    have hil := (List.getElem?_eq_some_iff.1 h5).1
    repeat (first | refine AL.nil ?_ | refine AWp.seq ?_ | refine AWp.region ?_ | refine AWp.condT rfl ?_ | refine AL.set rfl rfl (op_moveI rfl ?_) | refine AL.set rfl rfl (op_moveP rfl ?_) | refine AL.set rfl rfl (op_moveStr rfl ?_) | refine AL.set rfl rfl (op_moveT rfl ?_) | refine AL.set rfl rfl (op_assignI rfl ?_) | refine AL.set rfl rfl (op_callS rfl rfl cs ?_) | refine AL.set rfl rfl (op_extract rfl rfl ?_) | refine AL.set rfl rfl (op_intT rfl rfl rfl (by omega) ?_))
    refine AL.set rfl rfl (op_call rfl rfl ((rwithout_c j room v F i h r hil).mono ?_))
    rintro _ H4 ⟨rfl, r4⟩
    repeat (first | refine AL.nil ?_ | refine AWp.seq ?_ | refine AWp.region ?_ | refine AWp.ret ?_ | refine AL.set rfl rfl (op_moveI rfl ?_) | refine AL.set rfl rfl (op_assignI rfl ?_))
    exact ⟨_, ResV.tmp rfl, rfl, .inr ⟨i, x, rfl, h4, h5, h6, r4⟩⟩
def renRE (F : List RF) (s t : List UInt8) : Int := if eR F s = 2 ∨ eR F t = 2 then 2 else eR F s
set_option maxHeartbeats 1000000 in
theorem rrename_c (j room : Nat) (v : Value) (F : List RF) (s t : List UInt8) (h : Heap) (r : RAt h j room v F) (hs : s.length ≤ 4611686018427387904) (ht : t.length ≤ 4611686018427387904) :
    ACalls Try.prog 48 [ptr j, .string (bstr s), .string (bstr t)] h fun u h' => u = .int .i64 (renRE F s t) ∧ (((renRE F s t ≠ 0 ∨ s = t) ∧ h' = h) ∨ ∃ i x, renRE F s t = 0 ∧ s ≠ t ∧ seekN F s = some i ∧ F[i]? = some x ∧ x.1 = s ∧
      ((seekN F t = none ∧ RSt h j room (F.set i (t, x.2.1, x.2.2)) h') ∨ ∃ k y, seekN F t = some k ∧ F[k]? = some y ∧ y.1 = t ∧ RSt h j room (dropR (F.set i (t, x.2.1, x.2.2)) k) h')) := by
  refine ACalls.wf fun wf => ?_
  refine ACalls.body Try.func48 rfl rfl ?_
  have hc := r.cnt
  have hbg := r.big
  have hu := r.used
  have hlen : (F.map rowR).length = F.length := by simp
  have cs := seek_c j room v F s h r hs
  have ct := seek_c j room v F t h r ht
  have fin2 : ∀ {e f : Int}, eR F s = e → eR F t = f → renRE F s t = if e = 2 ∨ f = 2 then 2 else e := by intro e f h1 h2; unfold renRE; rw [h1, h2]
  have e2 : ∀ {e f : Int}, (e = 2 ∨ f = 2) → (e = 0 ∨ e = 2 ∨ e = 6) → (f = 0 ∨ f = 2 ∨ f = 6) → eR F s = e → eR F t = f → ACalls Try.prog 28 [ptr j, .string (bstr s)] h (fun u h' => u = .tuple #[.int .i64 (iR F s), .int .i64 e] ∧ h' = h) → True := fun _ _ _ _ _ _ => trivial
  clear e2
  rcases eR_cases F s with ⟨h1, h2, h3⟩ | ⟨h1, h2, h3⟩ | ⟨i, x, h1, h2, h3, h4, h5, h6⟩
  · have hE := fin2 h1 rfl
    rw [hE, if_pos (.inl rfl)]
    rw [h1] at cs
    generalize iR F s = ii at cs
    generalize iR F t = kk at ct
    generalize eR F t = ff at ct
    repeat (first | refine AL.nil ?_ | refine AL.skip rfl rfl ?_ | refine AWp.seq ?_ | refine AWp.region ?_ | refine AWp.condT rfl ?_ | refine AWp.condF rfl ?_ | refine AWp.ret ?_ | refine AWp.block ?_ | refine AL.set rfl rfl (op_moveI rfl ?_) | refine AL.set rfl rfl (op_moveB rfl ?_) | refine AL.set rfl rfl (op_moveP rfl ?_) | refine AL.set rfl rfl (op_moveStr rfl ?_) | refine AL.set rfl rfl (op_moveT rfl ?_) | refine AL.set rfl rfl (op_assignI rfl ?_) | refine AL.set rfl rfl (op_assignB rfl ?_) | refine AL.set rfl rfl (op_callS rfl rfl cs ?_) | refine AL.set rfl rfl (op_callS rfl rfl ct ?_) | refine AL.set rfl rfl (op_extract rfl rfl ?_) | refine AL.set rfl rfl (op_intT rfl rfl rfl (by omega) ?_) | refine AL.set rfl rfl (op_intF rfl rfl rfl (by omega) ?_) | refine AL.set rfl rfl (op_pick rfl rfl ?_))
    exact ⟨_, ResV.tmp rfl, rfl, .inl ⟨.inl (by decide), rfl⟩⟩
  · rw [h1] at cs
    generalize iR F s = ii at cs
    rcases eR_cases F t with ⟨k1, k2, k3⟩ | k0
    · rw [fin2 h1 k1, if_pos (.inr rfl)]
      rw [k1] at ct
      generalize iR F t = kk at ct
      repeat (first | refine AL.nil ?_ | refine AWp.seq ?_ | refine AWp.region ?_ | refine AWp.condT rfl ?_ | refine AWp.condF rfl ?_ | refine AWp.ret ?_ | refine AWp.block ?_ | refine AL.set rfl rfl (op_moveI rfl ?_) | refine AL.set rfl rfl (op_moveB rfl ?_) | refine AL.set rfl rfl (op_moveP rfl ?_) | refine AL.set rfl rfl (op_moveStr rfl ?_) | refine AL.set rfl rfl (op_moveT rfl ?_) | refine AL.set rfl rfl (op_assignI rfl ?_) | refine AL.set rfl rfl (op_assignB rfl ?_) | refine AL.set rfl rfl (op_callS rfl rfl cs ?_) | refine AL.set rfl rfl (op_callS rfl rfl ct ?_) | refine AL.set rfl rfl (op_extract rfl rfl ?_) | refine AL.set rfl rfl (op_intT rfl rfl rfl (by omega) ?_) | refine AL.set rfl rfl (op_intF rfl rfl rfl (by omega) ?_) | refine AL.set rfl rfl (op_pick rfl rfl ?_))
      exact ⟨_, ResV.tmp rfl, rfl, .inl ⟨.inl (by decide), rfl⟩⟩
    · have hf : eR F t ≠ 2 := by rcases k0 with ⟨k1, _⟩ | ⟨_, _, k1, _⟩ <;> rw [k1] <;> decide
      rw [fin2 h1 rfl, if_neg (by omega)]
      generalize iR F t = kk at ct
      generalize eR F t = ff at ct hf
      repeat (first | refine AL.nil ?_ | refine AL.skip rfl rfl ?_ | refine AWp.seq ?_ | refine AWp.region ?_ | refine AWp.condT rfl ?_ | refine AWp.condF rfl ?_ | refine AWp.ret ?_ | refine AWp.block ?_ | refine AL.set rfl rfl (op_moveI rfl ?_) | refine AL.set rfl rfl (op_moveB rfl ?_) | refine AL.set rfl rfl (op_moveP rfl ?_) | refine AL.set rfl rfl (op_moveStr rfl ?_) | refine AL.set rfl rfl (op_moveT rfl ?_) | refine AL.set rfl rfl (op_assignI rfl ?_) | refine AL.set rfl rfl (op_assignB rfl ?_) | refine AL.set rfl rfl (op_callS rfl rfl cs ?_) | refine AL.set rfl rfl (op_callS rfl rfl ct ?_) | refine AL.set rfl rfl (op_extract rfl rfl ?_) | refine AL.set rfl rfl (op_intT rfl rfl rfl (by omega) ?_) | refine AL.set rfl rfl (op_intF rfl rfl rfl (by omega) ?_) | refine AL.set rfl rfl (op_pick rfl rfl ?_))
      exact ⟨_, ResV.tmp rfl, rfl, .inl ⟨.inl (by decide), rfl⟩⟩
  · rw [h1, h2] at cs
    rcases eR_cases F t with ⟨k1, k2, k3⟩ | k0
    · rw [fin2 h1 k1, if_pos (.inr rfl)]
      rw [k1] at ct
      generalize iR F t = kk at ct
      repeat (first | refine AL.nil ?_ | refine AWp.seq ?_ | refine AWp.region ?_ | refine AWp.condT rfl ?_ | refine AWp.condF rfl ?_ | refine AWp.ret ?_ | refine AWp.block ?_ | refine AL.set rfl rfl (op_moveI rfl ?_) | refine AL.set rfl rfl (op_moveB rfl ?_) | refine AL.set rfl rfl (op_moveP rfl ?_) | refine AL.set rfl rfl (op_moveStr rfl ?_) | refine AL.set rfl rfl (op_moveT rfl ?_) | refine AL.set rfl rfl (op_assignI rfl ?_) | refine AL.set rfl rfl (op_assignB rfl ?_) | refine AL.set rfl rfl (op_callS rfl rfl cs ?_) | refine AL.set rfl rfl (op_callS rfl rfl ct ?_) | refine AL.set rfl rfl (op_extract rfl rfl ?_) | refine AL.set rfl rfl (op_intT rfl rfl rfl (by omega) ?_) | refine AL.set rfl rfl (op_intF rfl rfl rfl (by omega) ?_) | refine AL.set rfl rfl (op_pick rfl rfl ?_))
      exact ⟨_, ResV.tmp rfl, rfl, .inl ⟨.inl (by decide), rfl⟩⟩
    · have hf : eR F t ≠ 2 := by rcases k0 with ⟨k1, _⟩ | ⟨_, _, k1, _⟩ <;> rw [k1] <;> decide
      rw [fin2 h1 rfl, if_neg (by omega)]
      by_cases hst : s = t
      · generalize iR F t = kk at ct
        generalize eR F t = ff at ct hf
        repeat (first | refine AL.nil ?_ | refine AWp.seq ?_ | refine AWp.region ?_ | refine AWp.condT rfl ?_ | refine AWp.condF rfl ?_ | refine AWp.ret ?_ | refine AWp.block ?_ | refine AL.set rfl rfl (op_moveI rfl ?_) | refine AL.set rfl rfl (op_moveB rfl ?_) | refine AL.set rfl rfl (op_moveP rfl ?_) | refine AL.set rfl rfl (op_moveStr rfl ?_) | refine AL.set rfl rfl (op_moveT rfl ?_) | refine AL.set rfl rfl (op_assignI rfl ?_) | refine AL.set rfl rfl (op_assignB rfl ?_) | refine AL.set rfl rfl (op_callS rfl rfl cs ?_) | refine AL.set rfl rfl (op_callS rfl rfl ct ?_) | refine AL.set rfl rfl (op_extract rfl rfl ?_) | refine AL.set rfl rfl (op_intF rfl rfl rfl (by omega) ?_) | refine AL.set rfl rfl (op_pick rfl rfl ?_) | refine AL.set rfl rfl (op_sEqT rfl rfl hst ?_))
        exact ⟨_, ResV.tmp rfl, rfl, .inl ⟨.inr hst, rfl⟩⟩
      · have hil := (List.getElem?_eq_some_iff.1 h5).1
        have hx2 := row_at h5
        have hp := r.rn.elt hx2
        have hus := usedR_set (y := (t, x.2.1, x.2.2)) h5
        simp only at hus
        have hx1 := wf.ext (rfB x)
        have g1 := Heap.alloc_new h (rfB x)
        have hx3 := wf.ext (rfB (t, x.2.1, x.2.2))
        have wf3 := wf.alloc (rfB (t, x.2.1, x.2.2))
        have g3 := Heap.alloc_new h (rfB (t, x.2.1, x.2.2))
        have n3 : (h.alloc (rfB (t, x.2.1, x.2.2))).next = h.next + 1 := rfl
        rcases k0 with ⟨k1, k2, k3⟩ | ⟨k, y, k1, k2, k3, k4, k5, k6⟩
        · rw [k1] at ct
          generalize iR F t = kk at ct
          repeat (first | refine AL.nil ?_ | refine AWp.seq ?_ | refine AWp.region ?_ | refine AWp.condF rfl ?_ | refine AWp.block ?_ | refine AWp.skip ?_ | refine AL.set rfl rfl (op_moveI rfl ?_) | refine AL.set rfl rfl (op_moveB rfl ?_) | refine AL.set rfl rfl (op_moveP rfl ?_) | refine AL.set rfl rfl (op_moveStr rfl ?_) | refine AL.set rfl rfl (op_moveT rfl ?_) | refine AL.set rfl rfl (op_assignI rfl ?_) | refine AL.set rfl rfl (op_assignB rfl ?_) | refine AL.set rfl rfl (op_callS rfl rfl cs ?_) | refine AL.set rfl rfl (op_callS rfl rfl ct ?_) | refine AL.set rfl rfl (op_extract rfl rfl ?_) | refine AL.set rfl rfl (op_intF rfl rfl rfl (by omega) ?_) | refine AL.set rfl rfl (op_pick rfl rfl ?_) | refine AL.set rfl rfl (op_sEqF rfl rfl hst ?_) | refine AL.set rfl rfl (op_nilCheck rfl ?_) | refine AL.set rfl rfl (op_fa rfl ?_) | refine AL.set rfl rfl (op_load rfl rfl r.box rfl ?_) | refine AL.set rfl rfl (op_indexND r.rn rfl rfl (by omega) hx2 ?_) | refine AL.set rfl rfl (op_loadN hp rfl rfl rfl ?_) | refine AL.set rfl rfl (op_allocR ?_))
          refine AL.eff rfl (op_storeR ([], [], []) x rfl rfl (Heap.alloc_new _ _) ?_)
          refine AL.heap (Heap.set_alloc _ _ _) ?_
          repeat (first | refine AL.nil ?_ | refine AWp.seq ?_ | refine AWp.region ?_ | refine AL.set rfl rfl (op_moveStr rfl ?_) | refine AL.set rfl rfl (op_fa rfl ?_))
          refine AL.eff rfl (op_store (v := .string (bstr t)) rfl rfl rfl g1 rfl (by show 0 < 3; omega) ?_)
          refine AL.heap (h' := (h.alloc (rfB x)).set h.next (rfB (t, x.2.1, x.2.2))) rfl ?_
          refine AL.heap (Heap.set_alloc _ _ _) ?_
          generalize h.alloc (rfB (t, x.2.1, x.2.2)) = H3 at hx3 wf3 g3 n3 ⊢
          repeat (first | refine AL.nil ?_ | refine AWp.seq ?_ | refine AWp.region ?_ | refine AL.set rfl rfl (op_moveI rfl ?_) | refine AL.set rfl rfl (op_moveP rfl ?_) | refine AL.set rfl rfl (op_loadR3 rfl g3 ?_))
          refine AL.set rfl rfl (op_call rfl rfl ((rset_c j room v F i (t, x.2.1, x.2.2) H3 (r.ext hx3) hil (by omega)).mono ?_))
          rintro _ H4 ⟨rfl, r4⟩
          repeat (first | refine AL.nil ?_ | refine AWp.seq ?_ | refine AWp.region ?_ | refine AWp.condF rfl ?_ | refine AWp.ret ?_ | refine AWp.skip ?_ | refine AL.set rfl rfl (op_moveI rfl ?_) | refine AL.set rfl rfl (op_assignI rfl ?_) | refine AL.set rfl rfl (op_intF rfl rfl rfl (by omega) ?_))
          exact ⟨_, ResV.tmp rfl, rfl, .inr ⟨i, x, rfl, hst, h4, h5, h6, .inl ⟨k3, r4.low hx3 wf (by omega)⟩⟩⟩
        · rw [k1, k2] at ct
          have hkl := (List.getElem?_eq_some_iff.1 k5).1
          repeat (first | refine AL.nil ?_ | refine AWp.seq ?_ | refine AWp.region ?_ | refine AWp.condF rfl ?_ | refine AWp.block ?_ | refine AWp.skip ?_ | refine AL.set rfl rfl (op_moveI rfl ?_) | refine AL.set rfl rfl (op_moveB rfl ?_) | refine AL.set rfl rfl (op_moveP rfl ?_) | refine AL.set rfl rfl (op_moveStr rfl ?_) | refine AL.set rfl rfl (op_moveT rfl ?_) | refine AL.set rfl rfl (op_assignI rfl ?_) | refine AL.set rfl rfl (op_assignB rfl ?_) | refine AL.set rfl rfl (op_callS rfl rfl cs ?_) | refine AL.set rfl rfl (op_callS rfl rfl ct ?_) | refine AL.set rfl rfl (op_extract rfl rfl ?_) | refine AL.set rfl rfl (op_intF rfl rfl rfl (by omega) ?_) | refine AL.set rfl rfl (op_pick rfl rfl ?_) | refine AL.set rfl rfl (op_sEqF rfl rfl hst ?_) | refine AL.set rfl rfl (op_nilCheck rfl ?_) | refine AL.set rfl rfl (op_fa rfl ?_) | refine AL.set rfl rfl (op_load rfl rfl r.box rfl ?_) | refine AL.set rfl rfl (op_indexND r.rn rfl rfl (by omega) hx2 ?_) | refine AL.set rfl rfl (op_loadN hp rfl rfl rfl ?_) | refine AL.set rfl rfl (op_allocR ?_))
          refine AL.eff rfl (op_storeR ([], [], []) x rfl rfl (Heap.alloc_new _ _) ?_)
          refine AL.heap (Heap.set_alloc _ _ _) ?_
          repeat (first | refine AL.nil ?_ | refine AWp.seq ?_ | refine AWp.region ?_ | refine AL.set rfl rfl (op_moveStr rfl ?_) | refine AL.set rfl rfl (op_fa rfl ?_))
          refine AL.eff rfl (op_store (v := .string (bstr t)) rfl rfl rfl g1 rfl (by show 0 < 3; omega) ?_)
          refine AL.heap (h' := (h.alloc (rfB x)).set h.next (rfB (t, x.2.1, x.2.2))) rfl ?_
          refine AL.heap (Heap.set_alloc _ _ _) ?_
          generalize h.alloc (rfB (t, x.2.1, x.2.2)) = H3 at hx3 wf3 g3 n3 ⊢
          repeat (first | refine AL.nil ?_ | refine AWp.seq ?_ | refine AWp.region ?_ | refine AL.set rfl rfl (op_moveI rfl ?_) | refine AL.set rfl rfl (op_moveP rfl ?_) | refine AL.set rfl rfl (op_loadR3 rfl g3 ?_))
          refine AL.set rfl rfl (op_call rfl rfl ((rset_c j room v F i (t, x.2.1, x.2.2) H3 (r.ext hx3) hil (by omega)).mono ?_))
          rintro _ H4 ⟨rfl, r4⟩
          have r5 := r4.low hx3 wf (by omega)
          obtain ⟨⟨v', r6, r7⟩, m4⟩ := r5
          repeat (first | refine AL.nil ?_ | refine AWp.seq ?_ | refine AWp.region ?_ | refine AWp.condT rfl ?_ | refine AL.set rfl rfl (op_moveI rfl ?_) | refine AL.set rfl rfl (op_moveP rfl ?_) | refine AL.set rfl rfl (op_intT rfl rfl rfl (by omega) ?_))
          refine AL.set rfl rfl (op_call rfl rfl ((rwithout_c j room v' _ k H4 r6 (by simpa using hkl)).mono ?_))
          rintro _ H5 ⟨rfl, ⟨⟨v'', r8, r9⟩, m5⟩⟩
          repeat (first | refine AL.nil ?_ | refine AWp.seq ?_ | refine AWp.region ?_ | refine AWp.ret ?_ | refine AL.set rfl rfl (op_assignI rfl ?_))
          exact ⟨_, ResV.tmp rfl, rfl, .inr ⟨i, x, rfl, hst, h4, h5, h6, .inr ⟨k, y, k4, k5, k6, ⟨⟨v'', r8, fun i hi => Nat.le_trans m4.nx (r9 i hi)⟩, m4.trans m5⟩⟩⟩⟩
theorem rcopy_c (j room : Nat) (v : Value) (F : List RF) (h : Heap) (r : RAt h j room v F) :
    ACalls Try.prog 38 [ptr j] h fun u h' => ∃ j' v', u = ptr j' ∧ h.next ≤ j' ∧ RAt h' j' room v' F ∧ (∀ i, vblk v' = some i → h.next ≤ i) ∧ Ext h h' ∧ WF h' ∧ h.next ≤ h'.next := by
  refine ACalls.wf fun wf => ?_
  refine ACalls.body Try.func38 rfl rfl ?_
  have hc := r.cnt
  have hlen : (F.map rowR).length = F.length := by simp
  repeat (first | refine AL.nil ?_ | refine AWp.seq ?_ | refine AWp.region ?_ | refine AWp.condF rfl ?_ | refine AWp.skip ?_ | refine AL.set rfl rfl (op_moveP rfl ?_) | refine AL.set rfl rfl (op_assignP rfl ?_) | refine AL.set rfl rfl (op_eqPtrNil rfl rfl ?_))
  refine AWp.draw (σ := [(0, .R), (1, .R), (2, .R), (3, .R), (4, .R), (5, .R), (6, .R), (7, .R), (8, .X), (9, .R), (10, .X), (11, .R)]) mixed (by kernel_rfl) ?_
  repeat (first | refine DAL.r rfl rfl rfl (fun h' hx hn => op_moveP rfl ⟨rfl, rfl⟩) ?_ | refine DAL.r rfl rfl rfl (fun h' hx hn => op_nilCheck rfl ⟨rfl, rfl⟩) ?_ | refine DAL.r rfl rfl rfl (fun h' hx hn => op_fa rfl ⟨rfl, rfl⟩) ?_ | refine DAL.r rfl rfl rfl (fun h' hx hn => op_load rfl rfl (hx.c _ _ r.box) rfl ⟨rfl, rfl⟩) ?_)
  refine DAL.x rfl rfl rfl (op_cloneN (z := .agg #[.string ⟨#[]⟩, .string ⟨#[]⟩, .string ⟨#[]⟩]) rfl wf r.rn rfl rfl (by simp only [maxLen]; omega) (by omega) ?_)
  intro u H2 o2 hx2 wf2 n2 _
  refine ⟨hx2, ?_⟩
  obtain ⟨ua, uc, rfl⟩ := o2.rn.slice
  repeat (first | refine DAL.r rfl rfl rfl (fun h' hx hn => op_buildS (out := [.int .i64 (room : Nat), .slice ua (F.map rowR).length uc]) rfl rfl ⟨rfl, rfl⟩) ?_)
  refine DAL.x rfl rfl rfl (op_box (v := .agg #[.int .i64 (room : Nat), .slice ua (F.map rowR).length uc]) rfl (by intro e; cases e) ?_)
  refine ⟨wf2.ext _, ?_⟩
  have o3 := o2.ext (wf2.ext (rdB room (.slice ua (F.map rowR).length uc)))
  repeat (first | refine DAL.r rfl rfl rfl (fun h' hx hn => op_assignP rfl ⟨rfl, rfl⟩) ?_)
  refine DAL.nil ?_
  repeat (first | refine AWp.ret ?_)
  exact ⟨_, ResV.tmp rfl, H2.next, _, rfl, n2, ⟨Heap.alloc_new _ _, o3.rn, r.cnt, r.big, r.used⟩, fun i hi => o3.blk i hi, hx2.trans (wf2.ext _), wf2.alloc _, Nat.le_trans n2 (Nat.le_succ _)⟩
end Go.Proofs.Ytiebmncpdnbcjaa

/-
  Crashes, in plain words: what is told, what is refused, what is left.
-/
namespace Go.Dsk
open Go Go.Eng

abbrev Kp1 := List UInt8 × Int
def keepR (x : Kp1) : List Value := [.string (bstr x.1), .int .i64 x.2]
theorem keeps_len (ks : List Kp1) : ∀ r ∈ ks.map keepR, r.length = 2 := by
  intro r hr
  obtain ⟨f, _, rfl⟩ := List.mem_map.1 hr
  rfl
def told (ks : List Kp1) (s : List UInt8) : Int := ((ks.find? fun x => x.1 == s).map (·.2)).getD 0
def badK : List Kp1 → Bool
  | [] => false
  | x :: ks => !goodN x.1 || decide (x.2 < 0) || ks.any (fun y => y.1 == x.1) || badK ks
def missK (F : List RF) (ks : List Kp1) : Bool := ks.any fun x => eR F x.1 == 6
def crashE (F : List RF) (ks : List Kp1) : Int := if badK ks then 2 else if missK F ks then 6 else 0
def cutR (ks : List Kp1) (f : RF) : RF := (f.1, f.2.1 ++ f.2.2.take (min (told ks f.1) f.2.2.length).toNat, [])
def crashL (F : List RF) (ks : List Kp1) : List RF := F.map (cutR ks)
theorem badK_mem {ks : List Kp1} (h : badK ks = false) : ∀ x ∈ ks, goodN x.1 = true ∧ 0 ≤ x.2 := by
  induction ks with
  | nil => intro x hx; cases hx
  | cons a ks ih =>
    simp only [badK, Bool.or_eq_false_iff, Bool.not_eq_false', decide_eq_false_iff_not] at h
    intro x hx
    rcases List.mem_cons.1 hx with rfl | hx
    · exact ⟨h.1.1.1, by omega⟩
    · exact ih h.2 x hx
theorem told_nonneg {ks : List Kp1} (h : badK ks = false) (s : List UInt8) : 0 ≤ told ks s := by
  unfold told
  cases hf : ks.find? (fun x => x.1 == s) with
  | none => exact Int.le_refl 0
  | some x => exact (badK_mem h x (List.mem_of_find?_eq_some hf)).2
theorem hasS_put {α : Type} (l : List (List UInt8 × α × Nat)) (s t : List UInt8) (v : α) (c : Nat) : hasS (putS l s v c) t = (hasS l t || (t == s)) := by
  induction l with
  | nil =>
    show ((s == t) || false) = (false || (t == s))
    rw [Bool.or_false, Bool.false_or, Bool.eq_iff_iff, beq_iff_eq, beq_iff_eq]
    exact eq_comm
  | cons a l ih =>
    obtain ⟨k, u, b⟩ := a
    show hasS (if k == s then (k, v, b) :: l else (k, u, b) :: putS l s v c) t = _
    by_cases hk : k = s
    · rw [if_pos (by simpa using hk)]
      simp only [hasS, List.any_cons]
      subst hk
      cases h1 : (k == t) with
      | true => simp
      | false =>
        have : (t == k) = false := by
          rw [beq_eq_false_iff_ne] at h1 ⊢
          exact fun e => h1 e.symm
        simp [this]
    · rw [if_neg (by simpa using hk)]
      unfold hasS at ih ⊢
      simp only [List.any_cons, ih, Bool.or_assoc]
theorem getS_put {α : Type} (l : List (List UInt8 × α × Nat)) (s t : List UInt8) (v : α) (c : Nat) : getS (putS l s v c) t = if t = s then some v else getS l t := by
  induction l with
  | nil =>
    show getS [(s, v, c)] t = _
    unfold getS
    by_cases h : t = s
    · subst h; simp
    · have : (s == t) = false := beq_eq_false_iff_ne.2 fun e => h e.symm
      simp [this, h]
  | cons a l ih =>
    obtain ⟨k, u, b⟩ := a
    show getS (if k == s then (k, v, b) :: l else (k, u, b) :: putS l s v c) t = _
    by_cases hk : k = s
    · subst hk
      rw [if_pos (by simp)]
      unfold getS
      by_cases h : t = k
      · subst h; simp
      · have : (k == t) = false := beq_eq_false_iff_ne.2 fun e => h e.symm
        simp [this, h]
    · rw [if_neg (by simpa using hk)]
      unfold getS at ih ⊢
      rw [List.find?_cons, List.find?_cons]
      cases h1 : (k == t) with
      | true =>
        have : t ≠ s := fun e => hk ((beq_iff_eq.1 h1).trans e)
        simp [this]
      | false => exact ih
theorem any_or_ {α : Type} (p q : α → Bool) : ∀ l : List α, (l.any fun x => p x || q x) = (l.any p || l.any q)
  | [] => rfl
  | a :: l => by
    rw [List.any_cons, List.any_cons, List.any_cons, any_or_ p q l]
    cases p a <;> cases q a <;> cases l.any p <;> rfl
theorem kept_fold (l : FL) : ∀ (ks : List Kp1) (out : KL) (c : Nat) (e : Int),
    (((ks.any fun y => hasS out y.1) || badK ks) = true → ks.foldl (kstep l) (some (out, c, e)) = none) ∧
    (((ks.any fun y => hasS out y.1) || badK ks) = false → ∃ out' c', ks.foldl (kstep l) (some (out, c, e)) = some (out', c', if e = 0 then (if ks.any (fun x => !hasS l x.1) then 6 else 0) else e) ∧
      ∀ s, getS out' s = (getS out s).or ((ks.find? fun x => x.1 == s).map (·.2)))
  | [], out, c, e => by
    refine ⟨fun h => by simp [badK] at h, fun _ => ⟨out, c, ?_, fun s => by simp⟩⟩
    simp only [List.foldl_nil, List.any_nil, Bool.false_eq_true, if_false]
    by_cases h : e = 0 <;> simp [h]
  | (s, n) :: ks, out, c, e => by
    have key : (List.any ((s, n) :: ks) (fun y => hasS out y.1) || badK ((s, n) :: ks)) = ((hasS out s || decide (n < 0) || !goodN s) || ((ks.any fun y => hasS (putS out s n c) y.1) || badK ks)) := by
      have h1 : (ks.any fun y => hasS (putS out s n c) y.1) = ((ks.any fun y => hasS out y.1) || ks.any fun y => y.1 == s) := by
        rw [← any_or_]
        congr 1
        funext y
        exact hasS_put out s y.1 n c
      rw [h1]
      simp only [List.any_cons, badK]
      cases hasS out s <;> cases (ks.any fun y => hasS out y.1) <;> cases goodN s <;> cases (decide (n < 0)) <;> cases (ks.any fun y => y.1 == s) <;> cases badK ks <;> rfl
    rw [key, List.foldl_cons]
    have hstep : kstep l (some (out, c, e)) (s, n) = if hasS out s || decide (n < 0) || !goodN s then none else some (putS out s n c, c + 1, if e = 0 then openE l s [] else e) := rfl
    rw [hstep]
    cases hq : (hasS out s || decide (n < 0) || !goodN s) with
    | true =>
      rw [if_pos rfl]
      exact ⟨fun _ => kstep_none l ks, fun h => by simp at h⟩
    | false =>
      simp only [Bool.false_eq_true, if_false, Bool.false_or]
      obtain ⟨i1, i2⟩ := kept_fold l ks (putS out s n c) (c + 1) (if e = 0 then openE l s [] else e)
      refine ⟨i1, fun h => ?_⟩
      obtain ⟨out', c', j1, j2⟩ := i2 h
      simp only [Bool.or_eq_false_iff, Bool.not_eq_false'] at hq
      have ho : openE l s [] = if hasS l s then 0 else 6 := by
        unfold openE
        rw [hq.2]
        simp
      refine ⟨out', c', ?_, fun t => ?_⟩
      · rw [j1, List.any_cons, ho]
        congr 3
        by_cases he : e = 0
        · subst he
          generalize (ks.any fun x => !hasS l x.1) = q
          cases hasS l s <;> cases q <;> rfl
        · simp [he]
      · rw [j2, getS_put, List.find?_cons]
        by_cases ht : t = s
        · subst ht
          have : getS out t = none := getS_none.2 hq.1.1
          rw [this]
          simp
        · have : (s == t) = false := beq_eq_false_iff_ne.2 fun e => ht e.symm
          simp [ht, this]
theorem kept_none (l : FL) (ks : List Kp1) : badK ks = true → keptS l ks = none := by
  intro h
  refine (kept_fold l ks [] 0 0).1 ?_
  rw [h, Bool.or_true]
theorem kept_some {l : FL} {F : List RF} (m : Sm l F) {ks : List Kp1} (h : badK ks = false) : ∃ out c, keptS l ks = some (out, c, crashE F ks) ∧ ∀ s, (getS out s).getD 0 = told ks s := by
  have h0 : ((ks.any fun y => hasS ([] : KL) y.1) || badK ks) = false := by
    rw [h, Bool.or_false]
    simp [hasS]
  obtain ⟨out, c, h1, h2⟩ := (kept_fold l ks [] 0 0).2 h0
  refine ⟨out, c, ?_, fun s => by rw [h2]; simp [told, getS]⟩
  unfold keptS
  rw [h1]
  unfold crashE
  rw [h]
  have : (ks.any fun x => !hasS l x.1) = missK F ks := by
    unfold missK
    rw [Bool.eq_iff_iff, List.any_eq_true, List.any_eq_true]
    have key : ∀ x ∈ ks, ((!hasS l x.1) = true ↔ (eR F x.1 == 6) = true) := by
      intro x hx
      have hg := (badK_mem h x hx).1
      rw [m.has]
      unfold eR
      rw [hg]
      cases (seekN F x.1).isSome <;> simp
    exact ⟨fun ⟨x, hx, hy⟩ => ⟨x, hx, (key x hx).1 hy⟩, fun ⟨x, hx, hy⟩ => ⟨x, hx, (key x hx).2 hy⟩⟩
  rw [this]
  simp
theorem left_sm {l : FL} {F : List RF} (m : Sm l F) (hn : (l.map (·.1)).Nodup) {ks : List Kp1} {out : KL} (ho : ∀ s, (getS out s).getD 0 = told ks s) (_hb : badK ks = false) {N : List (List UInt8)} (hN : N.Nodup) (hm : ∀ x, x ∈ N ↔ x ∈ l.map (·.1)) : Sm (leftL l out N) (crashL F ks) := by
  have e1 : flat (leftL l out N) = N.map fun s => (s, cutN l out s, []) := by
    unfold flat leftL
    rw [List.map_map]
    have : ((fun e : List UInt8 × File × Nat => (e.1, e.2.1.1, e.2.1.2)) ∘ fun x : List UInt8 × Nat => (x.1, ((cutN l out x.1, []) : File), x.2)) = (fun s => (s, cutN l out s, ([] : List UInt8))) ∘ Prod.fst := rfl
    rw [this, ← List.map_map, List.zipIdx_map_fst]
  show (flat _).Perm _
  rw [e1]
  have hp : N.Perm (F.map (·.1)) := by
    refine (List.perm_ext_iff_of_nodup hN (m.names hn)).2 fun x => ?_
    rw [hm, m.mem]
  refine (hp.map _).trans ?_
  rw [List.map_map]
  unfold crashL
  have : F.map ((fun s => (s, cutN l out s, ([] : List UInt8))) ∘ fun x : RF => x.1) = F.map (cutR ks) := by
    apply List.map_congr_left
    intro f hf
    have h1 := (m.file hn hf).1
    simp only [Function.comp, cutR, cutN, h1, allF, ho, Prod.mk.injEq, and_true, true_and]
    have h2 : (((f.2.1 ++ f.2.2).length : Nat) : Int) - (f.2.1.length : Nat) = (f.2.2.length : Nat) := by simp; omega
    rw [h2, List.take_length_add_append]
  rw [this]
theorem crashL_used (F : List RF) (ks : List Kp1) : usedR (crashL F ks) ≤ usedR F := by
  unfold usedR crashL
  induction F with
  | nil => exact Nat.le_refl _
  | cons a F ih =>
    simp only [List.map_cons, List.sum_cons] at ih ⊢
    have : (cutR ks a).2.1.length + (cutR ks a).2.2.length ≤ a.2.1.length + a.2.2.length := by
      simp only [cutR, List.length_append, List.length_take, List.length_nil]
      omega
    omega
theorem badK_drop {ks : List Kp1} {i : Nat} {x : Kp1} (hx : ks[i]? = some x) : badK (ks.drop i) = (!goodN x.1 || decide (x.2 < 0) || (ks.drop (i + 1)).any (fun y => y.1 == x.1) || badK (ks.drop (i + 1))) := by
  have hl := (List.getElem?_eq_some_iff.1 hx).1
  obtain rfl : ks[i] = x := by have := List.getElem?_eq_getElem hl; rw [hx] at this; exact (Option.some.inj this).symm
  rw [List.drop_eq_getElem_cons hl]
  rfl
theorem any_drop_false {ks : List Kp1} {i : Nat} {p : Kp1 → Bool} (h : ∀ (m : Nat) (y : Kp1), i ≤ m → ks[m]? = some y → p y = false) : (ks.drop i).any p = false := by
  rw [List.any_eq_false]
  intro y hy
  obtain ⟨m, hm⟩ := List.getElem?_of_mem hy
  rw [List.getElem?_drop] at hm
  simp [h (i + m) y (by omega) hm]
theorem any_drop_true {ks : List Kp1} {i m : Nat} {y : Kp1} {p : Kp1 → Bool} (hm : i ≤ m) (hy : ks[m]? = some y) (hp : p y = true) : (ks.drop i).any p = true := by
  rw [List.any_eq_true]
  refine ⟨y, List.mem_of_getElem? (i := m - i) ?_, hp⟩
  rw [List.getElem?_drop, show i + (m - i) = m by omega]
  exact hy
theorem any_take_succ {ks : List Kp1} {k : Nat} {x : Kp1} (hx : ks[k]? = some x) (p : Kp1 → Bool) : (ks.take (k + 1)).any p = ((ks.take k).any p || p x) := by
  rw [List.take_add_one, hx, List.any_append]
  simp
theorem told_take {ks : List Kp1} {s : List UInt8} {k : Nat} (h : ∀ (m : Nat) (y : Kp1), m < k → ks[m]? = some y → y.1 ≠ s) {x : Kp1} (hx : ks[k]? = some x) (he : x.1 = s) : told ks s = x.2 := by
  have hl := (List.getElem?_eq_some_iff.1 hx).1
  have hd : ks = ks.take k ++ x :: ks.drop (k + 1) := by
    have := List.getElem?_eq_getElem hl
    rw [hx] at this
    rw [Option.some.inj this, ← List.drop_eq_getElem_cons hl, List.take_append_drop]
  unfold told
  rw [hd, List.find?_append]
  have h1 : (ks.take k).find? (fun x => x.1 == s) = none := by
    rw [List.find?_eq_none]
    intro y hy
    obtain ⟨m, hm⟩ := List.getElem?_of_mem hy
    have hmk : m < k := by have := (List.getElem?_eq_some_iff.1 hm).1; rw [List.length_take] at this; omega
    rw [List.getElem?_take_of_lt hmk] at hm
    simpa using h m y hmk hm
  rw [h1]
  simp [he]
theorem told_none {ks : List Kp1} {s : List UInt8} (h : ∀ (m : Nat) (y : Kp1), ks[m]? = some y → y.1 ≠ s) : told ks s = 0 := by
  unfold told
  have h1 : ks.find? (fun x => x.1 == s) = none := by
    rw [List.find?_eq_none]
    intro y hy
    obtain ⟨m, hm⟩ := List.getElem?_of_mem hy
    simpa using h m y hm
  rw [h1]
  rfl
end Go.Dsk

/-
  The document's disk: crashes.
-/
namespace Go.Proofs.Ytiebmncpdnbcjaa
open Go Go.Eng Go.Dsk
attribute [local irreducible] AWp AL DAL AOp TAL

instance : FnC Try.prog 58 := ⟨Try.f58, Try.func58, by kernel_rfl, by kernel_rfl⟩
instance : FnC Try.prog 49 := ⟨Try.f49, Try.func49, by kernel_rfl, by kernel_rfl⟩
theorem krow_at {ks : List Kp1} {k : Nat} {x : Kp1} (hx : ks[k]? = some x) : (ks.map keepR)[((k : Nat) : Int).toNat]? = some (keepR x) := by
  rw [Int.toNat_natCast, List.getElem?_map, hx]; rfl
theorem told_c (v : Value) (ks : List Kp1) (s : List UInt8) (h : Heap) (r : RN 2 h v (ks.map keepR)) (hl : ks.length ≤ 4611686018427387904) :
    ACalls Try.prog 58 [v, .string (bstr s)] h fun u h' => u = .int .i64 (told ks s) ∧ h' = h := by
  refine ACalls.body Try.func58 rfl rfl ?_
  obtain ⟨va, vc, hv⟩ := r.slice
  rw [List.length_map] at hv
  subst hv
  repeat (first | refine AL.nil ?_ | refine AWp.seq ?_ | refine AWp.region ?_ | refine AWp.block ?_ | refine AL.set rfl rfl (op_assignI rfl ?_))
  refine AWp.loop (α := Nat) (fun k => [(0, .slice va ks.length vc), (1, .string (bstr s)), (5, .int .i64 (k : Nat))]) (fun _ => h) (fun k => k ≤ ks.length ∧ ∀ (m : Nat) (y : Kp1), m < k → ks[m]? = some y → y.1 ≠ s) (fun k => ks.length - k) 0 ⟨Nat.zero_le _, fun m y hm => by omega⟩ (Weak.same (EW.cons rfl (EW.cons rfl (EW.cons rfl EW.nil)))) ?_
  rintro k ⟨hk, hno⟩
  by_cases hlt : k < ks.length
  · obtain ⟨x, hx⟩ : ∃ x, ks[k]? = some x := ⟨_, List.getElem?_eq_getElem hlt⟩
    have hx2 := krow_at hx
    have hp := r.elt hx2
    by_cases he : x.1 = s
    · rw [told_take hno hx he]
      repeat (first | refine AL.nil ?_ | refine AWp.seq ?_ | refine AWp.region ?_ | refine AWp.condT rfl ?_ | refine AWp.ret ?_ | refine AWp.block ?_ | refine AWp.skip ?_ | refine AL.set rfl rfl (op_moveI rfl ?_) | refine AL.set rfl rfl (op_moveS rfl ?_) | refine AL.set rfl rfl (op_moveStr rfl ?_) | refine AL.set rfl rfl (op_assignI rfl ?_) | refine AL.set rfl rfl (op_lenS rfl ?_) | refine AL.set rfl rfl (op_intT rfl rfl rfl (by omega) ?_) | refine AL.set rfl rfl (op_indexND r rfl rfl (by omega) hx2 ?_) | refine AL.set rfl rfl (op_faN hp rfl ?_) | refine AL.set rfl rfl (op_loadF0 (off := 0) hp rfl rfl rfl ?_) | refine AL.set rfl rfl (op_loadF0 (off := 1) hp rfl rfl rfl ?_) | refine AL.set rfl rfl (op_sEqT rfl rfl he ?_))
      exact ⟨_, ResV.tmp rfl, rfl, rfl⟩
    · repeat (first | refine AL.nil ?_ | refine AWp.seq ?_ | refine AWp.region ?_ | refine AWp.condT rfl ?_ | refine AWp.condF rfl ?_ | refine AWp.block ?_ | refine AWp.skip ?_ | refine AL.set rfl rfl (op_moveI rfl ?_) | refine AL.set rfl rfl (op_moveS rfl ?_) | refine AL.set rfl rfl (op_moveStr rfl ?_) | refine AL.set rfl rfl (op_assignI rfl ?_) | refine AL.set rfl rfl (op_lenS rfl ?_) | refine AL.set rfl rfl (op_intT rfl rfl rfl (by omega) ?_) | refine AL.set rfl rfl (op_indexND r rfl rfl (by omega) hx2 ?_) | refine AL.set rfl rfl (op_faN hp rfl ?_) | refine AL.set rfl rfl (op_loadF0 (off := 0) hp rfl rfl rfl ?_) | refine AL.set rfl rfl (op_sEqF rfl rfl he ?_) | refine AL.set rfl rfl (op_add64 rfl rfl (by omega) ?_))
      refine ⟨k + 1, ⟨hlt, fun m y hm hy => ?_⟩, by omega, Weak.same (EW.cons rfl (EW.cons rfl (EW.cons rfl EW.nil)))⟩
      by_cases hmk : m = k
      · subst hmk; rw [hx] at hy; cases hy; exact he
      · exact hno m y (by omega) hy
  · obtain rfl : k = ks.length := by omega
    rw [told_none fun m y hy => hno m y (List.getElem?_eq_some_iff.1 hy).1 hy]
    repeat (first | refine AL.nil ?_ | refine AWp.seq ?_ | refine AWp.region ?_ | refine AWp.condF rfl ?_ | refine AWp.ret ?_ | refine AWp.exit ?_ | refine AL.set rfl rfl (op_moveI rfl ?_) | refine AL.set rfl rfl (op_moveS rfl ?_) | refine AL.set rfl rfl (op_assignI rfl ?_) | refine AL.set rfl rfl (op_lenS rfl ?_) | refine AL.set rfl rfl (op_intF rfl rfl rfl (by omega) ?_))
    exact ⟨_, ResV.tmp rfl, rfl, rfl⟩
/-- A crash of the document's disk on its way. -/
structure RCr (h : Heap) (j' room : Nat) (u : Value) (rows : List (List Value)) (H : Heap) : Prop where
  box : H.get j' = some (rdB room u)
  own : ON h.next 3 H 61 u rows
  ap : vblk u ≠ some j'
  ext : Ext h H
  wf : WF H
  lo : h.next ≤ j'
theorem crash_cases (F : List RF) (ks : List Kp1) {i : Nat} {x : Kp1} (hx : ks[i]? = some x) :
    (eR F x.1 = 2 ∧ badK (ks.drop i) = true) ∨ (eR F x.1 ≠ 2 ∧ goodN x.1 = true) := by
  rcases eR_cases F x.1 with ⟨h1, _, h3⟩ | ⟨h1, h2, _⟩ | ⟨_, _, h1, _, h3, _⟩
  · refine .inl ⟨h1, ?_⟩
    rw [badK_drop hx, h3]
    rfl
  · exact .inr ⟨by rw [h1]; decide, h2⟩
  · exact .inr ⟨by rw [h1]; decide, h3⟩
set_option maxHeartbeats 4000000 in
theorem rcrash_c (j room : Nat) (v : Value) (F : List RF) (kv : Value) (ks : List Kp1) (h : Heap) (r : RAt h j room v F) (rk : RN 2 h kv (ks.map keepR)) (hl : ks.length ≤ 4611686018427387904) (hn : ∀ x ∈ ks, x.1.length ≤ 4611686018427387904) :
    ACalls Try.prog 49 [ptr j, kv] h fun u h' => (crashE F ks ≠ 0 ∧ u = .tuple #[.pointer none, .int .i64 (crashE F ks)] ∧ h' = h) ∨
      (crashE F ks = 0 ∧ ∃ j' v', u = .tuple #[ptr j', .int .i64 0] ∧ h.next ≤ j' ∧ RAt h' j' room v' (crashL F ks) ∧ (∀ i, vblk v' = some i → h.next ≤ i) ∧ Ext h h' ∧ WF h' ∧ h.next ≤ h'.next) := by
  refine ACalls.wf fun wf => ?_
  refine ACalls.body Try.func49 rfl rfl ?_
  obtain ⟨va, vc, hv⟩ := rk.slice
  rw [List.length_map] at hv
  subst hv
  have hc := r.cnt
  have hbg := r.big
  have hu := r.used
  have hlen : (F.map rowR).length = F.length := by simp
  repeat (first | refine AL.nil ?_ | refine AWp.seq ?_ | refine AWp.region ?_ | refine AWp.condF rfl ?_ | refine AWp.block ?_ | refine AWp.skip ?_ | refine AL.set rfl rfl (op_moveP rfl ?_) | refine AL.set rfl rfl (op_assignI rfl ?_) | refine AL.set rfl rfl (op_assignB rfl ?_) | refine AL.set rfl rfl (op_assignP rfl ?_) | refine AL.set rfl rfl (op_eqPtrNil rfl rfl ?_))
  refine AWp.loop (α := Nat) (fun i => [(0, ptr j), (1, .slice va ks.length vc), (6, .bool ((ks.take i).any fun x => eR F x.1 == 6)), (7, .int .i64 (i : Nat))]) (fun _ => h) (fun i => i ≤ ks.length ∧ badK ks = badK (ks.drop i)) (fun i => ks.length - i) 0 ⟨Nat.zero_le _, rfl⟩ (Weak.same (EW.cons rfl (EW.cons rfl (EW.cons rfl (EW.cons rfl EW.nil))))) ?_
  rintro i ⟨hi, hbd⟩
  by_cases hlt : i < ks.length
  · obtain ⟨x, hx⟩ : ∃ x, ks[i]? = some x := ⟨_, List.getElem?_eq_getElem hlt⟩
    have hx2 := krow_at hx
    have hp := rk.elt hx2
    have hst := any_take_succ hx (fun x => eR F x.1 == 6)
    have cs := seek_c j room v F x.1 h r (hn x (List.mem_of_getElem? hx))
    have hE2 : badK ks = true → crashE F ks ≠ 0 ∧ (.tuple #[.pointer none, .int .i64 2] : Value) = .tuple #[.pointer none, .int .i64 (crashE F ks)] ∧ h = h := by
      intro hb
      have : crashE F ks = 2 := by unfold crashE; rw [hb]; rfl
      rw [this]
      exact ⟨by decide, rfl, rfl⟩
    obtain ⟨fl, hfl⟩ : ∃ b, ((ks.take i).any fun x => eR F x.1 == 6) = b := ⟨_, rfl⟩
    rw [hfl] at hst ⊢
    have arm : True := trivial
    rcases eR_cases F x.1 with ⟨h1, _, hg2⟩ | ⟨h1, hg2, _⟩ | ⟨i0, x0, h1, _, hg2, _⟩
    · have hb2 : badK ks = true := by
        rw [hbd, badK_drop hx, hg2]
        rfl
      rw [h1] at cs
      generalize iR F x.1 = ii at cs
      cases fl
      · repeat (first | refine AL.nil ?_ | refine AL.skip rfl rfl ?_ | refine AWp.seq ?_ | refine AWp.region ?_ | refine AWp.condT rfl ?_ | refine AWp.ret ?_ | refine AWp.block ?_ | refine AWp.skip ?_ | refine AL.set rfl rfl (op_moveI rfl ?_) | refine AL.set rfl rfl (op_moveS rfl ?_) | refine AL.set rfl rfl (op_moveB rfl ?_) | refine AL.set rfl rfl (op_moveP rfl ?_) | refine AL.set rfl rfl (op_moveT rfl ?_) | refine AL.set rfl rfl (op_assignI rfl ?_) | refine AL.set rfl rfl (op_assignB rfl ?_) | refine AL.set rfl rfl (op_assignP rfl ?_) | refine AL.set rfl rfl (op_lenS rfl ?_) | refine AL.set rfl rfl (op_intT rfl rfl rfl (by omega) ?_) | refine AL.set rfl rfl (op_intF rfl rfl rfl (by omega) ?_) | refine AL.set rfl rfl (op_indexND rk rfl rfl (by omega) hx2 ?_) | refine AL.set rfl rfl (op_faN hp rfl ?_) | refine AL.set rfl rfl (op_loadF0 (off := 0) hp rfl rfl rfl ?_) | refine AL.set rfl rfl (op_callS rfl rfl cs ?_) | refine AL.set rfl rfl (op_extract rfl rfl ?_) | refine AL.set rfl rfl (op_pick rfl rfl ?_))
        exact ⟨_, ResV.tmp2 rfl, .inl (hE2 hb2)⟩
      · repeat (first | refine AL.nil ?_ | refine AL.skip rfl rfl ?_ | refine AWp.seq ?_ | refine AWp.region ?_ | refine AWp.condT rfl ?_ | refine AWp.ret ?_ | refine AWp.block ?_ | refine AWp.skip ?_ | refine AL.set rfl rfl (op_moveI rfl ?_) | refine AL.set rfl rfl (op_moveS rfl ?_) | refine AL.set rfl rfl (op_moveB rfl ?_) | refine AL.set rfl rfl (op_moveP rfl ?_) | refine AL.set rfl rfl (op_moveT rfl ?_) | refine AL.set rfl rfl (op_assignI rfl ?_) | refine AL.set rfl rfl (op_assignB rfl ?_) | refine AL.set rfl rfl (op_assignP rfl ?_) | refine AL.set rfl rfl (op_lenS rfl ?_) | refine AL.set rfl rfl (op_intT rfl rfl rfl (by omega) ?_) | refine AL.set rfl rfl (op_indexND rk rfl rfl (by omega) hx2 ?_) | refine AL.set rfl rfl (op_faN hp rfl ?_) | refine AL.set rfl rfl (op_loadF0 (off := 0) hp rfl rfl rfl ?_) | refine AL.set rfl rfl (op_callS rfl rfl cs ?_) | refine AL.set rfl rfl (op_extract rfl rfl ?_) | refine AL.set rfl rfl (op_pick rfl rfl ?_))
        exact ⟨_, ResV.tmp2 rfl, .inl (hE2 hb2)⟩
    · rw [h1] at cs hst
      have hst2 : ∀ b, b = true → ((ks.take (i + 1)).any fun x => eR F x.1 == 6) = b := by
        rintro b rfl
        rw [hst]
        cases fl <;> rfl
      generalize iR F x.1 = ii at cs
      by_cases hneg : x.2 < 0
      · have hb2 : badK ks = true := by
          rw [hbd, badK_drop hx, decide_eq_true hneg]
          simp
        cases fl
        · repeat (first | refine AL.nil ?_ | refine AWp.seq ?_ | refine AWp.region ?_ | refine AWp.condT rfl ?_ | refine AWp.ret ?_ | refine AWp.block ?_ | refine AWp.skip ?_ | refine AL.set rfl rfl (op_moveI rfl ?_) | refine AL.set rfl rfl (op_moveS rfl ?_) | refine AL.set rfl rfl (op_moveB rfl ?_) | refine AL.set rfl rfl (op_moveP rfl ?_) | refine AL.set rfl rfl (op_moveT rfl ?_) | refine AL.set rfl rfl (op_assignI rfl ?_) | refine AL.set rfl rfl (op_assignB rfl ?_) | refine AL.set rfl rfl (op_assignP rfl ?_) | refine AL.set rfl rfl (op_lenS rfl ?_) | refine AL.set rfl rfl (op_intT rfl rfl rfl (by omega) ?_) | refine AL.set rfl rfl (op_intF rfl rfl rfl (by omega) ?_) | refine AL.set rfl rfl (op_indexND rk rfl rfl (by omega) hx2 ?_) | refine AL.set rfl rfl (op_faN hp rfl ?_) | refine AL.set rfl rfl (op_loadF0 (off := 0) hp rfl rfl rfl ?_) | refine AL.set rfl rfl (op_loadF0 (off := 1) hp rfl rfl rfl ?_) | refine AL.set rfl rfl (op_callS rfl rfl cs ?_) | refine AL.set rfl rfl (op_extract rfl rfl ?_) | refine AL.set rfl rfl (op_pick rfl rfl ?_))
          exact ⟨_, ResV.tmp2 rfl, .inl (hE2 hb2)⟩
        · repeat (first | refine AL.nil ?_ | refine AL.skip rfl rfl ?_ | refine AWp.seq ?_ | refine AWp.region ?_ | refine AWp.condT rfl ?_ | refine AWp.ret ?_ | refine AWp.block ?_ | refine AWp.skip ?_ | refine AL.set rfl rfl (op_moveI rfl ?_) | refine AL.set rfl rfl (op_moveS rfl ?_) | refine AL.set rfl rfl (op_moveB rfl ?_) | refine AL.set rfl rfl (op_moveP rfl ?_) | refine AL.set rfl rfl (op_moveT rfl ?_) | refine AL.set rfl rfl (op_assignI rfl ?_) | refine AL.set rfl rfl (op_assignB rfl ?_) | refine AL.set rfl rfl (op_assignP rfl ?_) | refine AL.set rfl rfl (op_lenS rfl ?_) | refine AL.set rfl rfl (op_intT rfl rfl rfl (by omega) ?_) | refine AL.set rfl rfl (op_intF rfl rfl rfl (by omega) ?_) | refine AL.set rfl rfl (op_indexND rk rfl rfl (by omega) hx2 ?_) | refine AL.set rfl rfl (op_faN hp rfl ?_) | refine AL.set rfl rfl (op_loadF0 (off := 0) hp rfl rfl rfl ?_) | refine AL.set rfl rfl (op_loadF0 (off := 1) hp rfl rfl rfl ?_) | refine AL.set rfl rfl (op_callS rfl rfl cs ?_) | refine AL.set rfl rfl (op_extract rfl rfl ?_) | refine AL.set rfl rfl (op_pick rfl rfl ?_))
          exact ⟨_, ResV.tmp2 rfl, .inl (hE2 hb2)⟩
      · cases fl
        · repeat (first | refine AL.nil ?_ | refine AWp.seq ?_ | refine AWp.region ?_ | refine AWp.condT rfl ?_ | refine AWp.condF rfl ?_ | refine AWp.block ?_ | refine AWp.skip ?_ | refine AL.set rfl rfl (op_moveI rfl ?_) | refine AL.set rfl rfl (op_moveS rfl ?_) | refine AL.set rfl rfl (op_moveB rfl ?_) | refine AL.set rfl rfl (op_moveP rfl ?_) | refine AL.set rfl rfl (op_moveT rfl ?_) | refine AL.set rfl rfl (op_assignI rfl ?_) | refine AL.set rfl rfl (op_assignB rfl ?_) | refine AL.set rfl rfl (op_lenS rfl ?_) | refine AL.set rfl rfl (op_intT rfl rfl rfl (by omega) ?_) | refine AL.set rfl rfl (op_intF rfl rfl rfl (by omega) ?_) | refine AL.set rfl rfl (op_indexND rk rfl rfl (by omega) hx2 ?_) | refine AL.set rfl rfl (op_faN hp rfl ?_) | refine AL.set rfl rfl (op_loadF0 (off := 0) hp rfl rfl rfl ?_) | refine AL.set rfl rfl (op_loadF0 (off := 1) hp rfl rfl rfl ?_) | refine AL.set rfl rfl (op_callS rfl rfl cs ?_) | refine AL.set rfl rfl (op_extract rfl rfl ?_) | refine AL.set rfl rfl (op_pick rfl rfl ?_) | refine AL.set rfl rfl (op_add64 rfl rfl (by omega) ?_))
          refine AWp.loop (α := Nat) (fun k => [(0, ptr j), (1, .slice va ks.length vc), (6, .bool true), (7, .int .i64 (i : Nat)), (10, .int .i64 (k : Nat))]) (fun _ => h) (fun k => i + 1 ≤ k ∧ k ≤ ks.length ∧ ∀ (m : Nat) (y : Kp1), i < m → m < k → ks[m]? = some y → y.1 ≠ x.1) (fun k => ks.length - k) (i + 1) ⟨Nat.le_refl _, hlt, fun m y h1 h2 => by omega⟩ (Weak.same (EW.cons rfl (EW.cons rfl (EW.cons rfl (EW.cons rfl (EW.cons rfl EW.nil)))))) ?_
          rintro k ⟨hk1, hk2, hno⟩
          by_cases hkl : k < ks.length
          · obtain ⟨y, hy⟩ : ∃ y, ks[k]? = some y := ⟨_, List.getElem?_eq_getElem hkl⟩
            have hy2 := krow_at hy
            have hpy := rk.elt hy2
            by_cases he : y.1 = x.1
            · have hb2 : badK ks = true := by
                rw [hbd, badK_drop hx, any_drop_true (m := k) hk1 hy (by simpa using he)]
                simp
              repeat (first | refine AL.nil ?_ | refine AWp.seq ?_ | refine AWp.region ?_ | refine AWp.condT rfl ?_ | refine AWp.block ?_ | refine AWp.skip ?_ | refine AL.set rfl rfl (op_moveI rfl ?_) | refine AL.set rfl rfl (op_moveS rfl ?_) | refine AL.set rfl rfl (op_lenS rfl ?_) | refine AL.set rfl rfl (op_intT rfl rfl rfl (by omega) ?_))
              refine AWp.draw (σ := [(0, .R), (1, .R), (2, .R), (3, .R), (4, .R), (5, .R), (6, .R), (7, .R), (8, .R), (9, .R), (10, .R)]) mixed (by kernel_rfl) ?_
              repeat (first | refine DAL.r rfl rfl rfl (fun h' hx hn => op_moveI rfl ⟨rfl, rfl⟩) ?_ | refine DAL.r rfl rfl rfl (fun h' hx hn => op_moveS rfl ⟨rfl, rfl⟩) ?_ | refine DAL.r rfl rfl rfl (fun h' hx hn => op_indexND (rk.ext hx) rfl rfl (by omega) hx2 ⟨rfl, rfl⟩) ?_ | refine DAL.r rfl rfl rfl (fun h' hx hn => op_indexND (rk.ext hx) rfl rfl (by omega) hy2 ⟨rfl, rfl⟩) ?_ | refine DAL.r rfl rfl rfl (fun h' hx hn => op_faN (hp.ext hx) rfl ⟨rfl, rfl⟩) ?_ | refine DAL.r rfl rfl rfl (fun h' hx hn => op_faN (hpy.ext hx) rfl ⟨rfl, rfl⟩) ?_ | refine DAL.r rfl rfl rfl (fun h' hx hn => op_loadF0 (off := 0) (hp.ext hx) rfl rfl rfl ⟨rfl, rfl⟩) ?_ | refine DAL.r rfl rfl rfl (fun h' hx hn => op_loadF0 (off := 0) (hpy.ext hx) rfl rfl rfl ⟨rfl, rfl⟩) ?_ | refine DAL.r rfl rfl rfl (fun h' hx hn => op_sEqT rfl rfl he ⟨rfl, rfl⟩) ?_)
              refine DAL.nil ?_
              repeat (first | refine AL.nil ?_ | refine AWp.seq ?_ | refine AWp.region ?_ | refine AWp.condT rfl ?_ | refine AWp.ret ?_ | refine AL.set rfl rfl (op_assignI rfl ?_) | refine AL.set rfl rfl (op_assignP rfl ?_))
              exact ⟨_, ResV.tmp2 rfl, .inl (hE2 hb2)⟩
            · repeat (first | refine AL.nil ?_ | refine AWp.seq ?_ | refine AWp.region ?_ | refine AWp.condT rfl ?_ | refine AWp.block ?_ | refine AWp.skip ?_ | refine AL.set rfl rfl (op_moveI rfl ?_) | refine AL.set rfl rfl (op_moveS rfl ?_) | refine AL.set rfl rfl (op_lenS rfl ?_) | refine AL.set rfl rfl (op_intT rfl rfl rfl (by omega) ?_))
              refine AWp.draw (σ := [(0, .R), (1, .R), (2, .R), (3, .R), (4, .R), (5, .R), (6, .R), (7, .R), (8, .R), (9, .R), (10, .R)]) mixed (by kernel_rfl) ?_
              repeat (first | refine DAL.r rfl rfl rfl (fun h' hx hn => op_moveI rfl ⟨rfl, rfl⟩) ?_ | refine DAL.r rfl rfl rfl (fun h' hx hn => op_moveS rfl ⟨rfl, rfl⟩) ?_ | refine DAL.r rfl rfl rfl (fun h' hx hn => op_indexND (rk.ext hx) rfl rfl (by omega) hx2 ⟨rfl, rfl⟩) ?_ | refine DAL.r rfl rfl rfl (fun h' hx hn => op_indexND (rk.ext hx) rfl rfl (by omega) hy2 ⟨rfl, rfl⟩) ?_ | refine DAL.r rfl rfl rfl (fun h' hx hn => op_faN (hp.ext hx) rfl ⟨rfl, rfl⟩) ?_ | refine DAL.r rfl rfl rfl (fun h' hx hn => op_faN (hpy.ext hx) rfl ⟨rfl, rfl⟩) ?_ | refine DAL.r rfl rfl rfl (fun h' hx hn => op_loadF0 (off := 0) (hp.ext hx) rfl rfl rfl ⟨rfl, rfl⟩) ?_ | refine DAL.r rfl rfl rfl (fun h' hx hn => op_loadF0 (off := 0) (hpy.ext hx) rfl rfl rfl ⟨rfl, rfl⟩) ?_ | refine DAL.r rfl rfl rfl (fun h' hx hn => op_sEqF rfl rfl he ⟨rfl, rfl⟩) ?_)
              refine DAL.nil ?_
              repeat (first | refine AL.nil ?_ | refine AWp.region ?_ | refine AWp.condF rfl ?_ | refine AWp.skip ?_ | refine AL.set rfl rfl (op_moveI rfl ?_) | refine AL.set rfl rfl (op_assignI rfl ?_) | refine AL.set rfl rfl (op_add64 rfl rfl (by omega) ?_))
              refine ⟨k + 1, ⟨by omega, hkl, fun m z h1 h2 hz => ?_⟩, by omega, Weak.same (EW.cons rfl (EW.cons rfl (EW.cons rfl (EW.cons rfl (EW.cons rfl EW.nil)))))⟩
              by_cases hmk : m = k
              · subst hmk; rw [hy] at hz; cases hz; exact he
              · exact hno m z h1 (by omega) hz
          · have hbd2 : badK ks = badK (ks.drop (i + 1)) := by
              rw [hbd, badK_drop hx, hg2, decide_eq_false hneg, any_drop_false (i := i + 1) fun m y h1 hy => by simpa using hno m y (by omega) (by have := (List.getElem?_eq_some_iff.1 hy).1; omega) hy]
              rfl
            repeat (first | refine AL.nil ?_ | refine AWp.seq ?_ | refine AWp.region ?_ | refine AWp.condF rfl ?_ | refine AWp.exit ?_ | refine AL.set rfl rfl (op_moveI rfl ?_) | refine AL.set rfl rfl (op_moveS rfl ?_) | refine AL.set rfl rfl (op_assignI rfl ?_) | refine AL.set rfl rfl (op_lenS rfl ?_) | refine AL.set rfl rfl (op_intF rfl rfl rfl (by omega) ?_) | refine AL.set rfl rfl (op_add64 rfl rfl (by omega) ?_))
            exact ⟨i + 1, ⟨hlt, hbd2⟩, by omega, Weak.same (EW.cons rfl (EW.cons rfl (EW.cons (congrArg Value.bool (hst2 true rfl).symm) (EW.cons rfl EW.nil))))⟩
        · repeat (first | refine AL.nil ?_ | refine AL.skip rfl rfl ?_ | refine AWp.seq ?_ | refine AWp.region ?_ | refine AWp.condT rfl ?_ | refine AWp.condF rfl ?_ | refine AWp.block ?_ | refine AWp.skip ?_ | refine AL.set rfl rfl (op_moveI rfl ?_) | refine AL.set rfl rfl (op_moveS rfl ?_) | refine AL.set rfl rfl (op_moveB rfl ?_) | refine AL.set rfl rfl (op_moveP rfl ?_) | refine AL.set rfl rfl (op_moveT rfl ?_) | refine AL.set rfl rfl (op_assignI rfl ?_) | refine AL.set rfl rfl (op_assignB rfl ?_) | refine AL.set rfl rfl (op_lenS rfl ?_) | refine AL.set rfl rfl (op_intT rfl rfl rfl (by omega) ?_) | refine AL.set rfl rfl (op_intF rfl rfl rfl (by omega) ?_) | refine AL.set rfl rfl (op_indexND rk rfl rfl (by omega) hx2 ?_) | refine AL.set rfl rfl (op_faN hp rfl ?_) | refine AL.set rfl rfl (op_loadF0 (off := 0) hp rfl rfl rfl ?_) | refine AL.set rfl rfl (op_loadF0 (off := 1) hp rfl rfl rfl ?_) | refine AL.set rfl rfl (op_callS rfl rfl cs ?_) | refine AL.set rfl rfl (op_extract rfl rfl ?_) | refine AL.set rfl rfl (op_pick rfl rfl ?_) | refine AL.set rfl rfl (op_add64 rfl rfl (by omega) ?_))
          refine AWp.loop (α := Nat) (fun k => [(0, ptr j), (1, .slice va ks.length vc), (6, .bool true), (7, .int .i64 (i : Nat)), (10, .int .i64 (k : Nat))]) (fun _ => h) (fun k => i + 1 ≤ k ∧ k ≤ ks.length ∧ ∀ (m : Nat) (y : Kp1), i < m → m < k → ks[m]? = some y → y.1 ≠ x.1) (fun k => ks.length - k) (i + 1) ⟨Nat.le_refl _, hlt, fun m y h1 h2 => by omega⟩ (Weak.same (EW.cons rfl (EW.cons rfl (EW.cons rfl (EW.cons rfl (EW.cons rfl EW.nil)))))) ?_
          rintro k ⟨hk1, hk2, hno⟩
          by_cases hkl : k < ks.length
          · obtain ⟨y, hy⟩ : ∃ y, ks[k]? = some y := ⟨_, List.getElem?_eq_getElem hkl⟩
            have hy2 := krow_at hy
            have hpy := rk.elt hy2
            by_cases he : y.1 = x.1
            · have hb2 : badK ks = true := by
                rw [hbd, badK_drop hx, any_drop_true (m := k) hk1 hy (by simpa using he)]
                simp
              repeat (first | refine AL.nil ?_ | refine AWp.seq ?_ | refine AWp.region ?_ | refine AWp.condT rfl ?_ | refine AWp.block ?_ | refine AWp.skip ?_ | refine AL.set rfl rfl (op_moveI rfl ?_) | refine AL.set rfl rfl (op_moveS rfl ?_) | refine AL.set rfl rfl (op_lenS rfl ?_) | refine AL.set rfl rfl (op_intT rfl rfl rfl (by omega) ?_))
              refine AWp.draw (σ := [(0, .R), (1, .R), (2, .R), (3, .R), (4, .R), (5, .R), (6, .R), (7, .R), (8, .R), (9, .R), (10, .R)]) mixed (by kernel_rfl) ?_
              repeat (first | refine DAL.r rfl rfl rfl (fun h' hx hn => op_moveI rfl ⟨rfl, rfl⟩) ?_ | refine DAL.r rfl rfl rfl (fun h' hx hn => op_moveS rfl ⟨rfl, rfl⟩) ?_ | refine DAL.r rfl rfl rfl (fun h' hx hn => op_indexND (rk.ext hx) rfl rfl (by omega) hx2 ⟨rfl, rfl⟩) ?_ | refine DAL.r rfl rfl rfl (fun h' hx hn => op_indexND (rk.ext hx) rfl rfl (by omega) hy2 ⟨rfl, rfl⟩) ?_ | refine DAL.r rfl rfl rfl (fun h' hx hn => op_faN (hp.ext hx) rfl ⟨rfl, rfl⟩) ?_ | refine DAL.r rfl rfl rfl (fun h' hx hn => op_faN (hpy.ext hx) rfl ⟨rfl, rfl⟩) ?_ | refine DAL.r rfl rfl rfl (fun h' hx hn => op_loadF0 (off := 0) (hp.ext hx) rfl rfl rfl ⟨rfl, rfl⟩) ?_ | refine DAL.r rfl rfl rfl (fun h' hx hn => op_loadF0 (off := 0) (hpy.ext hx) rfl rfl rfl ⟨rfl, rfl⟩) ?_ | refine DAL.r rfl rfl rfl (fun h' hx hn => op_sEqT rfl rfl he ⟨rfl, rfl⟩) ?_)
              refine DAL.nil ?_
              repeat (first | refine AL.nil ?_ | refine AWp.seq ?_ | refine AWp.region ?_ | refine AWp.condT rfl ?_ | refine AWp.ret ?_ | refine AL.set rfl rfl (op_assignI rfl ?_) | refine AL.set rfl rfl (op_assignP rfl ?_))
              exact ⟨_, ResV.tmp2 rfl, .inl (hE2 hb2)⟩
            · repeat (first | refine AL.nil ?_ | refine AWp.seq ?_ | refine AWp.region ?_ | refine AWp.condT rfl ?_ | refine AWp.block ?_ | refine AWp.skip ?_ | refine AL.set rfl rfl (op_moveI rfl ?_) | refine AL.set rfl rfl (op_moveS rfl ?_) | refine AL.set rfl rfl (op_lenS rfl ?_) | refine AL.set rfl rfl (op_intT rfl rfl rfl (by omega) ?_))
              refine AWp.draw (σ := [(0, .R), (1, .R), (2, .R), (3, .R), (4, .R), (5, .R), (6, .R), (7, .R), (8, .R), (9, .R), (10, .R)]) mixed (by kernel_rfl) ?_
              repeat (first | refine DAL.r rfl rfl rfl (fun h' hx hn => op_moveI rfl ⟨rfl, rfl⟩) ?_ | refine DAL.r rfl rfl rfl (fun h' hx hn => op_moveS rfl ⟨rfl, rfl⟩) ?_ | refine DAL.r rfl rfl rfl (fun h' hx hn => op_indexND (rk.ext hx) rfl rfl (by omega) hx2 ⟨rfl, rfl⟩) ?_ | refine DAL.r rfl rfl rfl (fun h' hx hn => op_indexND (rk.ext hx) rfl rfl (by omega) hy2 ⟨rfl, rfl⟩) ?_ | refine DAL.r rfl rfl rfl (fun h' hx hn => op_faN (hp.ext hx) rfl ⟨rfl, rfl⟩) ?_ | refine DAL.r rfl rfl rfl (fun h' hx hn => op_faN (hpy.ext hx) rfl ⟨rfl, rfl⟩) ?_ | refine DAL.r rfl rfl rfl (fun h' hx hn => op_loadF0 (off := 0) (hp.ext hx) rfl rfl rfl ⟨rfl, rfl⟩) ?_ | refine DAL.r rfl rfl rfl (fun h' hx hn => op_loadF0 (off := 0) (hpy.ext hx) rfl rfl rfl ⟨rfl, rfl⟩) ?_ | refine DAL.r rfl rfl rfl (fun h' hx hn => op_sEqF rfl rfl he ⟨rfl, rfl⟩) ?_)
              refine DAL.nil ?_
              repeat (first | refine AL.nil ?_ | refine AWp.region ?_ | refine AWp.condF rfl ?_ | refine AWp.skip ?_ | refine AL.set rfl rfl (op_moveI rfl ?_) | refine AL.set rfl rfl (op_assignI rfl ?_) | refine AL.set rfl rfl (op_add64 rfl rfl (by omega) ?_))
              refine ⟨k + 1, ⟨by omega, hkl, fun m z h1 h2 hz => ?_⟩, by omega, Weak.same (EW.cons rfl (EW.cons rfl (EW.cons rfl (EW.cons rfl (EW.cons rfl EW.nil)))))⟩
              by_cases hmk : m = k
              · subst hmk; rw [hy] at hz; cases hz; exact he
              · exact hno m z h1 (by omega) hz
          · have hbd2 : badK ks = badK (ks.drop (i + 1)) := by
              rw [hbd, badK_drop hx, hg2, decide_eq_false hneg, any_drop_false (i := i + 1) fun m y h1 hy => by simpa using hno m y (by omega) (by have := (List.getElem?_eq_some_iff.1 hy).1; omega) hy]
              rfl
            repeat (first | refine AL.nil ?_ | refine AWp.seq ?_ | refine AWp.region ?_ | refine AWp.condF rfl ?_ | refine AWp.exit ?_ | refine AL.set rfl rfl (op_moveI rfl ?_) | refine AL.set rfl rfl (op_moveS rfl ?_) | refine AL.set rfl rfl (op_assignI rfl ?_) | refine AL.set rfl rfl (op_lenS rfl ?_) | refine AL.set rfl rfl (op_intF rfl rfl rfl (by omega) ?_) | refine AL.set rfl rfl (op_add64 rfl rfl (by omega) ?_))
            exact ⟨i + 1, ⟨hlt, hbd2⟩, by omega, Weak.same (EW.cons rfl (EW.cons rfl (EW.cons (congrArg Value.bool (hst2 true rfl).symm) (EW.cons rfl EW.nil))))⟩
    · rw [h1] at cs hst
      have hst2 : ∀ b, b = fl → ((ks.take (i + 1)).any fun x => eR F x.1 == 6) = b := by
        rintro b rfl
        rw [hst]
        cases b <;> rfl
      generalize iR F x.1 = ii at cs
      by_cases hneg : x.2 < 0
      · have hb2 : badK ks = true := by
          rw [hbd, badK_drop hx, decide_eq_true hneg]
          simp
        cases fl
        · repeat (first | refine AL.nil ?_ | refine AWp.seq ?_ | refine AWp.region ?_ | refine AWp.condT rfl ?_ | refine AWp.ret ?_ | refine AWp.block ?_ | refine AWp.skip ?_ | refine AL.set rfl rfl (op_moveI rfl ?_) | refine AL.set rfl rfl (op_moveS rfl ?_) | refine AL.set rfl rfl (op_moveB rfl ?_) | refine AL.set rfl rfl (op_moveP rfl ?_) | refine AL.set rfl rfl (op_moveT rfl ?_) | refine AL.set rfl rfl (op_assignI rfl ?_) | refine AL.set rfl rfl (op_assignB rfl ?_) | refine AL.set rfl rfl (op_assignP rfl ?_) | refine AL.set rfl rfl (op_lenS rfl ?_) | refine AL.set rfl rfl (op_intT rfl rfl rfl (by omega) ?_) | refine AL.set rfl rfl (op_intF rfl rfl rfl (by omega) ?_) | refine AL.set rfl rfl (op_indexND rk rfl rfl (by omega) hx2 ?_) | refine AL.set rfl rfl (op_faN hp rfl ?_) | refine AL.set rfl rfl (op_loadF0 (off := 0) hp rfl rfl rfl ?_) | refine AL.set rfl rfl (op_loadF0 (off := 1) hp rfl rfl rfl ?_) | refine AL.set rfl rfl (op_callS rfl rfl cs ?_) | refine AL.set rfl rfl (op_extract rfl rfl ?_) | refine AL.set rfl rfl (op_pick rfl rfl ?_))
          exact ⟨_, ResV.tmp2 rfl, .inl (hE2 hb2)⟩
        · repeat (first | refine AL.nil ?_ | refine AL.skip rfl rfl ?_ | refine AWp.seq ?_ | refine AWp.region ?_ | refine AWp.condT rfl ?_ | refine AWp.ret ?_ | refine AWp.block ?_ | refine AWp.skip ?_ | refine AL.set rfl rfl (op_moveI rfl ?_) | refine AL.set rfl rfl (op_moveS rfl ?_) | refine AL.set rfl rfl (op_moveB rfl ?_) | refine AL.set rfl rfl (op_moveP rfl ?_) | refine AL.set rfl rfl (op_moveT rfl ?_) | refine AL.set rfl rfl (op_assignI rfl ?_) | refine AL.set rfl rfl (op_assignB rfl ?_) | refine AL.set rfl rfl (op_assignP rfl ?_) | refine AL.set rfl rfl (op_lenS rfl ?_) | refine AL.set rfl rfl (op_intT rfl rfl rfl (by omega) ?_) | refine AL.set rfl rfl (op_intF rfl rfl rfl (by omega) ?_) | refine AL.set rfl rfl (op_indexND rk rfl rfl (by omega) hx2 ?_) | refine AL.set rfl rfl (op_faN hp rfl ?_) | refine AL.set rfl rfl (op_loadF0 (off := 0) hp rfl rfl rfl ?_) | refine AL.set rfl rfl (op_loadF0 (off := 1) hp rfl rfl rfl ?_) | refine AL.set rfl rfl (op_callS rfl rfl cs ?_) | refine AL.set rfl rfl (op_extract rfl rfl ?_) | refine AL.set rfl rfl (op_pick rfl rfl ?_))
          exact ⟨_, ResV.tmp2 rfl, .inl (hE2 hb2)⟩
      · cases fl
        · repeat (first | refine AL.nil ?_ | refine AWp.seq ?_ | refine AWp.region ?_ | refine AWp.condT rfl ?_ | refine AWp.condF rfl ?_ | refine AWp.block ?_ | refine AWp.skip ?_ | refine AL.set rfl rfl (op_moveI rfl ?_) | refine AL.set rfl rfl (op_moveS rfl ?_) | refine AL.set rfl rfl (op_moveB rfl ?_) | refine AL.set rfl rfl (op_moveP rfl ?_) | refine AL.set rfl rfl (op_moveT rfl ?_) | refine AL.set rfl rfl (op_assignI rfl ?_) | refine AL.set rfl rfl (op_assignB rfl ?_) | refine AL.set rfl rfl (op_lenS rfl ?_) | refine AL.set rfl rfl (op_intT rfl rfl rfl (by omega) ?_) | refine AL.set rfl rfl (op_intF rfl rfl rfl (by omega) ?_) | refine AL.set rfl rfl (op_indexND rk rfl rfl (by omega) hx2 ?_) | refine AL.set rfl rfl (op_faN hp rfl ?_) | refine AL.set rfl rfl (op_loadF0 (off := 0) hp rfl rfl rfl ?_) | refine AL.set rfl rfl (op_loadF0 (off := 1) hp rfl rfl rfl ?_) | refine AL.set rfl rfl (op_callS rfl rfl cs ?_) | refine AL.set rfl rfl (op_extract rfl rfl ?_) | refine AL.set rfl rfl (op_pick rfl rfl ?_) | refine AL.set rfl rfl (op_add64 rfl rfl (by omega) ?_))
          refine AWp.loop (α := Nat) (fun k => [(0, ptr j), (1, .slice va ks.length vc), (6, .bool false), (7, .int .i64 (i : Nat)), (10, .int .i64 (k : Nat))]) (fun _ => h) (fun k => i + 1 ≤ k ∧ k ≤ ks.length ∧ ∀ (m : Nat) (y : Kp1), i < m → m < k → ks[m]? = some y → y.1 ≠ x.1) (fun k => ks.length - k) (i + 1) ⟨Nat.le_refl _, hlt, fun m y h1 h2 => by omega⟩ (Weak.same (EW.cons rfl (EW.cons rfl (EW.cons rfl (EW.cons rfl (EW.cons rfl EW.nil)))))) ?_
          rintro k ⟨hk1, hk2, hno⟩
          by_cases hkl : k < ks.length
          · obtain ⟨y, hy⟩ : ∃ y, ks[k]? = some y := ⟨_, List.getElem?_eq_getElem hkl⟩
            have hy2 := krow_at hy
            have hpy := rk.elt hy2
            by_cases he : y.1 = x.1
            · have hb2 : badK ks = true := by
                rw [hbd, badK_drop hx, any_drop_true (m := k) hk1 hy (by simpa using he)]
                simp
              repeat (first | refine AL.nil ?_ | refine AWp.seq ?_ | refine AWp.region ?_ | refine AWp.condT rfl ?_ | refine AWp.block ?_ | refine AWp.skip ?_ | refine AL.set rfl rfl (op_moveI rfl ?_) | refine AL.set rfl rfl (op_moveS rfl ?_) | refine AL.set rfl rfl (op_lenS rfl ?_) | refine AL.set rfl rfl (op_intT rfl rfl rfl (by omega) ?_))
              refine AWp.draw (σ := [(0, .R), (1, .R), (2, .R), (3, .R), (4, .R), (5, .R), (6, .R), (7, .R), (8, .R), (9, .R), (10, .R)]) mixed (by kernel_rfl) ?_
              repeat (first | refine DAL.r rfl rfl rfl (fun h' hx hn => op_moveI rfl ⟨rfl, rfl⟩) ?_ | refine DAL.r rfl rfl rfl (fun h' hx hn => op_moveS rfl ⟨rfl, rfl⟩) ?_ | refine DAL.r rfl rfl rfl (fun h' hx hn => op_indexND (rk.ext hx) rfl rfl (by omega) hx2 ⟨rfl, rfl⟩) ?_ | refine DAL.r rfl rfl rfl (fun h' hx hn => op_indexND (rk.ext hx) rfl rfl (by omega) hy2 ⟨rfl, rfl⟩) ?_ | refine DAL.r rfl rfl rfl (fun h' hx hn => op_faN (hp.ext hx) rfl ⟨rfl, rfl⟩) ?_ | refine DAL.r rfl rfl rfl (fun h' hx hn => op_faN (hpy.ext hx) rfl ⟨rfl, rfl⟩) ?_ | refine DAL.r rfl rfl rfl (fun h' hx hn => op_loadF0 (off := 0) (hp.ext hx) rfl rfl rfl ⟨rfl, rfl⟩) ?_ | refine DAL.r rfl rfl rfl (fun h' hx hn => op_loadF0 (off := 0) (hpy.ext hx) rfl rfl rfl ⟨rfl, rfl⟩) ?_ | refine DAL.r rfl rfl rfl (fun h' hx hn => op_sEqT rfl rfl he ⟨rfl, rfl⟩) ?_)
              refine DAL.nil ?_
              repeat (first | refine AL.nil ?_ | refine AWp.seq ?_ | refine AWp.region ?_ | refine AWp.condT rfl ?_ | refine AWp.ret ?_ | refine AL.set rfl rfl (op_assignI rfl ?_) | refine AL.set rfl rfl (op_assignP rfl ?_))
              exact ⟨_, ResV.tmp2 rfl, .inl (hE2 hb2)⟩
            · repeat (first | refine AL.nil ?_ | refine AWp.seq ?_ | refine AWp.region ?_ | refine AWp.condT rfl ?_ | refine AWp.block ?_ | refine AWp.skip ?_ | refine AL.set rfl rfl (op_moveI rfl ?_) | refine AL.set rfl rfl (op_moveS rfl ?_) | refine AL.set rfl rfl (op_lenS rfl ?_) | refine AL.set rfl rfl (op_intT rfl rfl rfl (by omega) ?_))
              refine AWp.draw (σ := [(0, .R), (1, .R), (2, .R), (3, .R), (4, .R), (5, .R), (6, .R), (7, .R), (8, .R), (9, .R), (10, .R)]) mixed (by kernel_rfl) ?_
              repeat (first | refine DAL.r rfl rfl rfl (fun h' hx hn => op_moveI rfl ⟨rfl, rfl⟩) ?_ | refine DAL.r rfl rfl rfl (fun h' hx hn => op_moveS rfl ⟨rfl, rfl⟩) ?_ | refine DAL.r rfl rfl rfl (fun h' hx hn => op_indexND (rk.ext hx) rfl rfl (by omega) hx2 ⟨rfl, rfl⟩) ?_ | refine DAL.r rfl rfl rfl (fun h' hx hn => op_indexND (rk.ext hx) rfl rfl (by omega) hy2 ⟨rfl, rfl⟩) ?_ | refine DAL.r rfl rfl rfl (fun h' hx hn => op_faN (hp.ext hx) rfl ⟨rfl, rfl⟩) ?_ | refine DAL.r rfl rfl rfl (fun h' hx hn => op_faN (hpy.ext hx) rfl ⟨rfl, rfl⟩) ?_ | refine DAL.r rfl rfl rfl (fun h' hx hn => op_loadF0 (off := 0) (hp.ext hx) rfl rfl rfl ⟨rfl, rfl⟩) ?_ | refine DAL.r rfl rfl rfl (fun h' hx hn => op_loadF0 (off := 0) (hpy.ext hx) rfl rfl rfl ⟨rfl, rfl⟩) ?_ | refine DAL.r rfl rfl rfl (fun h' hx hn => op_sEqF rfl rfl he ⟨rfl, rfl⟩) ?_)
              refine DAL.nil ?_
              repeat (first | refine AL.nil ?_ | refine AWp.region ?_ | refine AWp.condF rfl ?_ | refine AWp.skip ?_ | refine AL.set rfl rfl (op_moveI rfl ?_) | refine AL.set rfl rfl (op_assignI rfl ?_) | refine AL.set rfl rfl (op_add64 rfl rfl (by omega) ?_))
              refine ⟨k + 1, ⟨by omega, hkl, fun m z h1 h2 hz => ?_⟩, by omega, Weak.same (EW.cons rfl (EW.cons rfl (EW.cons rfl (EW.cons rfl (EW.cons rfl EW.nil)))))⟩
              by_cases hmk : m = k
              · subst hmk; rw [hy] at hz; cases hz; exact he
              · exact hno m z h1 (by omega) hz
          · have hbd2 : badK ks = badK (ks.drop (i + 1)) := by
              rw [hbd, badK_drop hx, hg2, decide_eq_false hneg, any_drop_false (i := i + 1) fun m y h1 hy => by simpa using hno m y (by omega) (by have := (List.getElem?_eq_some_iff.1 hy).1; omega) hy]
              rfl
            repeat (first | refine AL.nil ?_ | refine AWp.seq ?_ | refine AWp.region ?_ | refine AWp.condF rfl ?_ | refine AWp.exit ?_ | refine AL.set rfl rfl (op_moveI rfl ?_) | refine AL.set rfl rfl (op_moveS rfl ?_) | refine AL.set rfl rfl (op_assignI rfl ?_) | refine AL.set rfl rfl (op_lenS rfl ?_) | refine AL.set rfl rfl (op_intF rfl rfl rfl (by omega) ?_) | refine AL.set rfl rfl (op_add64 rfl rfl (by omega) ?_))
            exact ⟨i + 1, ⟨hlt, hbd2⟩, by omega, Weak.same (EW.cons rfl (EW.cons rfl (EW.cons (congrArg Value.bool (hst2 false rfl).symm) (EW.cons rfl EW.nil))))⟩
        · repeat (first | refine AL.nil ?_ | refine AL.skip rfl rfl ?_ | refine AWp.seq ?_ | refine AWp.region ?_ | refine AWp.condT rfl ?_ | refine AWp.condF rfl ?_ | refine AWp.block ?_ | refine AWp.skip ?_ | refine AL.set rfl rfl (op_moveI rfl ?_) | refine AL.set rfl rfl (op_moveS rfl ?_) | refine AL.set rfl rfl (op_moveB rfl ?_) | refine AL.set rfl rfl (op_moveP rfl ?_) | refine AL.set rfl rfl (op_moveT rfl ?_) | refine AL.set rfl rfl (op_assignI rfl ?_) | refine AL.set rfl rfl (op_assignB rfl ?_) | refine AL.set rfl rfl (op_lenS rfl ?_) | refine AL.set rfl rfl (op_intT rfl rfl rfl (by omega) ?_) | refine AL.set rfl rfl (op_intF rfl rfl rfl (by omega) ?_) | refine AL.set rfl rfl (op_indexND rk rfl rfl (by omega) hx2 ?_) | refine AL.set rfl rfl (op_faN hp rfl ?_) | refine AL.set rfl rfl (op_loadF0 (off := 0) hp rfl rfl rfl ?_) | refine AL.set rfl rfl (op_loadF0 (off := 1) hp rfl rfl rfl ?_) | refine AL.set rfl rfl (op_callS rfl rfl cs ?_) | refine AL.set rfl rfl (op_extract rfl rfl ?_) | refine AL.set rfl rfl (op_pick rfl rfl ?_) | refine AL.set rfl rfl (op_add64 rfl rfl (by omega) ?_))
          refine AWp.loop (α := Nat) (fun k => [(0, ptr j), (1, .slice va ks.length vc), (6, .bool true), (7, .int .i64 (i : Nat)), (10, .int .i64 (k : Nat))]) (fun _ => h) (fun k => i + 1 ≤ k ∧ k ≤ ks.length ∧ ∀ (m : Nat) (y : Kp1), i < m → m < k → ks[m]? = some y → y.1 ≠ x.1) (fun k => ks.length - k) (i + 1) ⟨Nat.le_refl _, hlt, fun m y h1 h2 => by omega⟩ (Weak.same (EW.cons rfl (EW.cons rfl (EW.cons rfl (EW.cons rfl (EW.cons rfl EW.nil)))))) ?_
          rintro k ⟨hk1, hk2, hno⟩
          by_cases hkl : k < ks.length
          · obtain ⟨y, hy⟩ : ∃ y, ks[k]? = some y := ⟨_, List.getElem?_eq_getElem hkl⟩
            have hy2 := krow_at hy
            have hpy := rk.elt hy2
            by_cases he : y.1 = x.1
            · have hb2 : badK ks = true := by
                rw [hbd, badK_drop hx, any_drop_true (m := k) hk1 hy (by simpa using he)]
                simp
              repeat (first | refine AL.nil ?_ | refine AWp.seq ?_ | refine AWp.region ?_ | refine AWp.condT rfl ?_ | refine AWp.block ?_ | refine AWp.skip ?_ | refine AL.set rfl rfl (op_moveI rfl ?_) | refine AL.set rfl rfl (op_moveS rfl ?_) | refine AL.set rfl rfl (op_lenS rfl ?_) | refine AL.set rfl rfl (op_intT rfl rfl rfl (by omega) ?_))
              refine AWp.draw (σ := [(0, .R), (1, .R), (2, .R), (3, .R), (4, .R), (5, .R), (6, .R), (7, .R), (8, .R), (9, .R), (10, .R)]) mixed (by kernel_rfl) ?_
              repeat (first | refine DAL.r rfl rfl rfl (fun h' hx hn => op_moveI rfl ⟨rfl, rfl⟩) ?_ | refine DAL.r rfl rfl rfl (fun h' hx hn => op_moveS rfl ⟨rfl, rfl⟩) ?_ | refine DAL.r rfl rfl rfl (fun h' hx hn => op_indexND (rk.ext hx) rfl rfl (by omega) hx2 ⟨rfl, rfl⟩) ?_ | refine DAL.r rfl rfl rfl (fun h' hx hn => op_indexND (rk.ext hx) rfl rfl (by omega) hy2 ⟨rfl, rfl⟩) ?_ | refine DAL.r rfl rfl rfl (fun h' hx hn => op_faN (hp.ext hx) rfl ⟨rfl, rfl⟩) ?_ | refine DAL.r rfl rfl rfl (fun h' hx hn => op_faN (hpy.ext hx) rfl ⟨rfl, rfl⟩) ?_ | refine DAL.r rfl rfl rfl (fun h' hx hn => op_loadF0 (off := 0) (hp.ext hx) rfl rfl rfl ⟨rfl, rfl⟩) ?_ | refine DAL.r rfl rfl rfl (fun h' hx hn => op_loadF0 (off := 0) (hpy.ext hx) rfl rfl rfl ⟨rfl, rfl⟩) ?_ | refine DAL.r rfl rfl rfl (fun h' hx hn => op_sEqT rfl rfl he ⟨rfl, rfl⟩) ?_)
              refine DAL.nil ?_
              repeat (first | refine AL.nil ?_ | refine AWp.seq ?_ | refine AWp.region ?_ | refine AWp.condT rfl ?_ | refine AWp.ret ?_ | refine AL.set rfl rfl (op_assignI rfl ?_) | refine AL.set rfl rfl (op_assignP rfl ?_))
              exact ⟨_, ResV.tmp2 rfl, .inl (hE2 hb2)⟩
            · repeat (first | refine AL.nil ?_ | refine AWp.seq ?_ | refine AWp.region ?_ | refine AWp.condT rfl ?_ | refine AWp.block ?_ | refine AWp.skip ?_ | refine AL.set rfl rfl (op_moveI rfl ?_) | refine AL.set rfl rfl (op_moveS rfl ?_) | refine AL.set rfl rfl (op_lenS rfl ?_) | refine AL.set rfl rfl (op_intT rfl rfl rfl (by omega) ?_))
              refine AWp.draw (σ := [(0, .R), (1, .R), (2, .R), (3, .R), (4, .R), (5, .R), (6, .R), (7, .R), (8, .R), (9, .R), (10, .R)]) mixed (by kernel_rfl) ?_
              repeat (first | refine DAL.r rfl rfl rfl (fun h' hx hn => op_moveI rfl ⟨rfl, rfl⟩) ?_ | refine DAL.r rfl rfl rfl (fun h' hx hn => op_moveS rfl ⟨rfl, rfl⟩) ?_ | refine DAL.r rfl rfl rfl (fun h' hx hn => op_indexND (rk.ext hx) rfl rfl (by omega) hx2 ⟨rfl, rfl⟩) ?_ | refine DAL.r rfl rfl rfl (fun h' hx hn => op_indexND (rk.ext hx) rfl rfl (by omega) hy2 ⟨rfl, rfl⟩) ?_ | refine DAL.r rfl rfl rfl (fun h' hx hn => op_faN (hp.ext hx) rfl ⟨rfl, rfl⟩) ?_ | refine DAL.r rfl rfl rfl (fun h' hx hn => op_faN (hpy.ext hx) rfl ⟨rfl, rfl⟩) ?_ | refine DAL.r rfl rfl rfl (fun h' hx hn => op_loadF0 (off := 0) (hp.ext hx) rfl rfl rfl ⟨rfl, rfl⟩) ?_ | refine DAL.r rfl rfl rfl (fun h' hx hn => op_loadF0 (off := 0) (hpy.ext hx) rfl rfl rfl ⟨rfl, rfl⟩) ?_ | refine DAL.r rfl rfl rfl (fun h' hx hn => op_sEqF rfl rfl he ⟨rfl, rfl⟩) ?_)
              refine DAL.nil ?_
              repeat (first | refine AL.nil ?_ | refine AWp.region ?_ | refine AWp.condF rfl ?_ | refine AWp.skip ?_ | refine AL.set rfl rfl (op_moveI rfl ?_) | refine AL.set rfl rfl (op_assignI rfl ?_) | refine AL.set rfl rfl (op_add64 rfl rfl (by omega) ?_))
              refine ⟨k + 1, ⟨by omega, hkl, fun m z h1 h2 hz => ?_⟩, by omega, Weak.same (EW.cons rfl (EW.cons rfl (EW.cons rfl (EW.cons rfl (EW.cons rfl EW.nil)))))⟩
              by_cases hmk : m = k
              · subst hmk; rw [hy] at hz; cases hz; exact he
              · exact hno m z h1 (by omega) hz
          · have hbd2 : badK ks = badK (ks.drop (i + 1)) := by
              rw [hbd, badK_drop hx, hg2, decide_eq_false hneg, any_drop_false (i := i + 1) fun m y h1 hy => by simpa using hno m y (by omega) (by have := (List.getElem?_eq_some_iff.1 hy).1; omega) hy]
              rfl
            repeat (first | refine AL.nil ?_ | refine AWp.seq ?_ | refine AWp.region ?_ | refine AWp.condF rfl ?_ | refine AWp.exit ?_ | refine AL.set rfl rfl (op_moveI rfl ?_) | refine AL.set rfl rfl (op_moveS rfl ?_) | refine AL.set rfl rfl (op_assignI rfl ?_) | refine AL.set rfl rfl (op_lenS rfl ?_) | refine AL.set rfl rfl (op_intF rfl rfl rfl (by omega) ?_) | refine AL.set rfl rfl (op_add64 rfl rfl (by omega) ?_))
            exact ⟨i + 1, ⟨hlt, hbd2⟩, by omega, Weak.same (EW.cons rfl (EW.cons rfl (EW.cons (congrArg Value.bool (hst2 true rfl).symm) (EW.cons rfl EW.nil))))⟩
  · obtain rfl : i = ks.length := by omega
    rw [List.take_length]
    have hbf : badK ks = false := by rw [hbd, List.drop_length]; rfl
    obtain ⟨fl, hfl⟩ : ∃ b, (ks.any fun x => eR F x.1 == 6) = b := ⟨_, rfl⟩
    rw [hfl]
    have hms : missK F ks = fl := hfl
    cases fl with
    | true =>
      have hE : crashE F ks = 6 := by unfold crashE; rw [hbf, hms]; rfl
      rw [hE]
      repeat (first | refine AL.nil ?_ | refine AWp.seq ?_ | refine AWp.region ?_ | refine AWp.condT rfl ?_ | refine AWp.condF rfl ?_ | refine AWp.ret ?_ | refine AWp.exit ?_ | refine AL.set rfl rfl (op_moveI rfl ?_) | refine AL.set rfl rfl (op_moveS rfl ?_) | refine AL.set rfl rfl (op_moveB rfl ?_) | refine AL.set rfl rfl (op_assignI rfl ?_) | refine AL.set rfl rfl (op_assignP rfl ?_) | refine AL.set rfl rfl (op_lenS rfl ?_) | refine AL.set rfl rfl (op_intF rfl rfl rfl (by omega) ?_))
      exact ⟨_, ResV.tmp2 rfl, .inl ⟨by decide, rfl, rfl⟩⟩
    | false =>
      have hE : crashE F ks = 0 := by unfold crashE; rw [hbf, hms]; rfl
      rw [hE]
      repeat (first | refine AL.nil ?_ | refine AWp.seq ?_ | refine AWp.region ?_ | refine AWp.condF rfl ?_ | refine AWp.exit ?_ | refine AWp.skip ?_ | refine AL.set rfl rfl (op_moveI rfl ?_) | refine AL.set rfl rfl (op_moveS rfl ?_) | refine AL.set rfl rfl (op_moveB rfl ?_) | refine AL.set rfl rfl (op_moveP rfl ?_) | refine AL.set rfl rfl (op_lenS rfl ?_) | refine AL.set rfl rfl (op_intF rfl rfl rfl (by omega) ?_) | refine AL.set rfl rfl (op_nilCheck rfl ?_) | refine AL.set rfl rfl (op_fa rfl ?_) | refine AL.set rfl rfl (op_load rfl rfl r.box rfl ?_))
      refine AL.set rfl rfl (op_buildS (out := [.int .i64 (room : Nat), .slice none 0 0]) rfl rfl ?_)
      skip
      refine AL.set rfl rfl (op_box (v := .agg #[.int .i64 (room : Nat), .slice none 0 0]) rfl (by intro e; cases e) ?_)
      refine AL.heap (show _ = h.alloc (rdB room (.slice none 0 0)) from rfl) ?_
      repeat (first | refine AL.nil ?_ | refine AWp.seq ?_ | refine AWp.region ?_ | refine AWp.block ?_ | refine AL.set rfl rfl (op_assignI rfl ?_) | refine AL.set rfl rfl (op_assignP rfl ?_))
      have d0 : RCr h h.next room (.slice none 0 0) (((F.take 0).map (cutR ks)).map rowR) (h.alloc (rdB room (.slice none 0 0))) :=
        ⟨Heap.alloc_new _ _, ON.nil _ _ _ _, (by intro e; cases e), wf.ext _, wf.alloc _, Nat.le_refl _⟩
      refine AWp.loop (α := Nat × Value × Heap) (fun d => [(0, ptr j), (1, .slice va ks.length vc), (11, ptr h.next), (12, .int .i64 (d.1 : Nat))]) (fun d => d.2.2) (fun d => d.1 ≤ F.length ∧ RCr h h.next room d.2.1 (((F.take d.1).map (cutR ks)).map rowR) d.2.2) (fun d => F.length - d.1) (0, .slice none 0 0, _) ⟨Nat.zero_le _, d0⟩
        (Weak.same (EW.cons rfl (EW.cons rfl (EW.cons rfl (EW.cons rfl EW.nil))))) ?_
      rintro ⟨i, u, H⟩ ⟨hi, d⟩
      replace hi : i ≤ F.length := hi
      replace d : RCr h h.next room u (((F.take i).map (cutR ks)).map rowR) H := d
      show AWp _ _ _ _ [(0, ptr j), (1, .slice va ks.length vc), (11, ptr h.next), (12, .int .i64 (i : Nat))] H
      have rH := r.ext d.ext
      have kH := rk.ext d.ext
      by_cases hlt : i < F.length
      · obtain ⟨x, hx⟩ : ∃ x, F[i]? = some x := ⟨_, List.getElem?_eq_getElem hlt⟩
        have hx2 := row_at hx
        have hp := rH.rn.elt hx2
        have hxl := usedR_at hx
        have ht0 := told_nonneg hbf x.1
        repeat (first | refine AL.nil ?_ | refine AWp.seq ?_ | refine AWp.region ?_ | refine AWp.condT rfl ?_ | refine AWp.block ?_ | refine AWp.skip ?_ | refine AL.set rfl rfl (op_moveI rfl ?_) | refine AL.set rfl rfl (op_moveP rfl ?_) | refine AL.set rfl rfl (op_nilCheck rfl ?_) | refine AL.set rfl rfl (op_fa rfl ?_) | refine AL.set rfl rfl (op_load rfl rfl rH.box rfl ?_) | refine AL.set rfl rfl (op_lenN rH.rn rfl ?_) | refine AL.set rfl rfl (op_intT rfl rfl rfl (by rw [hlen]; omega) ?_) | refine AL.set rfl rfl (op_indexND rH.rn rfl rfl (by omega) hx2 ?_) | refine AL.set rfl rfl (op_loadN hp rfl rfl rfl ?_) | refine AL.set rfl rfl (op_allocR ?_))
        refine AL.eff rfl (op_storeR ([], [], []) x rfl rfl (Heap.alloc_new _ _) ?_)
        refine AL.heap (Heap.set_alloc _ _ _) ?_
        have hx1 := d.wf.ext (rfB x)
        have wf1 := d.wf.alloc (rfB x)
        have g1 := Heap.alloc_new H (rfB x)
        have n1 : (H.alloc (rfB x)).next = H.next + 1 := rfl
        generalize H.alloc (rfB x) = H1 at hx1 wf1 g1 n1 ⊢
        have k1 := kH.ext hx1
        have b1 := hx1.c _ _ d.box
        have o1 := d.own.ext hx1
        have l1 := wf1.lt b1
        repeat (first | refine AL.nil ?_ | refine AWp.seq ?_)
        refine AWp.draw (σ := [(0, .R), (1, .R), (2, .R), (3, .R), (4, .R), (5, .R), (6, .R), (7, .R), (8, .R)]) mixed (by kernel_rfl) ?_
        repeat (first | refine DAL.r rfl rfl rfl (fun h' hx hn => op_moveS rfl ⟨rfl, rfl⟩) ?_ | refine DAL.r rfl rfl rfl (fun h' hx hn => op_assignI rfl ⟨rfl, rfl⟩) ?_ | refine DAL.r rfl rfl rfl (fun h' hx hn => op_fa rfl ⟨rfl, rfl⟩) ?_ | refine DAL.r rfl rfl rfl (fun h' hx hn => op_load rfl rfl (hx.c _ _ g1) rfl ⟨rfl, rfl⟩) ?_ | refine DAL.r rfl rfl rfl (fun h' hx hn => op_callS rfl rfl (told_c _ ks x.1 h' (k1.ext hx) hl) ⟨rfl, rfl⟩) ?_ | refine DAL.r rfl rfl rfl (fun h' hx hn => op_lenSB rfl ⟨rfl, rfl⟩) ?_ | refine DAL.r rfl rfl rfl (fun h' hx hn => op_min2 rfl rfl ⟨rfl, rfl⟩) ?_)
        refine DAL.nil ?_
        have hmin : (if ((x.2.2.length : Nat) : Int) < told ks x.1 then ((x.2.2.length : Nat) : Int) else told ks x.1) = min (told ks x.1) (x.2.2.length : Nat) := by split <;> omega
        rw [hmin]
        have hn1 : 0 ≤ min (told ks x.1) (x.2.2.length : Nat) := by omega
        have hn2 : min (told ks x.1) (x.2.2.length : Nat) ≤ (x.2.2.length : Nat) := by omega
        have hcut : cutR ks x = (x.1, x.2.1 ++ x.2.2.take (min (told ks x.1) (x.2.2.length : Nat)).toNat, []) := rfl
        generalize min (told ks x.1) (x.2.2.length : Nat) = nn at hn1 hn2 hcut ⊢
        have htl : (x.2.2.take nn.toNat).length ≤ x.2.2.length := by rw [List.length_take]; omega
        skip
        refine AWp.tree (t := OT.seq [(0, .P), (1, .R), (2, .R), (3, .R), (4, .R), (5, .R), (6, .R), (7, .R), (8, .R), (9, .R), (10, .R), (11, .R), (12, .R), (13, .R), (14, .R), (15, .X), (16, .W), (17, .P), (18, .P), (19, .W)] .nil) mixed (by kernel_rfl) ?_
        repeat (first | refine TAL.r rfl rfl rfl (fun h' hx hn => op_moveI rfl ⟨rfl, rfl⟩) ?_ | refine TAL.r rfl rfl rfl (fun h' hx hn => op_moveP rfl ⟨rfl, rfl⟩) ?_ | refine TAL.r rfl rfl rfl (fun h' hx hn => op_nilCheck rfl ⟨rfl, rfl⟩) ?_ | refine TAL.r rfl rfl rfl (fun h' hx hn => op_fa rfl ⟨rfl, rfl⟩) ?_ | refine TAL.r rfl rfl rfl (fun h' hx hn => op_load rfl rfl (hx.c _ _ b1) rfl ⟨rfl, rfl⟩) ?_ | refine TAL.r rfl rfl rfl (fun h' hx hn => op_load rfl rfl (hx.c _ _ g1) rfl ⟨rfl, rfl⟩) ?_ | refine TAL.r rfl rfl rfl (fun h' hx hn => op_sliceSB (l := 0) (m := nn) rfl rfl rfl (by omega) hn1 hn2 ⟨rfl, rfl⟩) ?_ | refine TAL.r rfl rfl rfl (fun h' hx hn => op_sCat rfl rfl (by simp only [maxLen, List.drop_zero, Int.toNat_zero]; omega) ⟨rfl, rfl⟩) ?_ | refine TAL.r rfl rfl rfl (fun h' hx hn => op_buildS (out := rowR (cutR ks x)) rfl (by rw [hcut]; rfl) ⟨rfl, rfl⟩) ?_ | refine TAL.p rfl rfl rfl (fun h' hn => op_moveP rfl ⟨rfl, rfl⟩) ?_)
        refine TAL.x rfl rfl rfl (op_rowN1 (sz := 3) (row := rowR (cutR ks x)) (by decide) (by decide) rfl rfl ?_)
        refine ⟨wf1.ext _, ?_⟩
        have hx2' := wf1.ext (rfB (cutR ks x))
        have wf2 := wf1.alloc (rfB (cutR ks x))
        have g2 := Heap.alloc_new H1 (rfB (cutR ks x))
        have n2 : (H1.alloc (rfB (cutR ks x))).next = H1.next + 1 := rfl
        have b2 := hx2'.c _ _ b1
        have o2 := o1.ext hx2'
        generalize H1.alloc (rfB (cutR ks x)) = H2 at hx2' wf2 g2 n2 b2 o2 ⊢
        have hlr : (((F.take i).map (cutR ks)).map rowR).length = i := by simp; omega
        have lh := wf.lt r.box
        refine TAL.w rfl rfl rfl (op_appendN (m := 1) (z := .agg #[.string ⟨#[]⟩, .string ⟨#[]⟩, .string ⟨#[]⟩]) (news := [rowR (cutR ks x)]) rfl wf2 (by omega) o2 rfl rfl (RN.row1 rfl g2).src rfl (by simp [rowR]) rfl (by simp only [maxLen]; omega) (by omega) ?_)
        intro u' H3 o3 hfr k3 wf3 n3
        have b3 : H3.get h.next = some (rdB room u) := k3.c _ _ b2 fun s n c hv => d.ap (by rw [hv]; rfl)
        have x3 : Ext h H3 := by
          have xx := (d.ext.trans hx1).trans hx2'
          exact ⟨fun q b hq => k3.c q b (xx.c q b hq) fun s n c hv => by have := o2.blk q (by rw [hv]; rfl); have := wf.lt hq; omega, fun q b hq => k3.o q b (xx.o q b hq)⟩
        repeat (first | refine TAL.p rfl rfl rfl (fun h' hn => op_nilCheck rfl ⟨rfl, rfl⟩) ?_ | refine TAL.p rfl rfl rfl (fun h' hn => op_fa rfl ⟨rfl, rfl⟩) ?_)
        refine TAL.w0 rfl rfl (op_store (v := u') rfl rfl o3.one b3 rfl (by show 1 < 2; omega) ?_)
        refine TAL.nil ?_
        have l3 := wf3.lt b3
        have hb4 : ∀ q, vblk u' = some q → H2.next ≤ q := by
          intro q hq
          rcases o3.at_ with ⟨rfl, _⟩ | ⟨q', cap, _, rfl, _⟩
          · cases hq
          · cases hq; exact hfr _ _ _ _ rfl
        have hrow : ((F.take i).map (cutR ks)).map rowR ++ [rowR (cutR ks x)] = ((F.take (i + 1)).map (cutR ks)).map rowR := by rw [List.take_add_one, hx]; simp
        rw [hrow] at o3
        repeat (first | refine AL.nil ?_ | refine AWp.region ?_ | refine AL.set rfl rfl (op_moveI rfl ?_) | refine AL.set rfl rfl (op_assignI rfl ?_) | refine AL.set rfl rfl (op_add64 rfl rfl (by omega) ?_))
        refine ⟨(i + 1, u', H3.set h.next (rdB room u')), ⟨hlt, ⟨Heap.set_at _ _ _, ⟨o3.len, o3.at_.imp id fun ⟨q, cap, q1, q2, q3⟩ => ⟨q, cap, q1, q2, (Heap.set_other (by have := hb4 q (by rw [q2]; rfl); omega)).trans q3⟩⟩, fun e => by have := hb4 _ e; omega, ⟨fun q b hq => (Heap.set_other (by have := wf.lt hq; omega)).trans (x3.c q b hq), fun q b hq => x3.o q b hq⟩, wf3.set l3 _, Nat.le_refl _⟩⟩,
          by show F.length - (i + 1) < F.length - i; omega, Weak.same (EW.cons rfl (EW.cons rfl (EW.cons rfl (EW.cons rfl EW.nil))))⟩
      · obtain rfl : i = F.length := by omega
        have hr := d.own.rn
        rw [List.take_length] at hr
        have hcu := crashL_used F ks
        have hlo := d.wf.lt d.box
        repeat (first | refine AL.nil ?_ | refine AWp.seq ?_ | refine AWp.region ?_ | refine AWp.condF rfl ?_ | refine AWp.ret ?_ | refine AWp.exit ?_ | refine AL.set rfl rfl (op_moveI rfl ?_) | refine AL.set rfl rfl (op_moveP rfl ?_) | refine AL.set rfl rfl (op_assignI rfl ?_) | refine AL.set rfl rfl (op_assignP rfl ?_) | refine AL.set rfl rfl (op_nilCheck rfl ?_) | refine AL.set rfl rfl (op_fa rfl ?_) | refine AL.set rfl rfl (op_load rfl rfl rH.box rfl ?_) | refine AL.set rfl rfl (op_lenN rH.rn rfl ?_) | refine AL.set rfl rfl (op_intF rfl rfl rfl (by rw [hlen]; omega) ?_))
        exact ⟨_, ResV.tmp2 rfl, .inr ⟨rfl, h.next, u, rfl, Nat.le_refl _, ⟨d.box, hr, by unfold crashL; rw [List.length_map]; exact hc, hbg, by omega⟩, fun q hq => d.own.blk q hq, d.ext, d.wf, by omega⟩⟩
end Go.Proofs.Ytiebmncpdnbcjaa

/-
  The engine: two structs of plain cells, held one against the other.
-/
namespace Go.Eng
open Go

def eqV : Value → Value → Bool
  | .string a, .string b => a == b
  | .int _ a, .int _ b => a == b
  | .bool a, .bool b => a == b
  | _, _ => false
def eqOk : TypeDesc → Value → Value → Bool
  | .string, .string _, .string _ => true
  | .int _, .int k _, .int k' _ => decide (k = k')
  | .bool, .bool _, .bool _ => true
  | _, _, _ => false
/-- A struct's fields: where they lie, and what they are. -/
class EqD (P : Program) (t : TypeId) (ds : outParam (List (Nat × TypeDesc))) : Prop where
  ex : ∃ fs : List Field, P.underlying t = some (.struct fs.toArray) ∧ P.stoodInHeld t = false ∧ P.eqGuardType P.depth t = false ∧ fs.map (fun f => (f.name != "_", f.offset, P.underlying f.type)) = ds.map fun d => (true, d.1, some d.2)
section
variable {P : Program} {ρ : Operand → Value} {h : Heap} {K : Value → Heap → Prop} {dst : Option Tmp} {ty : TypeId} {pos : String} {aft : Array Edge} {g : Option (Nat × Bool)}
theorem run_part1 {t : TypeId} {d : TypeDesc} (ht : P.underlying t = some d) (ha : aggB d = false) (w : World) {cs : Array Value} {o : Nat} {v : Value} (hv : cs[o]? = some v) : (part t cs o).run P w = .ok v w := by
  haveI : TyD P t d := ⟨ht⟩
  simp [part, TyD.isAgg (t := t) (d := d), ha, hv]
theorem run_eqCell {t : TypeId} {d : TypeDesc} (ht : P.underlying t = some d) (w : World) (n : Nat) {x y : Value} (hok : eqOk d x y = true) : (Op.equalIn (n + 1) t x y).run P w = .ok (eqV x y) w := by
  haveI : TyD P t d := ⟨ht⟩
  unfold eqOk at hok
  split at hok
  · simp [Op.equalIn, TyD.run (t := t), eqV]
  · have := of_decide_eq_true hok
    simp [Op.equalIn, TyD.run (t := t), eqV, this]
  · simp [Op.equalIn, TyD.run (t := t), eqV]
  · cases hok
theorem eqOk_agg {d : TypeDesc} {x y : Value} (hok : eqOk d x y = true) : aggB d = false := by
  unfold eqOk at hok
  split at hok <;> first | rfl | (cases hok)
theorem run_eqFields (w : World) (n : Nat) (xs ys : Array Value) : ∀ (fs : List Field) (ds : List (Nat × TypeDesc)), fs.map (fun f => (f.name != "_", f.offset, P.underlying f.type)) = (ds.map fun d => (true, d.1, some d.2)) →
    (∀ d ∈ ds, ∃ x y, xs[d.1]? = some x ∧ ys[d.1]? = some y ∧ eqOk d.2 x y = true) →
    ((forIn fs ((none, ()) : Option Bool × Unit) fun f _ => (do
        if f.name ≠ "_" then
          if !(← Op.equalIn (n + 1) f.type (← part f.type xs f.offset) (← part f.type ys f.offset)) then pure (ForInStep.done (some false, ()))
          else pure (ForInStep.yield (none, ()))
        else pure (ForInStep.yield (none, ())) : Sem (ForInStep (Option Bool × Unit)))) : Sem _).run P w = .ok ((if (ds.all fun d => eqV (xs.getD d.1 undef) (ys.getD d.1 undef)) = true then none else some false), ()) w
  | [], [], _, _ => by simp
  | [], _ :: _, h, _ => by simp at h
  | _ :: _, [], h, _ => by simp at h
  | f :: fs, d :: ds, h, hd => by
    simp only [List.map_cons, List.cons.injEq, Prod.mk.injEq] at h
    obtain ⟨⟨h1, h2, h3⟩, h4⟩ := h
    obtain ⟨x, y, q1, q2, q3⟩ := hd d (by simp)
    have ih := run_eqFields w n xs ys fs ds h4 fun d hd' => hd d (List.mem_cons_of_mem _ hd')
    have hag := eqOk_agg q3
    have p1 := run_part1 (P := P) h3 hag w (cs := xs) (o := f.offset) (by rw [h2]; exact q1)
    have p2 := run_part1 (P := P) h3 hag w (cs := ys) (o := f.offset) (by rw [h2]; exact q2)
    have p3 := run_eqCell (P := P) h3 w n q3
    have hn : f.name ≠ "_" := by simpa using h1
    have e1 : xs.getD d.1 undef = x := by rw [Array.getD_eq_getD_getElem?, q1]; rfl
    have e2 : ys.getD d.1 undef = y := by rw [Array.getD_eq_getD_getElem?, q2]; rfl
    rw [List.forIn_cons]
    simp only [hn, ne_eq, not_false_eq_true, if_true, Sem.run_bind, p1, p2, p3, Result.andThen_ok, List.all_cons, e1, e2]
    cases hb : eqV x y with
    | true =>
      simp only [Bool.not_true, Bool.false_eq_true, if_false, Sem.run_pure, Result.andThen_ok, Bool.true_and]
      exact ih
    | false => simp
theorem run_eqStruct {t : TypeId} {ds : List (Nat × TypeDesc)} [q : EqD P t ds] (w : World) (n : Nat) (xs ys : Array Value) (hd : ∀ d ∈ ds, ∃ x y, xs[d.1]? = some x ∧ ys[d.1]? = some y ∧ eqOk d.2 x y = true) :
    (Op.equalIn (n + 2) t (.agg xs) (.agg ys)).run P w = .ok (ds.all fun d => eqV (xs.getD d.1 undef) (ys.getD d.1 undef)) w := by
  obtain ⟨fs, h1, h2, _, h4⟩ := q.ex
  haveI : TyD P t (.struct fs.toArray) := ⟨h1⟩
  have key := run_eqFields (P := P) w n xs ys fs ds h4 hd
  unfold Op.equalIn
  simp only [Sem.run_bind, TyD.run (t := t), Result.andThen_ok, run_program, h2, Bool.false_eq_true, if_false, List.forIn_toArray]
  generalize (ds.all fun d => eqV (xs.getD d.1 undef) (ys.getD d.1 undef)) = b at key ⊢
  simp only [ne_eq, ite_not] at key ⊢
  rw [key]
  cases b <;> simp
theorem VRel.eqInv {φ : Ren} {n : Nat} {d : TypeDesc} {x y c e : Value} (hok : eqOk d x y = true) (h1 : VRel φ n x c) (h2 : VRel φ n y e) : c = x ∧ e = y := by
  unfold eqOk at hok
  split at hok
  · exact ⟨h1.string_inv, h2.string_inv⟩
  · exact ⟨h1.int_inv, h2.int_inv⟩
  · exact ⟨h1.bool_inv, h2.bool_inv⟩
  · cases hok
def eqRows (ds : List (Nat × TypeDesc)) (xs ys : List Value) : Bool := ds.all fun d => eqV (xs.getD d.1 undef) (ys.getD d.1 undef)
def okRows (ds : List (Nat × TypeDesc)) (xs ys : List Value) : Bool := ds.all fun d => Nat.blt d.1 xs.length && Nat.blt d.1 ys.length && eqOk d.2 (xs.getD d.1 undef) (ys.getD d.1 undef)
theorem eqSt_run {t : TypeId} {ds : List (Nat × TypeDesc)} [q : EqD P t ds] {φ : Ren} {n : Nat} {xs ys : List Value} {c e : Value} (hok : okRows ds xs ys = true) (h1 : VRel φ n (.agg xs.toArray) c) (h2 : VRel φ n (.agg ys.toArray) e) (w : World) (x y : Operand) :
    ∃ cs es, c = .agg cs ∧ e = .agg es ∧ (∀ op, (eqGuard op t x y c e).run P w = .ok () w) ∧ (Op.equal t c e).run P w = .ok (eqRows ds xs ys) w := by
  obtain ⟨cs, rfl, s1, r1⟩ := h1.agg_inv
  obtain ⟨es, rfl, s2, r2⟩ := h2.agg_inv
  obtain ⟨fs, q1, q2, q3, q4⟩ := q.ex
  have key : ∀ d ∈ ds, cs[d.1]? = some (xs.getD d.1 undef) ∧ es[d.1]? = some (ys.getD d.1 undef) ∧ eqOk d.2 (xs.getD d.1 undef) (ys.getD d.1 undef) = true := by
    intro d hd
    have h3 := List.all_eq_true.1 hok d hd
    simp only [Bool.and_eq_true, Nat.blt_eq] at h3
    obtain ⟨⟨l1, l2⟩, h4⟩ := h3
    simp only [List.size_toArray] at s1 s2
    have u1 : xs.toArray[d.1]? = some (xs.getD d.1 undef) := by simp [l1]
    have u2 : ys.toArray[d.1]? = some (ys.getD d.1 undef) := by simp [l2]
    have v1 := r1 d.1 _ _ u1 (Array.getElem?_eq_getElem (by omega))
    have v2 := r2 d.1 _ _ u2 (Array.getElem?_eq_getElem (by omega))
    obtain ⟨e1, e2⟩ := VRel.eqInv h4 v1 v2
    exact ⟨by rw [Array.getElem?_eq_getElem (by omega), e1], by rw [Array.getElem?_eq_getElem (by omega), e2], h4⟩
  refine ⟨cs, es, rfl, rfl, fun op => ?_, ?_⟩
  · simp [eqGuard, q3]
  · have h5 := run_eqStruct (P := P) (t := t) w 9998 cs es fun d hd => ⟨_, _, (key d hd).1, (key d hd).2.1, (key d hd).2.2⟩
    have h6 : (ds.all fun d => eqV (cs.getD d.1 undef) (es.getD d.1 undef)) = eqRows ds xs ys := by
      unfold eqRows
      rw [Bool.eq_iff_iff, List.all_eq_true, List.all_eq_true]
      constructor
      · intro h7 d hd
        have := h7 d hd
        rw [Array.getD_eq_getD_getElem?, Array.getD_eq_getD_getElem?, (key d hd).1, (key d hd).2.1] at this
        exact this
      · intro h7 d hd
        rw [Array.getD_eq_getD_getElem?, Array.getD_eq_getD_getElem?, (key d hd).1, (key d hd).2.1]
        exact h7 d hd
    rw [h6] at h5
    exact h5
theorem op_eqSt {t t' : TypeId} {x y : Operand} {ds : List (Nat × TypeDesc)} {xs ys : List Value} [q : EqD P t ds] (hx : ρ x = .agg xs.toArray) (hy : ρ y = .agg ys.toArray) (hok : okRows ds xs ys = true) (kk : K (.bool (eqRows ds xs ys)) h) : AOp P ⟨dst, .binOp .eql t x y t', ty, pos, aft, g⟩ ρ h K :=
  .of_pure kk fun φ ac w r => by
    obtain ⟨cs, es, e1, e2, e3, e4⟩ := eqSt_run (P := P) (t := t) hok (hx ▸ r.ev x (by simp [Op.operands])) (hy ▸ r.ev y (by simp [Op.operands])) w x y
    have e3 := e3 .eql
    rw [e1, e2] at e3 e4
    exact ⟨_, by simp [execOp, e1, e2, e3, binOp, e4], .bool _⟩
theorem op_neSt {t t' : TypeId} {x y : Operand} {ds : List (Nat × TypeDesc)} {xs ys : List Value} [q : EqD P t ds] (hx : ρ x = .agg xs.toArray) (hy : ρ y = .agg ys.toArray) (hok : okRows ds xs ys = true) (kk : K (.bool (!eqRows ds xs ys)) h) : AOp P ⟨dst, .binOp .neq t x y t', ty, pos, aft, g⟩ ρ h K :=
  .of_pure kk fun φ ac w r => by
    obtain ⟨cs, es, e1, e2, e3, e4⟩ := eqSt_run (P := P) (t := t) hok (hx ▸ r.ev x (by simp [Op.operands])) (hy ▸ r.ev y (by simp [Op.operands])) w x y
    have e3 := e3 .neq
    rw [e1, e2] at e3 e4
    exact ⟨_, by simp [execOp, e1, e2, e3, binOp, e4], .bool _⟩
theorem op_neStB {t t' : TypeId} {x y : Operand} {ds : List (Nat × TypeDesc)} {xs ys : List Value} {b : Bool} [q : EqD P t ds] (hx : ρ x = .agg xs.toArray) (hy : ρ y = .agg ys.toArray) (hok : okRows ds xs ys = true) (hb : eqRows ds xs ys = b) (kk : K (.bool (!b)) h) : AOp P ⟨dst, .binOp .neq t x y t', ty, pos, aft, g⟩ ρ h K :=
  op_neSt hx hy hok (by rw [hb]; exact kk)
theorem op_eqStB {t t' : TypeId} {x y : Operand} {ds : List (Nat × TypeDesc)} {xs ys : List Value} {b : Bool} [q : EqD P t ds] (hx : ρ x = .agg xs.toArray) (hy : ρ y = .agg ys.toArray) (hok : okRows ds xs ys = true) (hb : eqRows ds xs ys = b) (kk : K (.bool b) h) : AOp P ⟨dst, .binOp .eql t x y t', ty, pos, aft, g⟩ ρ h K :=
  op_eqSt hx hy hok (by rw [hb]; exact kk)
theorem eqV_str (a b : List UInt8) : eqV (.string (bstr a)) (.string (bstr b)) = (a == b) := by
  simp only [eqV]
  rw [beq_toListBytes, bstr_toList, bstr_toList]
end
end Go.Eng
