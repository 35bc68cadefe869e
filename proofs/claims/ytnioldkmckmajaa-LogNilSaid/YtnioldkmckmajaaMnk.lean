/-
  Texts of one claim, merged: 2 parts.
-/
import Derived.Test.YtnioldkmckmajaaMnj
import Derived.Test.YtnioldkmckmajaaMnf
set_option maxHeartbeats 16000000
/-
  What goes over the frames, yield by yield; how many there are.
-/
namespace Go.Proofs.Ytnioldkmckmajaa.Fr
open Go Go.Eng Go.Crc Go.Frm
set_option maxRecDepth 20000
instance i_FnC_hectare_frame_Whole_FrmC : FnC Try.prog 42 := ⟨Try.f42, Try.func42, by kernel_rfl, by kernel_rfl⟩
theorem sub_payload {H : Heap} {v : Value} {b : List UInt8} {k n : Nat} (hr : RB H v b) (h : k + 8 + n ≤ b.length) : RB H (subS (subS v k b.length) 8 (8 + (n : Int))) (payload b k n) := by
  have h1 : RB H (subS v k b.length) (b.drop k) := by
    have := hr.sub (l := (k : Int)) (m := (b.length : Int)) (by omega) (by omega) (by omega)
    simpa using this
  have h2 := h1.sub (l := 8) (m := 8 + (n : Int)) (by omega) (by omega) (by simp; omega)
  have e : (8 + (n : Int)).toNat = 8 + n := by omega
  rw [e, show (8 : Int).toNat = 8 from rfl] at h2
  have e2 : ((b.drop k).take (8 + n)).drop 8 = payload b k n := by
    unfold payload
    rw [List.drop_take, List.drop_drop, show 8 + n - 8 = n from by omega]
  rw [e2] at h2
  exact h2
theorem drop_sub {H : Heap} {v : Value} {b : List UInt8} {k : Nat} (hr : RB H v b) (h : k ≤ b.length) : RB H (subS v k b.length) (b.drop k) := by
  have := hr.sub (l := (k : Int)) (m := (b.length : Int)) (by omega) (by omega) (by omega)
  simpa using this
abbrev FI := List (Nat × List UInt8) × Nat × Nat
def PreF (b : List UInt8) (Y : List (Nat × List UInt8) → Heap → Prop) (i : FI) (H : Heap) (args : List Value) : Prop :=
  ∃ pv, args = [.int .i64 (i.2.1 : Nat), pv] ∧ Come b i.1 i.2.1 ∧ first (b.drop i.2.1) = some i.2.2 ∧ RB H pv (payload b i.2.1 i.2.2) ∧ Y i.1 H
def TF (b : List UInt8) (Y : List (Nat × List UInt8) → Heap → Prop) (i : FI) (H : Heap) : Prop := Y (i.1 ++ [(i.2.1, payload b i.2.1 i.2.2)]) H
set_option maxHeartbeats 2000000 in
theorem all1_x (C : Ctx Try.prog) (hq : C.Quiet) (l p : Nat) (v : Value) (b : List UInt8) (h : Heap) (hbl : b.length ≤ 10000000) (Y : List (Nat × List UInt8) → Heap → Prop) (Z : Heap → Code → Prop)
    (hYx : ∀ i H, Y i H → H.get p = some ⟨[v], 49, true⟩ ∧ RB H v b) (hYs : ∀ i H H', Y i H → Ext H H' → H.next ≤ H'.next → Y i H')
    (hy : YS C l (PreF b Y) (TF b Y) (fun _ H' j => Z H' j)) (h0 : Y [] h) :
    XCalls C 63 [yieldV l, .pointer (some ⟨p, 0, none⟩)] h none fun _ h' s' => (s' = none ∧ Y (fr b 0) h') ∨ ∃ j, s' = some j ∧ Z h' j := by
  refine XCalls.body Try.func63 rfl (Nat.le_of_ble_eq_true rfl) ?_ hq
  repeat (first | refine XWp.seq ?_ | refine XWp.region ?_ | refine XL.set rfl rfl rfl (op_moveI rfl ?_) | refine XL.set rfl rfl rfl (op_moveS rfl ?_) | refine XL.set rfl rfl rfl (op_moveB rfl ?_) | refine XL.set rfl rfl rfl (op_moveP rfl ?_) | refine XL.set rfl rfl rfl (op_moveStr rfl ?_) | refine XL.set rfl rfl rfl (op_moveA rfl ?_) | refine XL.set rfl rfl rfl (op_moveT rfl ?_) | refine XL.set rfl rfl rfl (op_moveF rfl ?_) | refine XL.set rfl rfl rfl (op_assignI rfl ?_) | refine XL.set rfl rfl rfl (op_assignS rfl ?_) | refine XL.set rfl rfl rfl (op_assignB rfl ?_) | refine XL.set rfl rfl rfl (op_assignP rfl ?_) | refine XL.set rfl rfl rfl (op_assignStr rfl ?_) | refine XL.set rfl rfl rfl (op_assignA rfl ?_) | refine XL.set rfl rfl rfl (op_assignF rfl ?_) | refine XL.set rfl rfl rfl (op_add64 rfl rfl (by omega) ?_) | refine XL.set rfl rfl rfl (op_sub64 rfl rfl (by omega) ?_) | refine XL.set rfl rfl rfl (op_quo64 rfl rfl (by omega) ?_) | refine XL.set rfl rfl rfl (op_rem64 rfl rfl (by omega) ?_) | refine XL.set rfl rfl rfl (op_mul64 rfl rfl (by omega) ?_) | refine XL.set rfl rfl rfl (op_int rfl rfl rfl ?_) | refine XL.set rfl rfl rfl (op_conv64 rfl (by omega) ?_) | refine XL.set rfl rfl rfl (op_convI rfl ?_) | refine XL.set rfl rfl rfl (op_not rfl ?_) | refine XL.set rfl rfl rfl (op_lenS rfl ?_) | refine XL.set rfl rfl rfl (op_lenStr rfl ?_) | refine XWp.condT rfl ?_ | refine XWp.condF rfl ?_ | refine XL.skip rfl rfl ?_ | refine XL.nil ?_ | refine XWp.ret ?_ | refine XWp.exit ?_ | refine XWp.block ?_ | refine XWp.skip ?_ | refine XWp.label ?_ | refine XWp.scope ?_)
  refine XWp.loop (α := List (Nat × List UInt8) × Nat × Heap) (fun s => [(0, yieldV l), (1, .pointer (some ⟨p, 0, none⟩)), (3, .int .i64 (s.2.1 : Nat))]) (fun s => s.2.2) (fun s => Come b s.1 s.2.1 ∧ Y s.1 s.2.2) (fun s => b.length - s.2.1) ([], 0, h) ⟨Come.start b, h0⟩
    (Weak.same (EW.cons rfl (EW.cons rfl (EW.cons rfl EW.nil)))) ?_
  rintro ⟨done, k, H⟩ ⟨hc, hY⟩
  replace hc : Come b done k := hc
  replace hY : Y done H := hY
  show XWp _ _ _ _ _ [(0, yieldV l), (1, .pointer (some ⟨p, 0, none⟩)), (3, .int .i64 (k : Nat))] H none
  obtain ⟨hpH, hrH⟩ := hYx _ _ hY
  have hkl := hc.le
  have hus := drop_sub hrH hkl
  have cf := first_c (subS v k b.length) (b.drop k) H hus (by simp; omega)
  repeat (first | refine XWp.seq ?_ | refine XWp.region ?_ | refine XL.set rfl rfl rfl (op_moveI rfl ?_) | refine XL.set rfl rfl rfl (op_moveS rfl ?_) | refine XL.set rfl rfl rfl (op_moveB rfl ?_) | refine XL.set rfl rfl rfl (op_moveP rfl ?_) | refine XL.set rfl rfl rfl (op_moveStr rfl ?_) | refine XL.set rfl rfl rfl (op_moveA rfl ?_) | refine XL.set rfl rfl rfl (op_moveT rfl ?_) | refine XL.set rfl rfl rfl (op_moveF rfl ?_) | refine XL.set rfl rfl rfl (op_assignI rfl ?_) | refine XL.set rfl rfl rfl (op_assignS rfl ?_) | refine XL.set rfl rfl rfl (op_assignB rfl ?_) | refine XL.set rfl rfl rfl (op_assignP rfl ?_) | refine XL.set rfl rfl rfl (op_assignStr rfl ?_) | refine XL.set rfl rfl rfl (op_assignA rfl ?_) | refine XL.set rfl rfl rfl (op_assignF rfl ?_) | refine XL.set rfl rfl rfl (op_load rfl rfl hpH rfl ?_) | refine XL.set rfl rfl rfl (op_sliceDB hrH rfl rfl rfl (by omega) (by omega) (by omega) ?_) | refine XL.set rfl rfl rfl (op_call rfl rfl (cf.wf_post.mono ?_)) | refine XL.set rfl rfl rfl (op_add64 rfl rfl (by omega) ?_) | refine XL.set rfl rfl rfl (op_sub64 rfl rfl (by omega) ?_) | refine XL.set rfl rfl rfl (op_quo64 rfl rfl (by omega) ?_) | refine XL.set rfl rfl rfl (op_rem64 rfl rfl (by omega) ?_) | refine XL.set rfl rfl rfl (op_mul64 rfl rfl (by omega) ?_) | refine XL.set rfl rfl rfl (op_int rfl rfl rfl ?_) | refine XL.set rfl rfl rfl (op_conv64 rfl (by omega) ?_) | refine XL.set rfl rfl rfl (op_convI rfl ?_) | refine XL.set rfl rfl rfl (op_not rfl ?_) | refine XL.set rfl rfl rfl (op_lenS rfl ?_) | refine XL.set rfl rfl rfl (op_lenStr rfl ?_) | refine XWp.condT rfl ?_ | refine XWp.condF rfl ?_ | refine XL.skip rfl rfl ?_ | refine XL.nil ?_ | refine XWp.ret ?_ | refine XWp.exit ?_ | refine XWp.block ?_ | refine XWp.skip ?_ | refine XWp.label ?_ | refine XWp.scope ?_)
  rintro _ H1 ⟨⟨rfl, hx1⟩, wf1, hn1⟩
  have hY1 := hYs _ _ _ hY hx1 hn1
  cases hf : first (b.drop k) with
  | none =>
    have he : firstV (subS v k b.length) (b.drop k) = .tuple #[.slice none 0 0, .bool false] := by unfold firstV; rw [hf]
    rw [he]
    obtain ⟨e1, _⟩ := hc.stop hf
    rw [← e1] at hY1
    repeat (first | refine XWp.seq ?_ | refine XWp.region ?_ | refine XL.set rfl rfl rfl (op_moveI rfl ?_) | refine XL.set rfl rfl rfl (op_moveS rfl ?_) | refine XL.set rfl rfl rfl (op_moveB rfl ?_) | refine XL.set rfl rfl rfl (op_moveP rfl ?_) | refine XL.set rfl rfl rfl (op_moveStr rfl ?_) | refine XL.set rfl rfl rfl (op_moveA rfl ?_) | refine XL.set rfl rfl rfl (op_moveT rfl ?_) | refine XL.set rfl rfl rfl (op_moveF rfl ?_) | refine XL.set rfl rfl rfl (op_assignI rfl ?_) | refine XL.set rfl rfl rfl (op_assignS rfl ?_) | refine XL.set rfl rfl rfl (op_assignB rfl ?_) | refine XL.set rfl rfl rfl (op_assignP rfl ?_) | refine XL.set rfl rfl rfl (op_assignStr rfl ?_) | refine XL.set rfl rfl rfl (op_assignA rfl ?_) | refine XL.set rfl rfl rfl (op_assignF rfl ?_) | refine XL.set rfl rfl rfl (op_extract rfl rfl ?_) | refine XL.set rfl rfl rfl (op_pick (v := .bool true) rfl rfl ?_) | refine XL.set rfl rfl rfl (op_add64 rfl rfl (by omega) ?_) | refine XL.set rfl rfl rfl (op_sub64 rfl rfl (by omega) ?_) | refine XL.set rfl rfl rfl (op_quo64 rfl rfl (by omega) ?_) | refine XL.set rfl rfl rfl (op_rem64 rfl rfl (by omega) ?_) | refine XL.set rfl rfl rfl (op_mul64 rfl rfl (by omega) ?_) | refine XL.set rfl rfl rfl (op_int rfl rfl rfl ?_) | refine XL.set rfl rfl rfl (op_conv64 rfl (by omega) ?_) | refine XL.set rfl rfl rfl (op_convI rfl ?_) | refine XL.set rfl rfl rfl (op_not rfl ?_) | refine XL.set rfl rfl rfl (op_lenS rfl ?_) | refine XL.set rfl rfl rfl (op_lenStr rfl ?_) | refine XWp.condT rfl ?_ | refine XWp.condF rfl ?_ | refine XL.skip rfl rfl ?_ | refine XL.nil ?_ | refine XWp.ret ?_ | refine XWp.exit ?_ | refine XWp.block ?_ | refine XWp.skip ?_ | refine XWp.label ?_ | refine XWp.scope ?_)
    exact ⟨_, ResV.none rfl, .inl ⟨rfl, hY1⟩⟩
  | some n =>
    have he : firstV (subS v k b.length) (b.drop k) = .tuple #[subS (subS v k b.length) 8 (8 + (n : Int)), .bool true] := by unfold firstV; rw [hf]
    rw [he]
    obtain ⟨_, f1, f2, f3, f4, f5⟩ := first_some hf
    have hroom := first_room hf
    have hw1 := sub_payload (hYx _ _ hY1).2 hroom
    have hpl := payload_length hroom
    have hw : ∀ i H', Y i H' → RB H' (subS (subS v k b.length) 8 (8 + (n : Int))) (payload b k n) := fun i H' hi => sub_payload (hYx _ _ hi).2 hroom
    generalize subS (subS v k b.length) 8 (8 + (n : Int)) = wv at hw1 hw ⊢
    repeat (first | refine XWp.seq ?_ | refine XWp.region ?_ | refine XL.set rfl rfl rfl (op_moveI rfl ?_) | refine XL.set rfl rfl rfl (op_moveS rfl ?_) | refine XL.set rfl rfl rfl (op_moveB rfl ?_) | refine XL.set rfl rfl rfl (op_moveP rfl ?_) | refine XL.set rfl rfl rfl (op_moveStr rfl ?_) | refine XL.set rfl rfl rfl (op_moveA rfl ?_) | refine XL.set rfl rfl rfl (op_moveT rfl ?_) | refine XL.set rfl rfl rfl (op_moveF rfl ?_) | refine XL.set rfl rfl rfl (op_assignI rfl ?_) | refine XL.set rfl rfl rfl (op_assignS rfl ?_) | refine XL.set rfl rfl rfl (op_assignB rfl ?_) | refine XL.set rfl rfl rfl (op_assignP rfl ?_) | refine XL.set rfl rfl rfl (op_assignStr rfl ?_) | refine XL.set rfl rfl rfl (op_assignA rfl ?_) | refine XL.set rfl rfl rfl (op_assignF rfl ?_) | refine XL.set rfl rfl rfl (op_extract rfl rfl ?_) | refine XL.set rfl rfl rfl (op_assign (v := wv) rfl ?_) | refine XL.set rfl rfl rfl (op_move (v := yieldV l) rfl ?_) | refine XL.set rfl rfl rfl (op_move (v := wv) rfl ?_) | refine XL.set rfl rfl rfl (op_call rfl rfl ((clone_c wv _ _ hw1 (by omega)).wf_post.mono ?_)) | refine XL.set rfl rfl rfl (op_add64 rfl rfl (by omega) ?_) | refine XL.set rfl rfl rfl (op_sub64 rfl rfl (by omega) ?_) | refine XL.set rfl rfl rfl (op_quo64 rfl rfl (by omega) ?_) | refine XL.set rfl rfl rfl (op_rem64 rfl rfl (by omega) ?_) | refine XL.set rfl rfl rfl (op_mul64 rfl rfl (by omega) ?_) | refine XL.set rfl rfl rfl (op_int rfl rfl rfl ?_) | refine XL.set rfl rfl rfl (op_conv64 rfl (by omega) ?_) | refine XL.set rfl rfl rfl (op_convI rfl ?_) | refine XL.set rfl rfl rfl (op_not rfl ?_) | refine XL.set rfl rfl rfl (op_lenS rfl ?_) | refine XL.set rfl rfl rfl (op_lenStr rfl ?_) | refine XWp.condT rfl ?_ | refine XWp.condF rfl ?_ | refine XL.skip rfl rfl ?_ | refine XL.nil ?_ | refine XWp.ret ?_ | refine XWp.exit ?_ | refine XWp.block ?_ | refine XWp.skip ?_ | refine XWp.label ?_ | refine XWp.scope ?_)
    rintro pv H2 ⟨⟨ho, hx2⟩, wf2, hn2⟩
    have hY2 := hYs _ _ _ hY1 hx2 hn2
    refine XL.yield (l := l) rfl rfl rfl ?_
    refine YSpec.mono (hy (done, k, n) H2 [.int .i64 (k : Nat), pv] ⟨pv, rfl, hc, hf, ho.rs, hY2⟩) ?_
    rintro v' H3 s' wf3 hn3 (⟨rfl, rfl, hY3⟩ | ⟨rfl, j, rfl, hZ⟩)
    · replace hY3 : Y (done ++ [(k, payload b k n)]) H3 := hY3
      have hw3 := hw _ _ hY3
      have hsz : sizeI ((payload b k n).length : Int) = 8 + (n : Int) := by
        unfold sizeI
        rw [hpl, if_pos (by omega)]
      have cz := size_c ((payload b k n).length : Int) H3
      rw [hsz] at cz
      repeat (first | refine XWp.seq ?_ | refine XWp.region ?_ | refine XL.set rfl rfl rfl (op_moveI rfl ?_) | refine XL.set rfl rfl rfl (op_moveS rfl ?_) | refine XL.set rfl rfl rfl (op_moveB rfl ?_) | refine XL.set rfl rfl rfl (op_moveP rfl ?_) | refine XL.set rfl rfl rfl (op_moveStr rfl ?_) | refine XL.set rfl rfl rfl (op_moveA rfl ?_) | refine XL.set rfl rfl rfl (op_moveT rfl ?_) | refine XL.set rfl rfl rfl (op_moveF rfl ?_) | refine XL.set rfl rfl rfl (op_assignI rfl ?_) | refine XL.set rfl rfl rfl (op_assignS rfl ?_) | refine XL.set rfl rfl rfl (op_assignB rfl ?_) | refine XL.set rfl rfl rfl (op_assignP rfl ?_) | refine XL.set rfl rfl rfl (op_assignStr rfl ?_) | refine XL.set rfl rfl rfl (op_assignA rfl ?_) | refine XL.set rfl rfl rfl (op_assignF rfl ?_) | refine XL.set rfl rfl rfl (op_pick (v := .bool false) rfl rfl ?_) | refine XL.set rfl rfl rfl (op_move (v := wv) rfl ?_) | refine XL.set rfl rfl rfl (op_lenRB hw3 rfl ?_) | refine XL.set rfl rfl rfl (op_callS rfl rfl cz ?_) | refine XL.set rfl rfl rfl (op_add64 rfl rfl (by omega) ?_) | refine XL.set rfl rfl rfl (op_sub64 rfl rfl (by omega) ?_) | refine XL.set rfl rfl rfl (op_quo64 rfl rfl (by omega) ?_) | refine XL.set rfl rfl rfl (op_rem64 rfl rfl (by omega) ?_) | refine XL.set rfl rfl rfl (op_mul64 rfl rfl (by omega) ?_) | refine XL.set rfl rfl rfl (op_int rfl rfl rfl ?_) | refine XL.set rfl rfl rfl (op_conv64 rfl (by omega) ?_) | refine XL.set rfl rfl rfl (op_convI rfl ?_) | refine XL.set rfl rfl rfl (op_not rfl ?_) | refine XL.set rfl rfl rfl (op_lenS rfl ?_) | refine XL.set rfl rfl rfl (op_lenStr rfl ?_) | refine XWp.condT rfl ?_ | refine XWp.condF rfl ?_ | refine XL.skip rfl rfl ?_ | refine XL.nil ?_ | refine XWp.ret ?_ | refine XWp.exit ?_ | refine XWp.block ?_ | refine XWp.skip ?_ | refine XWp.label ?_ | refine XWp.scope ?_)
      refine ⟨rfl, (done ++ [(k, payload b k n)], k + 8 + n, H3), ⟨hc.next hf, hY3⟩, by show b.length - (k + 8 + n) < b.length - k; omega, Weak.same (EW.cons rfl (EW.cons rfl (EW.cons ?_ EW.nil)))⟩
      refine congrArg (Value.int .i64) ?_
      show (k : Int) + (8 + (n : Int)) = ((k + 8 + n : Nat) : Int)
      omega
    · repeat (first | refine XWp.seq ?_ | refine XWp.region ?_ | refine XL.set rfl rfl rfl (op_moveI rfl ?_) | refine XL.set rfl rfl rfl (op_moveS rfl ?_) | refine XL.set rfl rfl rfl (op_moveB rfl ?_) | refine XL.set rfl rfl rfl (op_moveP rfl ?_) | refine XL.set rfl rfl rfl (op_moveStr rfl ?_) | refine XL.set rfl rfl rfl (op_moveA rfl ?_) | refine XL.set rfl rfl rfl (op_moveT rfl ?_) | refine XL.set rfl rfl rfl (op_moveF rfl ?_) | refine XL.set rfl rfl rfl (op_assignI rfl ?_) | refine XL.set rfl rfl rfl (op_assignS rfl ?_) | refine XL.set rfl rfl rfl (op_assignB rfl ?_) | refine XL.set rfl rfl rfl (op_assignP rfl ?_) | refine XL.set rfl rfl rfl (op_assignStr rfl ?_) | refine XL.set rfl rfl rfl (op_assignA rfl ?_) | refine XL.set rfl rfl rfl (op_assignF rfl ?_) | refine XL.set rfl rfl rfl (op_pick (v := .bool true) rfl rfl ?_) | refine XL.set rfl rfl rfl (op_add64 rfl rfl (by omega) ?_) | refine XL.set rfl rfl rfl (op_sub64 rfl rfl (by omega) ?_) | refine XL.set rfl rfl rfl (op_quo64 rfl rfl (by omega) ?_) | refine XL.set rfl rfl rfl (op_rem64 rfl rfl (by omega) ?_) | refine XL.set rfl rfl rfl (op_mul64 rfl rfl (by omega) ?_) | refine XL.set rfl rfl rfl (op_int rfl rfl rfl ?_) | refine XL.set rfl rfl rfl (op_conv64 rfl (by omega) ?_) | refine XL.set rfl rfl rfl (op_convI rfl ?_) | refine XL.set rfl rfl rfl (op_not rfl ?_) | refine XL.set rfl rfl rfl (op_lenS rfl ?_) | refine XL.set rfl rfl rfl (op_lenStr rfl ?_) | refine XWp.condT rfl ?_ | refine XWp.condF rfl ?_ | refine XL.skip rfl rfl ?_ | refine XL.nil ?_ | refine XWp.ret ?_ | refine XWp.exit ?_ | refine XWp.block ?_ | refine XWp.skip ?_ | refine XWp.label ?_ | refine XWp.scope ?_)
      exact ⟨_, ResV.none rfl, .inr ⟨j, rfl, hZ⟩⟩
abbrev cellI (n : Nat) : Blk := ⟨[.int .i64 (n : Nat)], 3, true⟩
structure Cnt (h : Heap) (v : Value) (b : List UInt8) (i j p : Nat) (done : List (Nat × List UInt8)) (H : Heap) : Prop where
  ext : Ext h H
  one : H.get i = some (cellI done.length)
  two : H.get j = some (cellI (endF 0 done))
  box : H.get p = some ⟨[v], 49, true⟩
theorem Cnt.grow {h : Heap} {v : Value} {b : List UInt8} {i j p : Nat} {done : List (Nat × List UInt8)} {H H' : Heap} (c : Cnt h v b i j p done H) (hx : Ext H H') : Cnt h v b i j p done H' :=
  ⟨c.ext.trans hx, hx _ _ c.one, hx _ _ c.two, hx _ _ c.box⟩
set_option maxHeartbeats 4000000 in
theorem whole_c (v : Value) (b : List UInt8) (h : Heap) (hr : RB h v b) (hbl : b.length ≤ 10000000) :
    ACalls Try.prog 42 [v] h fun u h' => u = .tuple #[.int .i64 ((fr b 0).length : Nat), .int .i64 (endW b : Nat)] ∧ h' = h := by
  refine ACalls.wf fun wf => ACalls.resetB ?_
  refine ACalls.bodyX Try.func42 rfl (Nat.le_of_ble_eq_true rfl) fun bb => ?_
  repeat (first | refine XWp.seq ?_ | refine XWp.region ?_ | refine XL.set rfl rfl rfl (op_moveI rfl ?_) | refine XL.set rfl rfl rfl (op_moveS rfl ?_) | refine XL.set rfl rfl rfl (op_moveB rfl ?_) | refine XL.set rfl rfl rfl (op_moveP rfl ?_) | refine XL.set rfl rfl rfl (op_moveStr rfl ?_) | refine XL.set rfl rfl rfl (op_moveA rfl ?_) | refine XL.set rfl rfl rfl (op_moveT rfl ?_) | refine XL.set rfl rfl rfl (op_moveF rfl ?_) | refine XL.set rfl rfl rfl (op_assignI rfl ?_) | refine XL.set rfl rfl rfl (op_assignS rfl ?_) | refine XL.set rfl rfl rfl (op_assignB rfl ?_) | refine XL.set rfl rfl rfl (op_assignP rfl ?_) | refine XL.set rfl rfl rfl (op_assignStr rfl ?_) | refine XL.set rfl rfl rfl (op_assignA rfl ?_) | refine XL.set rfl rfl rfl (op_assignF rfl ?_) | refine XL.set rfl rfl rfl (op_alloc (z := .int .i64 0) ?_) | refine XL.set rfl rfl rfl (op_add64 rfl rfl (by omega) ?_) | refine XL.set rfl rfl rfl (op_sub64 rfl rfl (by omega) ?_) | refine XL.set rfl rfl rfl (op_quo64 rfl rfl (by omega) ?_) | refine XL.set rfl rfl rfl (op_rem64 rfl rfl (by omega) ?_) | refine XL.set rfl rfl rfl (op_mul64 rfl rfl (by omega) ?_) | refine XL.set rfl rfl rfl (op_int rfl rfl rfl ?_) | refine XL.set rfl rfl rfl (op_conv64 rfl (by omega) ?_) | refine XL.set rfl rfl rfl (op_convI rfl ?_) | refine XL.set rfl rfl rfl (op_not rfl ?_) | refine XL.set rfl rfl rfl (op_lenS rfl ?_) | refine XL.set rfl rfl rfl (op_lenStr rfl ?_) | refine XWp.condT rfl ?_ | refine XWp.condF rfl ?_ | refine XL.skip rfl rfl ?_ | refine XL.nil ?_ | refine XWp.ret ?_ | refine XWp.exit ?_ | refine XWp.block ?_ | refine XWp.skip ?_ | refine XWp.label ?_ | refine XWp.scope ?_)
  have wf1 := wf.alloc (cellI 0)
  have hx2 : Ext h ((h.alloc (cellI 0)).alloc (cellI 0)) := (wf.ext _).trans (wf1.ext _)
  have wf2 := wf1.alloc (cellI 0)
  have g1 : ((h.alloc (cellI 0)).alloc (cellI 0)).get h.next = some (cellI 0) := Heap.new1 _ _ _
  have g2 : ((h.alloc (cellI 0)).alloc (cellI 0)).get (h.next + 1) = some (cellI 0) := Heap.alloc_new (h.alloc (cellI 0)) _
  have hn2 : ((h.alloc (cellI 0)).alloc (cellI 0)).next = h.next + 2 := rfl
  refine XL.eff rfl rfl (op_store (v := .int .i64 0) rfl rfl rfl g1 rfl (by decide) ?_)
  have hs1 : ((h.alloc (cellI 0)).alloc (cellI 0)).set h.next ⟨[.int .i64 0], 3, true⟩ = ((h.alloc (cellI 0)).alloc (cellI 0)).set h.next (cellI 0) := rfl
  have g3 : (((h.alloc (cellI 0)).alloc (cellI 0)).set h.next (cellI 0)).get (h.next + 1) = some (cellI 0) := by rw [Heap.set_other (by omega)]; exact g2
  have g4 : (((h.alloc (cellI 0)).alloc (cellI 0)).set h.next (cellI 0)).get h.next = some (cellI 0) := Heap.set_at _ _ _
  have hx3 : Ext h (((h.alloc (cellI 0)).alloc (cellI 0)).set h.next (cellI 0)) := wf.ext_set hx2 (Nat.le_refl _) _
  have wf3 : WF (((h.alloc (cellI 0)).alloc (cellI 0)).set h.next (cellI 0)) := wf2.set (by rw [hn2]; omega) _
  have hn3 : (((h.alloc (cellI 0)).alloc (cellI 0)).set h.next (cellI 0)).next = h.next + 2 := rfl
  refine XL.heap hs1 ?_
  generalize ((h.alloc (cellI 0)).alloc (cellI 0)).set h.next (cellI 0) = G at g3 g4 hx3 wf3 hn3 ⊢
  refine XL.eff rfl rfl (op_store (v := .int .i64 0) rfl rfl rfl g3 rfl (by decide) ?_)
  have hs2 : G.set (h.next + 1) ⟨[.int .i64 0], 3, true⟩ = G.set (h.next + 1) (cellI 0) := rfl
  have k1 : (G.set (h.next + 1) (cellI 0)).get h.next = some (cellI 0) := by rw [Heap.set_other (by omega)]; exact g4
  have k2 : (G.set (h.next + 1) (cellI 0)).get (h.next + 1) = some (cellI 0) := Heap.set_at _ _ _
  have hx4 : Ext h (G.set (h.next + 1) (cellI 0)) := wf.ext_set hx3 (by omega) _
  have wf4 : WF (G.set (h.next + 1) (cellI 0)) := wf3.set (by omega) _
  have hn4 : (G.set (h.next + 1) (cellI 0)).next = h.next + 2 := hn3
  refine XL.heap hs2 ?_
  generalize G.set (h.next + 1) (cellI 0) = G2 at k1 k2 hx4 wf4 hn4 ⊢
  clear g1 g2 g3 g4 hs1 hs2 hx2 hx3 wf1 wf2 wf3
  repeat (first | refine XWp.seq ?_ | refine XWp.region ?_ | refine XL.set rfl rfl rfl (op_moveI rfl ?_) | refine XL.set rfl rfl rfl (op_moveS rfl ?_) | refine XL.set rfl rfl rfl (op_moveB rfl ?_) | refine XL.set rfl rfl rfl (op_moveP rfl ?_) | refine XL.set rfl rfl rfl (op_moveStr rfl ?_) | refine XL.set rfl rfl rfl (op_moveA rfl ?_) | refine XL.set rfl rfl rfl (op_moveT rfl ?_) | refine XL.set rfl rfl rfl (op_moveF rfl ?_) | refine XL.set rfl rfl rfl (op_assignI rfl ?_) | refine XL.set rfl rfl rfl (op_assignS rfl ?_) | refine XL.set rfl rfl rfl (op_assignB rfl ?_) | refine XL.set rfl rfl rfl (op_assignP rfl ?_) | refine XL.set rfl rfl rfl (op_assignStr rfl ?_) | refine XL.set rfl rfl rfl (op_assignA rfl ?_) | refine XL.set rfl rfl rfl (op_assignF rfl ?_) | refine XL.set rfl rfl rfl (op_move (v := v) rfl ?_) | refine XL.set rfl rfl rfl (op_call rfl rfl ((allF_c v b _ (hr.ext hx4)).wf_post.mono ?_)) | refine XL.set rfl rfl rfl (op_add64 rfl rfl (by omega) ?_) | refine XL.set rfl rfl rfl (op_sub64 rfl rfl (by omega) ?_) | refine XL.set rfl rfl rfl (op_quo64 rfl rfl (by omega) ?_) | refine XL.set rfl rfl rfl (op_rem64 rfl rfl (by omega) ?_) | refine XL.set rfl rfl rfl (op_mul64 rfl rfl (by omega) ?_) | refine XL.set rfl rfl rfl (op_int rfl rfl rfl ?_) | refine XL.set rfl rfl rfl (op_conv64 rfl (by omega) ?_) | refine XL.set rfl rfl rfl (op_convI rfl ?_) | refine XL.set rfl rfl rfl (op_not rfl ?_) | refine XL.set rfl rfl rfl (op_lenS rfl ?_) | refine XL.set rfl rfl rfl (op_lenStr rfl ?_) | refine XWp.condT rfl ?_ | refine XWp.condF rfl ?_ | refine XL.skip rfl rfl ?_ | refine XL.nil ?_ | refine XWp.ret ?_ | refine XWp.exit ?_ | refine XWp.block ?_ | refine XWp.skip ?_ | refine XWp.label ?_ | refine XWp.scope ?_)
  rintro _ G3 ⟨⟨rfl, hx5, hbox⟩, wf5, hn5⟩
  rw [hn4] at hbox ⊢
  have hc0 : Cnt h v b h.next (h.next + 1) (h.next + 2) [] G3 := ⟨hx4.trans hx5, hx5 _ _ k1, hx5 _ _ k2, hbox⟩
  clear k1 k2 hx4 hx5 hbox wf4
  repeat (first | refine XWp.seq ?_ | refine XWp.region ?_ | refine XL.set rfl rfl rfl (op_moveI rfl ?_) | refine XL.set rfl rfl rfl (op_moveS rfl ?_) | refine XL.set rfl rfl rfl (op_moveB rfl ?_) | refine XL.set rfl rfl rfl (op_moveP rfl ?_) | refine XL.set rfl rfl rfl (op_moveStr rfl ?_) | refine XL.set rfl rfl rfl (op_moveA rfl ?_) | refine XL.set rfl rfl rfl (op_moveT rfl ?_) | refine XL.set rfl rfl rfl (op_moveF rfl ?_) | refine XL.set rfl rfl rfl (op_assignI rfl ?_) | refine XL.set rfl rfl rfl (op_assignS rfl ?_) | refine XL.set rfl rfl rfl (op_assignB rfl ?_) | refine XL.set rfl rfl rfl (op_assignP rfl ?_) | refine XL.set rfl rfl rfl (op_assignStr rfl ?_) | refine XL.set rfl rfl rfl (op_assignA rfl ?_) | refine XL.set rfl rfl rfl (op_assignF rfl ?_) | refine XL.set rfl rfl rfl (op_add64 rfl rfl (by omega) ?_) | refine XL.set rfl rfl rfl (op_sub64 rfl rfl (by omega) ?_) | refine XL.set rfl rfl rfl (op_quo64 rfl rfl (by omega) ?_) | refine XL.set rfl rfl rfl (op_rem64 rfl rfl (by omega) ?_) | refine XL.set rfl rfl rfl (op_mul64 rfl rfl (by omega) ?_) | refine XL.set rfl rfl rfl (op_int rfl rfl rfl ?_) | refine XL.set rfl rfl rfl (op_conv64 rfl (by omega) ?_) | refine XL.set rfl rfl rfl (op_convI rfl ?_) | refine XL.set rfl rfl rfl (op_not rfl ?_) | refine XL.set rfl rfl rfl (op_lenS rfl ?_) | refine XL.set rfl rfl rfl (op_lenStr rfl ?_) | refine XWp.condT rfl ?_ | refine XWp.condF rfl ?_ | refine XL.skip rfl rfl ?_ | refine XL.nil ?_ | refine XWp.ret ?_ | refine XWp.exit ?_ | refine XWp.block ?_ | refine XWp.skip ?_ | refine XWp.label ?_ | refine XWp.scope ?_)
  refine XWp.rangeFunc (ι := FI) (fi := []) (ca := [.pointer (some ⟨h.next + 2, 0, none⟩)]) (PreF b (Cnt h v b h.next (h.next + 1) (h.next + 2))) (TF b (Cnt h v b h.next (h.next + 1) (h.next + 2))) (fun _ _ _ => False) (fun H => Cnt h v b h.next (h.next + 1) (h.next + 2) (fr b 0) H) (fun _ _ => False)
    rfl (fun k e => e) (fun _ _ l => l) rfl ?_ ?_ ?_ ?_ ?_
  · rintro i H args ⟨pv, rfl, _⟩; rfl
  · intro C1 l hq ys
    exact all1_x C1 hq l (h.next + 2) v b G3 hbl _ _ (fun i H hY => ⟨hY.box, hr.ext hY.ext⟩) (fun i H H' hY hx _ => hY.grow hx) ys hc0
  · rintro Ca Cb l ⟨done, k, n⟩ H args ⟨pv, rfl, hc, hf, hpv, hY⟩
    replace hc : Come b done k := hc
    replace hf : first (b.drop k) = some n := hf
    replace hpv : RB H pv (payload b k n) := hpv
    replace hY : Cnt h v b h.next (h.next + 1) (h.next + 2) done H := hY
    obtain ⟨_, f1, f2, f3, f4, f5⟩ := first_some hf
    have hroom := first_room hf
    have hpl := payload_length hroom
    have hsz : sizeI ((payload b k n).length : Int) = 8 + (n : Int) := by
      unfold sizeI
      rw [hpl, if_pos (by omega)]
    have cz := fun h' => size_c ((payload b k n).length : Int) h'
    rw [hsz] at cz
    show XWp Ca _ _ _ _ (setPs _ [.int .i64 (k : Nat), pv] _) H none
    refine XWp.wf fun wfH => ?_
    have hdl := hc.count
    have hkl := hc.le
    repeat (first | refine XWp.seq ?_ | refine XWp.region ?_ | refine XL.set rfl rfl rfl (op_moveI rfl ?_) | refine XL.set rfl rfl rfl (op_moveS rfl ?_) | refine XL.set rfl rfl rfl (op_moveB rfl ?_) | refine XL.set rfl rfl rfl (op_moveP rfl ?_) | refine XL.set rfl rfl rfl (op_moveStr rfl ?_) | refine XL.set rfl rfl rfl (op_moveA rfl ?_) | refine XL.set rfl rfl rfl (op_moveT rfl ?_) | refine XL.set rfl rfl rfl (op_moveF rfl ?_) | refine XL.set rfl rfl rfl (op_assignI rfl ?_) | refine XL.set rfl rfl rfl (op_assignS rfl ?_) | refine XL.set rfl rfl rfl (op_assignB rfl ?_) | refine XL.set rfl rfl rfl (op_assignP rfl ?_) | refine XL.set rfl rfl rfl (op_assignStr rfl ?_) | refine XL.set rfl rfl rfl (op_assignA rfl ?_) | refine XL.set rfl rfl rfl (op_assignF rfl ?_) | refine XL.set rfl rfl rfl (op_assign (v := pv) rfl ?_) | refine XL.set rfl rfl rfl (op_add64 rfl rfl (by omega) ?_) | refine XL.set rfl rfl rfl (op_sub64 rfl rfl (by omega) ?_) | refine XL.set rfl rfl rfl (op_quo64 rfl rfl (by omega) ?_) | refine XL.set rfl rfl rfl (op_rem64 rfl rfl (by omega) ?_) | refine XL.set rfl rfl rfl (op_mul64 rfl rfl (by omega) ?_) | refine XL.set rfl rfl rfl (op_int rfl rfl rfl ?_) | refine XL.set rfl rfl rfl (op_conv64 rfl (by omega) ?_) | refine XL.set rfl rfl rfl (op_convI rfl ?_) | refine XL.set rfl rfl rfl (op_not rfl ?_) | refine XL.set rfl rfl rfl (op_lenS rfl ?_) | refine XL.set rfl rfl rfl (op_lenStr rfl ?_) | refine XWp.condT rfl ?_ | refine XWp.condF rfl ?_ | refine XL.skip rfl rfl ?_ | refine XL.nil ?_ | refine XWp.ret ?_ | refine XWp.exit ?_ | refine XWp.block ?_ | refine XWp.skip ?_ | refine XWp.label ?_ | refine XWp.scope ?_)
    refine XWp.draw (σ := [(0, .R), (1, .R), (2, .P), (3, .P), (4, .P), (5, .R), (6, .P), (7, .W), (8, .W)]) mixed (by kernel_rfl) (by kernel_rfl) ?_
    obtain ⟨a, cc, hpv2⟩ := hpv.slice
    rw [bv_length] at hpv2
    subst hpv2
    repeat (first | refine XDAL.r rfl rfl rfl (fun h' hx hn => op_moveI rfl ⟨rfl, rfl⟩) ?_ | refine XDAL.r rfl rfl rfl (fun h' hx hn => op_moveS rfl ⟨rfl, rfl⟩) ?_ | refine XDAL.r rfl rfl rfl (fun h' hx hn => op_moveB rfl ⟨rfl, rfl⟩) ?_ | refine XDAL.r rfl rfl rfl (fun h' hx hn => op_moveP rfl ⟨rfl, rfl⟩) ?_ | refine XDAL.r rfl rfl rfl (fun h' hx hn => op_moveStr rfl ⟨rfl, rfl⟩) ?_ | refine XDAL.r rfl rfl rfl (fun h' hx hn => op_moveA rfl ⟨rfl, rfl⟩) ?_ | refine XDAL.r rfl rfl rfl (fun h' hx hn => op_moveT rfl ⟨rfl, rfl⟩) ?_ | refine XDAL.r rfl rfl rfl (fun h' hx hn => op_moveF rfl ⟨rfl, rfl⟩) ?_ | refine XDAL.r rfl rfl rfl (fun h' hx hn => op_assignI rfl ⟨rfl, rfl⟩) ?_ | refine XDAL.r rfl rfl rfl (fun h' hx hn => op_assignS rfl ⟨rfl, rfl⟩) ?_ | refine XDAL.r rfl rfl rfl (fun h' hx hn => op_assignB rfl ⟨rfl, rfl⟩) ?_ | refine XDAL.r rfl rfl rfl (fun h' hx hn => op_assignP rfl ⟨rfl, rfl⟩) ?_ | refine XDAL.r rfl rfl rfl (fun h' hx hn => op_assignStr rfl ⟨rfl, rfl⟩) ?_ | refine XDAL.r rfl rfl rfl (fun h' hx hn => op_assignA rfl ⟨rfl, rfl⟩) ?_ | refine XDAL.r rfl rfl rfl (fun h' hx hn => op_assignF rfl ⟨rfl, rfl⟩) ?_ | refine XDAL.r rfl rfl rfl (fun h' hx hn => op_load rfl rfl (hx _ _ hY.one) rfl ⟨rfl, rfl⟩) ?_ | refine XDAL.r rfl rfl rfl (fun h' hx hn => op_call rfl rfl (cz h')) ?_ | refine XDAL.r rfl rfl rfl (fun h' hx hn => op_add64 rfl rfl (by omega) ⟨rfl, rfl⟩) ?_ | refine XDAL.r rfl rfl rfl (fun h' hx hn => op_sub64 rfl rfl (by omega) ⟨rfl, rfl⟩) ?_ | refine XDAL.r rfl rfl rfl (fun h' hx hn => op_quo64 rfl rfl (by omega) ⟨rfl, rfl⟩) ?_ | refine XDAL.r rfl rfl rfl (fun h' hx hn => op_rem64 rfl rfl (by omega) ⟨rfl, rfl⟩) ?_ | refine XDAL.r rfl rfl rfl (fun h' hx hn => op_mul64 rfl rfl (by omega) ⟨rfl, rfl⟩) ?_ | refine XDAL.r rfl rfl rfl (fun h' hx hn => op_int rfl rfl rfl ⟨rfl, rfl⟩) ?_ | refine XDAL.r rfl rfl rfl (fun h' hx hn => op_conv64 rfl (by omega) ⟨rfl, rfl⟩) ?_ | refine XDAL.r rfl rfl rfl (fun h' hx hn => op_convI rfl ⟨rfl, rfl⟩) ?_ | refine XDAL.r rfl rfl rfl (fun h' hx hn => op_not rfl ⟨rfl, rfl⟩) ?_ | refine XDAL.r rfl rfl rfl (fun h' hx hn => op_lenS rfl ⟨rfl, rfl⟩) ?_ | refine XDAL.r rfl rfl rfl (fun h' hx hn => op_lenStr rfl ⟨rfl, rfl⟩) ?_ | refine XDAL.p rfl rfl rfl (fun _ => op_moveI rfl ⟨rfl, rfl⟩) ?_ | refine XDAL.p rfl rfl rfl (fun _ => op_moveS rfl ⟨rfl, rfl⟩) ?_ | refine XDAL.p rfl rfl rfl (fun _ => op_moveB rfl ⟨rfl, rfl⟩) ?_ | refine XDAL.p rfl rfl rfl (fun _ => op_moveP rfl ⟨rfl, rfl⟩) ?_ | refine XDAL.p rfl rfl rfl (fun _ => op_moveStr rfl ⟨rfl, rfl⟩) ?_ | refine XDAL.p rfl rfl rfl (fun _ => op_moveA rfl ⟨rfl, rfl⟩) ?_ | refine XDAL.p rfl rfl rfl (fun _ => op_moveT rfl ⟨rfl, rfl⟩) ?_ | refine XDAL.p rfl rfl rfl (fun _ => op_moveF rfl ⟨rfl, rfl⟩) ?_ | refine XDAL.p rfl rfl rfl (fun _ => op_assignI rfl ⟨rfl, rfl⟩) ?_ | refine XDAL.p rfl rfl rfl (fun _ => op_assignS rfl ⟨rfl, rfl⟩) ?_ | refine XDAL.p rfl rfl rfl (fun _ => op_assignB rfl ⟨rfl, rfl⟩) ?_ | refine XDAL.p rfl rfl rfl (fun _ => op_assignP rfl ⟨rfl, rfl⟩) ?_ | refine XDAL.p rfl rfl rfl (fun _ => op_assignStr rfl ⟨rfl, rfl⟩) ?_ | refine XDAL.p rfl rfl rfl (fun _ => op_assignA rfl ⟨rfl, rfl⟩) ?_ | refine XDAL.p rfl rfl rfl (fun _ => op_assignF rfl ⟨rfl, rfl⟩) ?_ | refine XDAL.p rfl rfl rfl (fun _ => op_add64 rfl rfl (by omega) ⟨rfl, rfl⟩) ?_ | refine XDAL.p rfl rfl rfl (fun _ => op_sub64 rfl rfl (by omega) ⟨rfl, rfl⟩) ?_ | refine XDAL.p rfl rfl rfl (fun _ => op_quo64 rfl rfl (by omega) ⟨rfl, rfl⟩) ?_ | refine XDAL.p rfl rfl rfl (fun _ => op_rem64 rfl rfl (by omega) ⟨rfl, rfl⟩) ?_ | refine XDAL.p rfl rfl rfl (fun _ => op_mul64 rfl rfl (by omega) ⟨rfl, rfl⟩) ?_ | refine XDAL.p rfl rfl rfl (fun _ => op_int rfl rfl rfl ⟨rfl, rfl⟩) ?_ | refine XDAL.p rfl rfl rfl (fun _ => op_conv64 rfl (by omega) ⟨rfl, rfl⟩) ?_ | refine XDAL.p rfl rfl rfl (fun _ => op_convI rfl ⟨rfl, rfl⟩) ?_ | refine XDAL.p rfl rfl rfl (fun _ => op_not rfl ⟨rfl, rfl⟩) ?_ | refine XDAL.p rfl rfl rfl (fun _ => op_lenS rfl ⟨rfl, rfl⟩) ?_ | refine XDAL.p rfl rfl rfl (fun _ => op_lenStr rfl ⟨rfl, rfl⟩) ?_ | refine XDAL.skip rfl rfl rfl ?_)
    have hij : h.next ≠ h.next + 1 := by omega
    refine XDAL.w0 rfl rfl (op_store (v := .int .i64 ((done.length : Int) + 1)) rfl rfl rfl hY.one rfl Nat.zero_lt_one ?_)
    have hs1 : H.set h.next ⟨[.int .i64 ((done.length : Int) + 1)], 3, true⟩ = H.set h.next (cellI (done.length + 1)) := by
      rw [show (done.length : Int) + 1 = ((done.length + 1 : Nat) : Int) from by omega]
    refine XDAL.heap hs1 ?_
    have e1 : (H.set h.next (cellI (done.length + 1))).get (h.next + 1) = some (cellI (endF 0 done)) := by rw [Heap.set_other (by omega)]; exact hY.two
    refine XDAL.w0 rfl rfl (op_store (v := .int .i64 ((k : Int) + (8 + (n : Int)))) rfl rfl rfl e1 rfl Nat.zero_lt_one ?_)
    have hs2 : (H.set h.next (cellI (done.length + 1))).set (h.next + 1) ⟨[.int .i64 ((k : Int) + (8 + (n : Int)))], 3, true⟩ = (H.set h.next (cellI (done.length + 1))).set (h.next + 1) (cellI (k + 8 + n)) := by
      rw [show (k : Int) + (8 + (n : Int)) = ((k + 8 + n : Nat) : Int) from by omega]
    refine XDAL.heap hs2 ?_
    refine XDAL.nil ?_
    have hxa : Ext h (H.set h.next (cellI (done.length + 1))) := wf.ext_set hY.ext (Nat.le_refl _) _
    refine ⟨wf.ext_set hxa (by omega) _, ?_, ?_, ?_⟩
    · show ((H.set h.next _).set (h.next + 1) _).get h.next = _
      rw [Heap.set_other (by omega), Heap.set_at, List.length_append]
      rfl
    · show ((H.set h.next _).set (h.next + 1) _).get (h.next + 1) = some (cellI (endF 0 (done ++ [(k, payload b k n)])))
      rw [Heap.set_at, endF_append, hpl]
    · show ((H.set h.next _).set (h.next + 1) _).get (h.next + 2) = _
      rw [Heap.set_other (by omega), Heap.set_other (by omega)]
      exact hY.box
  · intro H _ hE
    replace hE : Cnt h v b h.next (h.next + 1) (h.next + 2) (fr b 0) H := hE
    repeat (first | refine XWp.seq ?_ | refine XWp.region ?_ | refine XL.set rfl rfl rfl (op_moveI rfl ?_) | refine XL.set rfl rfl rfl (op_moveS rfl ?_) | refine XL.set rfl rfl rfl (op_moveB rfl ?_) | refine XL.set rfl rfl rfl (op_moveP rfl ?_) | refine XL.set rfl rfl rfl (op_moveStr rfl ?_) | refine XL.set rfl rfl rfl (op_moveA rfl ?_) | refine XL.set rfl rfl rfl (op_moveT rfl ?_) | refine XL.set rfl rfl rfl (op_moveF rfl ?_) | refine XL.set rfl rfl rfl (op_assignI rfl ?_) | refine XL.set rfl rfl rfl (op_assignS rfl ?_) | refine XL.set rfl rfl rfl (op_assignB rfl ?_) | refine XL.set rfl rfl rfl (op_assignP rfl ?_) | refine XL.set rfl rfl rfl (op_assignStr rfl ?_) | refine XL.set rfl rfl rfl (op_assignA rfl ?_) | refine XL.set rfl rfl rfl (op_assignF rfl ?_) | refine XL.set rfl rfl rfl (op_add64 rfl rfl (by omega) ?_) | refine XL.set rfl rfl rfl (op_sub64 rfl rfl (by omega) ?_) | refine XL.set rfl rfl rfl (op_quo64 rfl rfl (by omega) ?_) | refine XL.set rfl rfl rfl (op_rem64 rfl rfl (by omega) ?_) | refine XL.set rfl rfl rfl (op_mul64 rfl rfl (by omega) ?_) | refine XL.set rfl rfl rfl (op_int rfl rfl rfl ?_) | refine XL.set rfl rfl rfl (op_conv64 rfl (by omega) ?_) | refine XL.set rfl rfl rfl (op_convI rfl ?_) | refine XL.set rfl rfl rfl (op_not rfl ?_) | refine XL.set rfl rfl rfl (op_lenS rfl ?_) | refine XL.set rfl rfl rfl (op_lenStr rfl ?_) | refine XWp.condT rfl ?_ | refine XWp.condF rfl ?_ | refine XL.skip rfl rfl ?_ | refine XL.nil ?_ | refine XWp.ret ?_ | refine XWp.exit ?_ | refine XWp.block ?_ | refine XWp.skip ?_ | refine XWp.label ?_ | refine XWp.scope ?_)
    refine XWp.draw (σ := [(0, .R), (1, .R), (2, .P), (3, .P)]) mixed (by kernel_rfl) (by kernel_rfl) ?_
    repeat (first | refine XDAL.r rfl rfl rfl (fun h' hx hn => op_moveI rfl ⟨rfl, rfl⟩) ?_ | refine XDAL.r rfl rfl rfl (fun h' hx hn => op_moveS rfl ⟨rfl, rfl⟩) ?_ | refine XDAL.r rfl rfl rfl (fun h' hx hn => op_moveB rfl ⟨rfl, rfl⟩) ?_ | refine XDAL.r rfl rfl rfl (fun h' hx hn => op_moveP rfl ⟨rfl, rfl⟩) ?_ | refine XDAL.r rfl rfl rfl (fun h' hx hn => op_moveStr rfl ⟨rfl, rfl⟩) ?_ | refine XDAL.r rfl rfl rfl (fun h' hx hn => op_moveA rfl ⟨rfl, rfl⟩) ?_ | refine XDAL.r rfl rfl rfl (fun h' hx hn => op_moveT rfl ⟨rfl, rfl⟩) ?_ | refine XDAL.r rfl rfl rfl (fun h' hx hn => op_moveF rfl ⟨rfl, rfl⟩) ?_ | refine XDAL.r rfl rfl rfl (fun h' hx hn => op_assignI rfl ⟨rfl, rfl⟩) ?_ | refine XDAL.r rfl rfl rfl (fun h' hx hn => op_assignS rfl ⟨rfl, rfl⟩) ?_ | refine XDAL.r rfl rfl rfl (fun h' hx hn => op_assignB rfl ⟨rfl, rfl⟩) ?_ | refine XDAL.r rfl rfl rfl (fun h' hx hn => op_assignP rfl ⟨rfl, rfl⟩) ?_ | refine XDAL.r rfl rfl rfl (fun h' hx hn => op_assignStr rfl ⟨rfl, rfl⟩) ?_ | refine XDAL.r rfl rfl rfl (fun h' hx hn => op_assignA rfl ⟨rfl, rfl⟩) ?_ | refine XDAL.r rfl rfl rfl (fun h' hx hn => op_assignF rfl ⟨rfl, rfl⟩) ?_ | refine XDAL.r rfl rfl rfl (fun h' hx hn => op_load rfl rfl (hx _ _ hE.one) rfl ⟨rfl, rfl⟩) ?_ | refine XDAL.r rfl rfl rfl (fun h' hx hn => op_load rfl rfl (hx _ _ hE.two) rfl ⟨rfl, rfl⟩) ?_ | refine XDAL.r rfl rfl rfl (fun h' hx hn => op_add64 rfl rfl (by omega) ⟨rfl, rfl⟩) ?_ | refine XDAL.r rfl rfl rfl (fun h' hx hn => op_sub64 rfl rfl (by omega) ⟨rfl, rfl⟩) ?_ | refine XDAL.r rfl rfl rfl (fun h' hx hn => op_quo64 rfl rfl (by omega) ⟨rfl, rfl⟩) ?_ | refine XDAL.r rfl rfl rfl (fun h' hx hn => op_rem64 rfl rfl (by omega) ⟨rfl, rfl⟩) ?_ | refine XDAL.r rfl rfl rfl (fun h' hx hn => op_mul64 rfl rfl (by omega) ⟨rfl, rfl⟩) ?_ | refine XDAL.r rfl rfl rfl (fun h' hx hn => op_int rfl rfl rfl ⟨rfl, rfl⟩) ?_ | refine XDAL.r rfl rfl rfl (fun h' hx hn => op_conv64 rfl (by omega) ⟨rfl, rfl⟩) ?_ | refine XDAL.r rfl rfl rfl (fun h' hx hn => op_convI rfl ⟨rfl, rfl⟩) ?_ | refine XDAL.r rfl rfl rfl (fun h' hx hn => op_not rfl ⟨rfl, rfl⟩) ?_ | refine XDAL.r rfl rfl rfl (fun h' hx hn => op_lenS rfl ⟨rfl, rfl⟩) ?_ | refine XDAL.r rfl rfl rfl (fun h' hx hn => op_lenStr rfl ⟨rfl, rfl⟩) ?_ | refine XDAL.p rfl rfl rfl (fun _ => op_moveI rfl ⟨rfl, rfl⟩) ?_ | refine XDAL.p rfl rfl rfl (fun _ => op_moveS rfl ⟨rfl, rfl⟩) ?_ | refine XDAL.p rfl rfl rfl (fun _ => op_moveB rfl ⟨rfl, rfl⟩) ?_ | refine XDAL.p rfl rfl rfl (fun _ => op_moveP rfl ⟨rfl, rfl⟩) ?_ | refine XDAL.p rfl rfl rfl (fun _ => op_moveStr rfl ⟨rfl, rfl⟩) ?_ | refine XDAL.p rfl rfl rfl (fun _ => op_moveA rfl ⟨rfl, rfl⟩) ?_ | refine XDAL.p rfl rfl rfl (fun _ => op_moveT rfl ⟨rfl, rfl⟩) ?_ | refine XDAL.p rfl rfl rfl (fun _ => op_moveF rfl ⟨rfl, rfl⟩) ?_ | refine XDAL.p rfl rfl rfl (fun _ => op_assignI rfl ⟨rfl, rfl⟩) ?_ | refine XDAL.p rfl rfl rfl (fun _ => op_assignS rfl ⟨rfl, rfl⟩) ?_ | refine XDAL.p rfl rfl rfl (fun _ => op_assignB rfl ⟨rfl, rfl⟩) ?_ | refine XDAL.p rfl rfl rfl (fun _ => op_assignP rfl ⟨rfl, rfl⟩) ?_ | refine XDAL.p rfl rfl rfl (fun _ => op_assignStr rfl ⟨rfl, rfl⟩) ?_ | refine XDAL.p rfl rfl rfl (fun _ => op_assignA rfl ⟨rfl, rfl⟩) ?_ | refine XDAL.p rfl rfl rfl (fun _ => op_assignF rfl ⟨rfl, rfl⟩) ?_ | refine XDAL.p rfl rfl rfl (fun _ => op_add64 rfl rfl (by omega) ⟨rfl, rfl⟩) ?_ | refine XDAL.p rfl rfl rfl (fun _ => op_sub64 rfl rfl (by omega) ⟨rfl, rfl⟩) ?_ | refine XDAL.p rfl rfl rfl (fun _ => op_quo64 rfl rfl (by omega) ⟨rfl, rfl⟩) ?_ | refine XDAL.p rfl rfl rfl (fun _ => op_rem64 rfl rfl (by omega) ⟨rfl, rfl⟩) ?_ | refine XDAL.p rfl rfl rfl (fun _ => op_mul64 rfl rfl (by omega) ⟨rfl, rfl⟩) ?_ | refine XDAL.p rfl rfl rfl (fun _ => op_int rfl rfl rfl ⟨rfl, rfl⟩) ?_ | refine XDAL.p rfl rfl rfl (fun _ => op_conv64 rfl (by omega) ⟨rfl, rfl⟩) ?_ | refine XDAL.p rfl rfl rfl (fun _ => op_convI rfl ⟨rfl, rfl⟩) ?_ | refine XDAL.p rfl rfl rfl (fun _ => op_not rfl ⟨rfl, rfl⟩) ?_ | refine XDAL.p rfl rfl rfl (fun _ => op_lenS rfl ⟨rfl, rfl⟩) ?_ | refine XDAL.p rfl rfl rfl (fun _ => op_lenStr rfl ⟨rfl, rfl⟩) ?_ | refine XDAL.skip rfl rfl rfl ?_)
    refine XDAL.nil ?_
    repeat (first | refine XWp.seq ?_ | refine XWp.region ?_ | refine XL.set rfl rfl rfl (op_moveI rfl ?_) | refine XL.set rfl rfl rfl (op_moveS rfl ?_) | refine XL.set rfl rfl rfl (op_moveB rfl ?_) | refine XL.set rfl rfl rfl (op_moveP rfl ?_) | refine XL.set rfl rfl rfl (op_moveStr rfl ?_) | refine XL.set rfl rfl rfl (op_moveA rfl ?_) | refine XL.set rfl rfl rfl (op_moveT rfl ?_) | refine XL.set rfl rfl rfl (op_moveF rfl ?_) | refine XL.set rfl rfl rfl (op_assignI rfl ?_) | refine XL.set rfl rfl rfl (op_assignS rfl ?_) | refine XL.set rfl rfl rfl (op_assignB rfl ?_) | refine XL.set rfl rfl rfl (op_assignP rfl ?_) | refine XL.set rfl rfl rfl (op_assignStr rfl ?_) | refine XL.set rfl rfl rfl (op_assignA rfl ?_) | refine XL.set rfl rfl rfl (op_assignF rfl ?_) | refine XL.set rfl rfl rfl (op_add64 rfl rfl (by omega) ?_) | refine XL.set rfl rfl rfl (op_sub64 rfl rfl (by omega) ?_) | refine XL.set rfl rfl rfl (op_quo64 rfl rfl (by omega) ?_) | refine XL.set rfl rfl rfl (op_rem64 rfl rfl (by omega) ?_) | refine XL.set rfl rfl rfl (op_mul64 rfl rfl (by omega) ?_) | refine XL.set rfl rfl rfl (op_int rfl rfl rfl ?_) | refine XL.set rfl rfl rfl (op_conv64 rfl (by omega) ?_) | refine XL.set rfl rfl rfl (op_convI rfl ?_) | refine XL.set rfl rfl rfl (op_not rfl ?_) | refine XL.set rfl rfl rfl (op_lenS rfl ?_) | refine XL.set rfl rfl rfl (op_lenStr rfl ?_) | refine XWp.condT rfl ?_ | refine XWp.condF rfl ?_ | refine XL.skip rfl rfl ?_ | refine XL.nil ?_ | refine XWp.ret ?_ | refine XWp.exit ?_ | refine XWp.block ?_ | refine XWp.skip ?_ | refine XWp.label ?_ | refine XWp.scope ?_)
    refine ⟨_, ResV.tmp2 rfl, Bdd.pair (Bdd.plain rfl) (Bdd.plain rfl) rfl rfl, hE.ext, rfl, rfl⟩
  · intro h' j _ e; exact e.elim
end Go.Proofs.Ytnioldkmckmajaa.Fr
/-
  Frames, in plain words: where they end, one frame, a payload's frame.
-/
namespace Go.Frm
open Go Go.Eng Go.Crc
theorem come_end (b : List UInt8) : ∀ (m : Nat) (k : Nat) (done : List (Nat × List UInt8)), b.length - k ≤ m → Come b done k → ∃ k', Come b (fr b 0) k' ∧ first (b.drop k') = none
  | m, k, done, hm, c => by
    cases hf : first (b.drop k) with
    | none =>
      obtain ⟨e, _⟩ := c.stop hf
      exact ⟨k, e ▸ c, hf⟩
    | some n =>
      have := first_room hf
      match m with
      | 0 => have := c.le; omega
      | m + 1 => exact come_end b m (k + 8 + n) _ (by omega) (c.next hf)
theorem come_all (b : List UInt8) : Come b (fr b 0) (endW b) ∧ first (b.drop (endW b)) = none := by
  obtain ⟨k, c, h⟩ := come_end b b.length 0 [] (by omega) (Come.start b)
  have := c.at_
  rw [show endF 0 (fr b 0) = endW b from rfl] at this
  subst this
  exact ⟨c, h⟩
theorem endW_le (b : List UInt8) : endW b ≤ b.length := (come_all b).1.le
def oneF (b : List UInt8) : Option (List UInt8) :=
  match first b with
  | some n => if 8 + n = b.length then some (payload b 0 n) else none
  | none => none
def frameB (p : List UInt8) : List UInt8 := wordB (BitVec.ofNat 32 p.length) ++ wordB (sum (wordB (BitVec.ofNat 32 p.length) ++ p)) ++ p
def putE (p : List UInt8) : Int := if p.length = 0 then 2 else if 1048576 < p.length then 3 else 0
def putB (p : List UInt8) : List UInt8 := if p.length = 0 then [] else if 1048576 < p.length then [] else frameB p
theorem frameB_length (p : List UInt8) : (frameB p).length = 8 + p.length := by
  simp only [frameB, List.length_append, wordB_length]
theorem odd_short {b : List UInt8} (h : (b.drop (endW b)).length < 8) : odd b = false := if_pos h
theorem odd_long {b : List UInt8} (h : ¬ (b.drop (endW b)).length < 8) : odd b = (!mayN (be (b.drop (endW b))) || decide (8 + be (b.drop (endW b)) ≤ (b.drop (endW b)).length)) := if_neg h
end Go.Frm
