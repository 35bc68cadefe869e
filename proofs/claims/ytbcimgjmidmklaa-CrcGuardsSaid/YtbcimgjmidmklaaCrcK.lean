/-
  A text with some bits of it turned over.
-/
import Derived.Test.YtbcimgjmidmklaaCrcI
import Derived.Test.YtbcimgjmidmklaaEngN
import Derived.Test.YtbcimgjmidmklaaCrcGuard
namespace Go.Proofs.Ytbcimgjmidmklaa
open Go Go.Eng Go.Crc

instance : TyD Try.prog 38 (.int .u64) := ⟨Try.underlying38⟩
instance : TyD Try.prog 36 (.slice 3) := ⟨Try.underlying36⟩
instance : FnC Try.prog 18 := ⟨Try.f18, Try.func18, by kernel_rfl, by kernel_rfl⟩

/-- A place, modulo. -/
def pos (m : Nat) (z : Int) : Nat := if z.tmod m < 0 then (z.tmod m + m).toNat else (z.tmod m).toNat
theorem tmod_bounds (z : Int) (m : Nat) (hm : 0 < m) : -(m : Int) < z.tmod m ∧ z.tmod m < m := by
  rcases Int.le_total 0 z with h | h
  · rw [Int.tmod_eq_emod_of_nonneg h]
    have := Int.emod_nonneg z (show (m : Int) ≠ 0 by omega)
    have := Int.emod_lt_of_pos z (show (0 : Int) < m by omega)
    omega
  · have e : z.tmod m = -((-z) % (m : Int)) := by
      rw [← Int.tmod_eq_emod_of_nonneg (show 0 ≤ -z by omega), Int.neg_tmod, Int.neg_neg]
    rw [e]
    have := Int.emod_nonneg (-z) (show (m : Int) ≠ 0 by omega)
    have := Int.emod_lt_of_pos (-z) (show (0 : Int) < m by omega)
    omega
theorem pos_lt (m : Nat) (z : Int) (hm : 0 < m) : pos m z < m := by
  have := tmod_bounds z m hm
  unfold pos
  split <;> omega
section
variable {ρ : Operand → Value} {h : Heap} {K : Value → Heap → Prop} {dst : Option Tmp} {ty : TypeId} {pos : String} {aft : Array Edge} {g : Option (Nat × Bool)} {t t' : TypeId} {x y : Operand}
theorem op_tmod {P : Program} {a b : Int} (hx : ρ x = .int .i64 a) (hy : ρ y = .int .i64 b) (hr : 0 < b) (kk : K (.int .i64 (a.tmod b)) h) : AOp P ⟨dst, .binOp .rem t x y t', ty, pos, aft, g⟩ ρ h K :=
  op_int hx hy (v := .int .i64 (a.tmod b)) (by simp only [binI, if_true]; rw [if_neg (by omega)]) kk
theorem op_convU {P : Program} {s d : TypeId} {k ks : IntKind} {a : Int} [ts : TyD P s (.int ks)] [td : TyD P d (.int .u64)] (hx : ρ x = .int k a) (hr : 0 ≤ a ∧ a ≤ 18446744073709551615) (kk : K (.int .u64 a) h) :
    AOp P ⟨dst, .convert s d x, ty, pos, aft, g⟩ ρ h K :=
  op_convI hx (by rw [show IntKind.u64.wrap a = a from by rw [IntKind.wrap_u64]; omega]; exact kk)
theorem op_shl8 {P : Program} {k : IntKind} {c : Int} (n : Nat) (hc : c = (n : Int)) (hn : n < 8) (hx : ρ x = .int .u8 1) (hy : ρ y = .int k c) (kk : K (.int .u8 ((UInt8.ofNat (1 <<< n)).toNat : Int)) h) : AOp P ⟨dst, .binOp .shl t x y t', ty, pos, aft, g⟩ ρ h K := by
  subst hc
  refine op_int hx hy (v := .int .u8 ((UInt8.ofNat (1 <<< n)).toNat : Int)) ?_ kk
  match n, hn with
  | 0, _ | 1, _ | 2, _ | 3, _ | 4, _ | 5, _ | 6, _ | 7, _ => rfl
end

/-- The places of some numbers. -/
def poss (m : Nat) (zs : List Int) : List Nat := zs.map (pos m)

theorem pos_neg {m : Nat} {z : Int} (hm : 0 < m) (h : z.tmod m < 0) : ((Go.Proofs.Ytbcimgjmidmklaa.pos m z : Nat) : Int) = z.tmod m + m := by
  have := tmod_bounds z m hm
  unfold Go.Proofs.Ytbcimgjmidmklaa.pos
  rw [if_pos h]; omega
theorem pos_pos {m : Nat} {z : Int} (h : ¬ z.tmod m < 0) : ((Go.Proofs.Ytbcimgjmidmklaa.pos m z : Nat) : Int) = z.tmod m := by
  unfold Go.Proofs.Ytbcimgjmidmklaa.pos
  rw [if_neg h]; omega
theorem flips_next (b : List UInt8) (m : Nat) (zs : List Int) (k : Nat) (z : Int) (hz : zs[k]? = some z) : flips b (poss m (zs.take (k + 1))) = flip (flips b (poss m (zs.take k))) (Go.Proofs.Ytbcimgjmidmklaa.pos m z) := by
  rw [List.take_add_one, hz]
  simp [poss, flips]

set_option maxHeartbeats 2000000 in
theorem turned_c (v av : Value) (b : List UInt8) (zs : List Int) (h : Heap) (hr : RB h v b) (ha : RS h av (iv .i64 zs)) (hb0 : 0 < b.length) (hb : b.length ≤ 9000) (hz : zs.length ≤ 9223372036854775807)
    (hzs : ∀ z ∈ zs, -9223372036854775808 ≤ z ∧ z ≤ 9223372036854775807) :
    ACalls Try.prog 18 [v, av] h fun u h' => RB h' u (flips b (poss (8 * b.length) zs)) ∧ Ext h h' := by
  refine ACalls.wf fun wf => ?_
  refine ACalls.body Try.func18 rfl rfl ?_
  repeat (first | refine AWp.seq ?_ | refine AWp.region ?_ | refine AL.set rfl rfl (op_moveI rfl ?_) | refine AL.set rfl rfl (op_moveS rfl ?_) | refine AL.set rfl rfl (op_moveB rfl ?_) | refine AL.set rfl rfl (op_moveP rfl ?_) | refine AL.set rfl rfl (op_moveStr rfl ?_) | refine AL.set rfl rfl (op_moveA rfl ?_) | refine AL.set rfl rfl (op_moveT rfl ?_) | refine AL.set rfl rfl (op_moveF rfl ?_) | refine AL.set rfl rfl (op_assignI rfl ?_) | refine AL.set rfl rfl (op_assignS rfl ?_) | refine AL.set rfl rfl (op_assignB rfl ?_) | refine AL.set rfl rfl (op_assignP rfl ?_) | refine AL.set rfl rfl (op_assignStr rfl ?_) | refine AL.set rfl rfl (op_assignA rfl ?_) | refine AL.set rfl rfl (op_assignF rfl ?_) | refine AL.set rfl rfl (op_move (v := v) rfl ?_) | refine AL.set rfl rfl (op_add64 rfl rfl (by omega) ?_) | refine AL.set rfl rfl (op_sub64 rfl rfl (by omega) ?_) | refine AL.set rfl rfl (op_quo64 rfl rfl (by omega) ?_) | refine AL.set rfl rfl (op_rem64 rfl rfl (by omega) ?_) | refine AL.set rfl rfl (op_mul64 rfl rfl (by omega) ?_) | refine AL.set rfl rfl (op_int rfl rfl rfl ?_) | refine AL.set rfl rfl (op_conv64 rfl (by omega) ?_) | refine AL.set rfl rfl (op_convI rfl ?_) | refine AL.set rfl rfl (op_not rfl ?_) | refine AL.set rfl rfl (op_lenS rfl ?_) | refine AL.set rfl rfl (op_lenStr rfl ?_) | refine AWp.condT rfl ?_ | refine AWp.condF rfl ?_ | refine AL.skip rfl rfl ?_ | refine AL.nil ?_ | refine AWp.ret ?_ | refine AWp.exit ?_ | refine AWp.block ?_ | refine AWp.skip ?_)
  refine AL.set rfl rfl (op_appendO (e := 5) (B := h.next) rfl wf (Nat.le_refl _) (OS.nil _ _ _) rfl rfl hr.src (bv_length _) (List.all_eq_true.2 (bv_ones _)) (by simp [maxLen]; omega) (by simp; omega) ?_)
  intro u0 G ho hk wfG hnG
  have hxG : Ext h G := hk.ext (OS.nil h.next h 5) wf (Nat.le_refl _) (Ext.refl _)
  simp only [List.nil_append] at ho
  rcases ho with ⟨rfl, hnil⟩ | ⟨i, c, hi, rfl, hg⟩
  · have := congrArg List.length hnil
    rw [bv_length, List.length_nil] at this
    omega
  rw [bv_length]
  repeat (first | refine AWp.seq ?_ | refine AWp.region ?_ | refine AL.set rfl rfl (op_moveI rfl ?_) | refine AL.set rfl rfl (op_moveS rfl ?_) | refine AL.set rfl rfl (op_moveB rfl ?_) | refine AL.set rfl rfl (op_moveP rfl ?_) | refine AL.set rfl rfl (op_moveStr rfl ?_) | refine AL.set rfl rfl (op_moveA rfl ?_) | refine AL.set rfl rfl (op_moveT rfl ?_) | refine AL.set rfl rfl (op_moveF rfl ?_) | refine AL.set rfl rfl (op_assignI rfl ?_) | refine AL.set rfl rfl (op_assignS rfl ?_) | refine AL.set rfl rfl (op_assignB rfl ?_) | refine AL.set rfl rfl (op_assignP rfl ?_) | refine AL.set rfl rfl (op_assignStr rfl ?_) | refine AL.set rfl rfl (op_assignA rfl ?_) | refine AL.set rfl rfl (op_assignF rfl ?_) | refine AL.set rfl rfl (op_add64 rfl rfl (by omega) ?_) | refine AL.set rfl rfl (op_sub64 rfl rfl (by omega) ?_) | refine AL.set rfl rfl (op_quo64 rfl rfl (by omega) ?_) | refine AL.set rfl rfl (op_rem64 rfl rfl (by omega) ?_) | refine AL.set rfl rfl (op_mul64 rfl rfl (by omega) ?_) | refine AL.set rfl rfl (op_int rfl rfl rfl ?_) | refine AL.set rfl rfl (op_conv64 rfl (by omega) ?_) | refine AL.set rfl rfl (op_convI rfl ?_) | refine AL.set rfl rfl (op_not rfl ?_) | refine AL.set rfl rfl (op_lenS rfl ?_) | refine AL.set rfl rfl (op_lenStr rfl ?_) | refine AWp.condT rfl ?_ | refine AWp.condF rfl ?_ | refine AL.skip rfl rfl ?_ | refine AL.nil ?_ | refine AWp.ret ?_ | refine AWp.exit ?_ | refine AWp.block ?_ | refine AWp.skip ?_)
  refine AWp.loop (α := Nat × Heap) (fun x => [(0, v), (1, av), (5, .slice (some ⟨i, 0, some 1⟩) b.length c), (6, .int .i64 (x.1 : Nat))]) (fun x => x.2)
    (fun x => x.1 ≤ zs.length ∧ x.2.get i = some ⟨bv (flips b (poss (8 * b.length) (zs.take x.1))), 5, true⟩ ∧ Ext h x.2 ∧ WF x.2) (fun x => zs.length - x.1) (0, G) ⟨Nat.zero_le _, hg, hxG, wfG⟩
    (Weak.same (EW.cons rfl (EW.cons rfl (EW.cons rfl (EW.cons rfl EW.nil))))) ?_
  rintro ⟨k, H⟩ ⟨hk1, hg1, hx1, wf1⟩
  replace hk1 : k ≤ zs.length := hk1
  replace hg1 : H.get i = some ⟨bv (flips b (poss (8 * b.length) (zs.take k))), 5, true⟩ := hg1
  replace hx1 : Ext h H := hx1
  replace wf1 : WF H := wf1
  show AWp _ _ _ _ [(0, v), (1, av), (5, .slice (some ⟨i, 0, some 1⟩) b.length c), (6, .int .i64 (k : Nat))] H
  have hA := ha.ext hx1
  have hR := hr.ext hx1
  have hlen : (iv .i64 zs).length = zs.length := by simp [iv]
  have hfl := flips_length b (poss (8 * b.length) (zs.take k))
  repeat (first | refine AWp.seq ?_ | refine AWp.region ?_ | refine AL.set rfl rfl (op_moveI rfl ?_) | refine AL.set rfl rfl (op_moveS rfl ?_) | refine AL.set rfl rfl (op_moveB rfl ?_) | refine AL.set rfl rfl (op_moveP rfl ?_) | refine AL.set rfl rfl (op_moveStr rfl ?_) | refine AL.set rfl rfl (op_moveA rfl ?_) | refine AL.set rfl rfl (op_moveT rfl ?_) | refine AL.set rfl rfl (op_moveF rfl ?_) | refine AL.set rfl rfl (op_assignI rfl ?_) | refine AL.set rfl rfl (op_assignS rfl ?_) | refine AL.set rfl rfl (op_assignB rfl ?_) | refine AL.set rfl rfl (op_assignP rfl ?_) | refine AL.set rfl rfl (op_assignStr rfl ?_) | refine AL.set rfl rfl (op_assignA rfl ?_) | refine AL.set rfl rfl (op_assignF rfl ?_) | refine AL.set rfl rfl (op_move (v := av) rfl ?_) | refine AL.set rfl rfl (op_add64 rfl rfl (by omega) ?_) | refine AL.set rfl rfl (op_sub64 rfl rfl (by omega) ?_) | refine AL.set rfl rfl (op_quo64 rfl rfl (by omega) ?_) | refine AL.set rfl rfl (op_rem64 rfl rfl (by omega) ?_) | refine AL.set rfl rfl (op_mul64 rfl rfl (by omega) ?_) | refine AL.set rfl rfl (op_int rfl rfl rfl ?_) | refine AL.set rfl rfl (op_conv64 rfl (by omega) ?_) | refine AL.set rfl rfl (op_convI rfl ?_) | refine AL.set rfl rfl (op_not rfl ?_) | refine AL.set rfl rfl (op_lenS rfl ?_) | refine AL.set rfl rfl (op_lenStr rfl ?_) | refine AWp.condT rfl ?_ | refine AWp.condF rfl ?_ | refine AL.skip rfl rfl ?_ | refine AL.nil ?_ | refine AWp.ret ?_ | refine AWp.exit ?_ | refine AWp.block ?_ | refine AWp.skip ?_)
  refine AL.set rfl rfl (op_lenR hA rfl ?_)
  rw [hlen]
  repeat (first | refine AWp.seq ?_ | refine AWp.region ?_ | refine AL.set rfl rfl (op_moveI rfl ?_) | refine AL.set rfl rfl (op_moveS rfl ?_) | refine AL.set rfl rfl (op_moveB rfl ?_) | refine AL.set rfl rfl (op_moveP rfl ?_) | refine AL.set rfl rfl (op_moveStr rfl ?_) | refine AL.set rfl rfl (op_moveA rfl ?_) | refine AL.set rfl rfl (op_moveT rfl ?_) | refine AL.set rfl rfl (op_moveF rfl ?_) | refine AL.set rfl rfl (op_assignI rfl ?_) | refine AL.set rfl rfl (op_assignS rfl ?_) | refine AL.set rfl rfl (op_assignB rfl ?_) | refine AL.set rfl rfl (op_assignP rfl ?_) | refine AL.set rfl rfl (op_assignStr rfl ?_) | refine AL.set rfl rfl (op_assignA rfl ?_) | refine AL.set rfl rfl (op_assignF rfl ?_) | refine AL.set rfl rfl (op_add64 rfl rfl (by omega) ?_) | refine AL.set rfl rfl (op_sub64 rfl rfl (by omega) ?_) | refine AL.set rfl rfl (op_quo64 rfl rfl (by omega) ?_) | refine AL.set rfl rfl (op_rem64 rfl rfl (by omega) ?_) | refine AL.set rfl rfl (op_mul64 rfl rfl (by omega) ?_) | refine AL.set rfl rfl (op_int rfl rfl rfl ?_) | refine AL.set rfl rfl (op_conv64 rfl (by omega) ?_) | refine AL.set rfl rfl (op_convI rfl ?_) | refine AL.set rfl rfl (op_not rfl ?_) | refine AL.set rfl rfl (op_lenS rfl ?_) | refine AL.set rfl rfl (op_lenStr rfl ?_) | refine AWp.condT rfl ?_ | refine AWp.condF rfl ?_ | refine AL.skip rfl rfl ?_ | refine AL.nil ?_ | refine AWp.ret ?_ | refine AWp.exit ?_ | refine AWp.block ?_ | refine AWp.skip ?_)
  refine AWp.condP rfl ?_ ?_
  · intro hlt
    have hkl : k < zs.length := by omega
    obtain ⟨z, hzk⟩ : ∃ z, zs[k]? = some z := ⟨_, List.getElem?_eq_getElem hkl⟩
    have hzc : (iv .i64 zs)[k]? = some (.int .i64 z) := by simp [iv, hzk]
    have hzb := hzs z (List.mem_of_getElem? hzk)
    have hm : (8 : Int) * (b.length : Int) = ((8 * b.length : Nat) : Int) := by omega
    have hm0 : 0 < 8 * b.length := by omega
    have htb := tmod_bounds z (8 * b.length) hm0
    have hpl := pos_lt (8 * b.length) z hm0
    repeat (first | refine AWp.seq ?_ | refine AWp.region ?_ | refine AL.set rfl rfl (op_moveI rfl ?_) | refine AL.set rfl rfl (op_moveS rfl ?_) | refine AL.set rfl rfl (op_moveB rfl ?_) | refine AL.set rfl rfl (op_moveP rfl ?_) | refine AL.set rfl rfl (op_moveStr rfl ?_) | refine AL.set rfl rfl (op_moveA rfl ?_) | refine AL.set rfl rfl (op_moveT rfl ?_) | refine AL.set rfl rfl (op_moveF rfl ?_) | refine AL.set rfl rfl (op_assignI rfl ?_) | refine AL.set rfl rfl (op_assignS rfl ?_) | refine AL.set rfl rfl (op_assignB rfl ?_) | refine AL.set rfl rfl (op_assignP rfl ?_) | refine AL.set rfl rfl (op_assignStr rfl ?_) | refine AL.set rfl rfl (op_assignA rfl ?_) | refine AL.set rfl rfl (op_assignF rfl ?_) | refine AL.set rfl rfl (op_move (v := av) rfl ?_) | refine AL.set rfl rfl (op_indexR hA rfl rfl (by omega) hzc ?_) | refine AL.set rfl rfl (op_add64 rfl rfl (by omega) ?_) | refine AL.set rfl rfl (op_sub64 rfl rfl (by omega) ?_) | refine AL.set rfl rfl (op_quo64 rfl rfl (by omega) ?_) | refine AL.set rfl rfl (op_rem64 rfl rfl (by omega) ?_) | refine AL.set rfl rfl (op_mul64 rfl rfl (by omega) ?_) | refine AL.set rfl rfl (op_int rfl rfl rfl ?_) | refine AL.set rfl rfl (op_conv64 rfl (by omega) ?_) | refine AL.set rfl rfl (op_convI rfl ?_) | refine AL.set rfl rfl (op_not rfl ?_) | refine AL.set rfl rfl (op_lenS rfl ?_) | refine AL.set rfl rfl (op_lenStr rfl ?_) | refine AWp.condT rfl ?_ | refine AWp.condF rfl ?_ | refine AL.skip rfl rfl ?_ | refine AL.nil ?_ | refine AWp.ret ?_ | refine AWp.exit ?_ | refine AWp.block ?_ | refine AWp.skip ?_)
    intro p hp
    repeat (first | refine AWp.seq ?_ | refine AWp.region ?_ | refine AL.set rfl rfl (op_moveI rfl ?_) | refine AL.set rfl rfl (op_moveS rfl ?_) | refine AL.set rfl rfl (op_moveB rfl ?_) | refine AL.set rfl rfl (op_moveP rfl ?_) | refine AL.set rfl rfl (op_moveStr rfl ?_) | refine AL.set rfl rfl (op_moveA rfl ?_) | refine AL.set rfl rfl (op_moveT rfl ?_) | refine AL.set rfl rfl (op_moveF rfl ?_) | refine AL.set rfl rfl (op_assignI rfl ?_) | refine AL.set rfl rfl (op_assignS rfl ?_) | refine AL.set rfl rfl (op_assignB rfl ?_) | refine AL.set rfl rfl (op_assignP rfl ?_) | refine AL.set rfl rfl (op_assignStr rfl ?_) | refine AL.set rfl rfl (op_assignA rfl ?_) | refine AL.set rfl rfl (op_assignF rfl ?_) | refine AL.set rfl rfl (op_loadR hp rfl rfl ?_) | refine AL.set rfl rfl (op_move (v := v) rfl ?_) | refine AL.set rfl rfl (op_lenRB hR rfl ?_) | refine AL.set rfl rfl (op_add64 rfl rfl (by omega) ?_) | refine AL.set rfl rfl (op_sub64 rfl rfl (by omega) ?_) | refine AL.set rfl rfl (op_quo64 rfl rfl (by omega) ?_) | refine AL.set rfl rfl (op_rem64 rfl rfl (by omega) ?_) | refine AL.set rfl rfl (op_mul64 rfl rfl (by omega) ?_) | refine AL.set rfl rfl (op_int rfl rfl rfl ?_) | refine AL.set rfl rfl (op_conv64 rfl (by omega) ?_) | refine AL.set rfl rfl (op_convI rfl ?_) | refine AL.set rfl rfl (op_not rfl ?_) | refine AL.set rfl rfl (op_lenS rfl ?_) | refine AL.set rfl rfl (op_lenStr rfl ?_) | refine AWp.condT rfl ?_ | refine AWp.condF rfl ?_ | refine AL.skip rfl rfl ?_ | refine AL.nil ?_ | refine AWp.ret ?_ | refine AWp.exit ?_ | refine AWp.block ?_ | refine AWp.skip ?_)
    refine AL.set rfl rfl (op_tmod rfl rfl (by omega) ?_)
    rw [hm]
    repeat (first | refine AWp.seq ?_ | refine AWp.region ?_ | refine AL.set rfl rfl (op_moveI rfl ?_) | refine AL.set rfl rfl (op_moveS rfl ?_) | refine AL.set rfl rfl (op_moveB rfl ?_) | refine AL.set rfl rfl (op_moveP rfl ?_) | refine AL.set rfl rfl (op_moveStr rfl ?_) | refine AL.set rfl rfl (op_moveA rfl ?_) | refine AL.set rfl rfl (op_moveT rfl ?_) | refine AL.set rfl rfl (op_moveF rfl ?_) | refine AL.set rfl rfl (op_assignI rfl ?_) | refine AL.set rfl rfl (op_assignS rfl ?_) | refine AL.set rfl rfl (op_assignB rfl ?_) | refine AL.set rfl rfl (op_assignP rfl ?_) | refine AL.set rfl rfl (op_assignStr rfl ?_) | refine AL.set rfl rfl (op_assignA rfl ?_) | refine AL.set rfl rfl (op_assignF rfl ?_) | refine AL.set rfl rfl (op_add64 rfl rfl (by omega) ?_) | refine AL.set rfl rfl (op_sub64 rfl rfl (by omega) ?_) | refine AL.set rfl rfl (op_quo64 rfl rfl (by omega) ?_) | refine AL.set rfl rfl (op_rem64 rfl rfl (by omega) ?_) | refine AL.set rfl rfl (op_mul64 rfl rfl (by omega) ?_) | refine AL.set rfl rfl (op_int rfl rfl rfl ?_) | refine AL.set rfl rfl (op_conv64 rfl (by omega) ?_) | refine AL.set rfl rfl (op_convI rfl ?_) | refine AL.set rfl rfl (op_not rfl ?_) | refine AL.set rfl rfl (op_lenS rfl ?_) | refine AL.set rfl rfl (op_lenStr rfl ?_) | refine AWp.condT rfl ?_ | refine AWp.condF rfl ?_ | refine AL.skip rfl rfl ?_ | refine AL.nil ?_ | refine AWp.ret ?_ | refine AWp.exit ?_ | refine AWp.block ?_ | refine AWp.skip ?_)
    refine AWp.cutI (α := Unit) (fun _ => [(0, v), (1, av), (5, .slice (some ⟨i, 0, some 1⟩) b.length c), (6, .int .i64 (k : Nat)), (7, .int .i64 (Go.Proofs.Ytbcimgjmidmklaa.pos (8 * b.length) z : Nat))]) (fun _ => H) (fun _ => True) ?_ ?_
    · refine AWp.condP rfl ?_ ?_
      · intro hneg
        repeat (first | refine AWp.seq ?_ | refine AWp.region ?_ | refine AL.set rfl rfl (op_moveI rfl ?_) | refine AL.set rfl rfl (op_moveS rfl ?_) | refine AL.set rfl rfl (op_moveB rfl ?_) | refine AL.set rfl rfl (op_moveP rfl ?_) | refine AL.set rfl rfl (op_moveStr rfl ?_) | refine AL.set rfl rfl (op_moveA rfl ?_) | refine AL.set rfl rfl (op_moveT rfl ?_) | refine AL.set rfl rfl (op_moveF rfl ?_) | refine AL.set rfl rfl (op_assignI rfl ?_) | refine AL.set rfl rfl (op_assignS rfl ?_) | refine AL.set rfl rfl (op_assignB rfl ?_) | refine AL.set rfl rfl (op_assignP rfl ?_) | refine AL.set rfl rfl (op_assignStr rfl ?_) | refine AL.set rfl rfl (op_assignA rfl ?_) | refine AL.set rfl rfl (op_assignF rfl ?_) | refine AL.set rfl rfl (op_move (v := v) rfl ?_) | refine AL.set rfl rfl (op_lenRB hR rfl ?_) | refine AL.set rfl rfl (op_add64 rfl rfl (by omega) ?_) | refine AL.set rfl rfl (op_sub64 rfl rfl (by omega) ?_) | refine AL.set rfl rfl (op_quo64 rfl rfl (by omega) ?_) | refine AL.set rfl rfl (op_rem64 rfl rfl (by omega) ?_) | refine AL.set rfl rfl (op_mul64 rfl rfl (by omega) ?_) | refine AL.set rfl rfl (op_int rfl rfl rfl ?_) | refine AL.set rfl rfl (op_conv64 rfl (by omega) ?_) | refine AL.set rfl rfl (op_convI rfl ?_) | refine AL.set rfl rfl (op_not rfl ?_) | refine AL.set rfl rfl (op_lenS rfl ?_) | refine AL.set rfl rfl (op_lenStr rfl ?_) | refine AWp.condT rfl ?_ | refine AWp.condF rfl ?_ | refine AL.skip rfl rfl ?_ | refine AL.nil ?_ | refine AWp.ret ?_ | refine AWp.exit ?_ | refine AWp.block ?_ | refine AWp.skip ?_)
        refine ⟨(), trivial, Weak.same (EW.cons rfl (EW.cons rfl (EW.cons rfl (EW.cons rfl (EW.cons ?_ EW.nil)))))⟩
        rw [pos_neg hm0 hneg, ← hm]; rfl
      · intro hnn
        repeat (first | refine AWp.seq ?_ | refine AWp.region ?_ | refine AL.set rfl rfl (op_moveI rfl ?_) | refine AL.set rfl rfl (op_moveS rfl ?_) | refine AL.set rfl rfl (op_moveB rfl ?_) | refine AL.set rfl rfl (op_moveP rfl ?_) | refine AL.set rfl rfl (op_moveStr rfl ?_) | refine AL.set rfl rfl (op_moveA rfl ?_) | refine AL.set rfl rfl (op_moveT rfl ?_) | refine AL.set rfl rfl (op_moveF rfl ?_) | refine AL.set rfl rfl (op_assignI rfl ?_) | refine AL.set rfl rfl (op_assignS rfl ?_) | refine AL.set rfl rfl (op_assignB rfl ?_) | refine AL.set rfl rfl (op_assignP rfl ?_) | refine AL.set rfl rfl (op_assignStr rfl ?_) | refine AL.set rfl rfl (op_assignA rfl ?_) | refine AL.set rfl rfl (op_assignF rfl ?_) | refine AL.set rfl rfl (op_add64 rfl rfl (by omega) ?_) | refine AL.set rfl rfl (op_sub64 rfl rfl (by omega) ?_) | refine AL.set rfl rfl (op_quo64 rfl rfl (by omega) ?_) | refine AL.set rfl rfl (op_rem64 rfl rfl (by omega) ?_) | refine AL.set rfl rfl (op_mul64 rfl rfl (by omega) ?_) | refine AL.set rfl rfl (op_int rfl rfl rfl ?_) | refine AL.set rfl rfl (op_conv64 rfl (by omega) ?_) | refine AL.set rfl rfl (op_convI rfl ?_) | refine AL.set rfl rfl (op_not rfl ?_) | refine AL.set rfl rfl (op_lenS rfl ?_) | refine AL.set rfl rfl (op_lenStr rfl ?_) | refine AWp.condT rfl ?_ | refine AWp.condF rfl ?_ | refine AL.skip rfl rfl ?_ | refine AL.nil ?_ | refine AWp.ret ?_ | refine AWp.exit ?_ | refine AWp.block ?_ | refine AWp.skip ?_)
        refine ⟨(), trivial, Weak.same (EW.cons rfl (EW.cons rfl (EW.cons rfl (EW.cons rfl (EW.cons ?_ EW.nil)))))⟩
        rw [pos_pos hnn]; rfl
    · rintro ⟨⟩ -
      have hfn := flips_next b (8 * b.length) zs k z hzk
      generalize Go.Proofs.Ytbcimgjmidmklaa.pos (8 * b.length) z = q at hpl hfn
      generalize flips b (poss (8 * b.length) (zs.take k)) = cur at hg1 hfl hfn
      obtain ⟨y, hy⟩ : ∃ y, cur[q / 8]? = some y := ⟨_, List.getElem?_eq_getElem (by omega)⟩
      have hcell : (bv cur)[0 + ((q : Int) / 8).toNat * 1]? = some (.int .u8 (y.toNat : Int)) := by
        rw [show 0 + ((q : Int) / 8).toNat * 1 = q / 8 from by omega]
        exact bv_get cur _ y hy
      repeat (first | refine AWp.seq ?_ | refine AWp.region ?_ | refine AL.set rfl rfl (op_moveI rfl ?_) | refine AL.set rfl rfl (op_moveS rfl ?_) | refine AL.set rfl rfl (op_moveB rfl ?_) | refine AL.set rfl rfl (op_moveP rfl ?_) | refine AL.set rfl rfl (op_moveStr rfl ?_) | refine AL.set rfl rfl (op_moveA rfl ?_) | refine AL.set rfl rfl (op_moveT rfl ?_) | refine AL.set rfl rfl (op_moveF rfl ?_) | refine AL.set rfl rfl (op_assignI rfl ?_) | refine AL.set rfl rfl (op_assignS rfl ?_) | refine AL.set rfl rfl (op_assignB rfl ?_) | refine AL.set rfl rfl (op_assignP rfl ?_) | refine AL.set rfl rfl (op_assignStr rfl ?_) | refine AL.set rfl rfl (op_assignA rfl ?_) | refine AL.set rfl rfl (op_assignF rfl ?_) | refine AL.set rfl rfl (op_indexS rfl rfl (by omega) (by omega) ?_) | refine AL.set rfl rfl (op_load rfl rfl hg1 hcell ?_) | refine AL.set rfl rfl (op_convU rfl (by omega) ?_) | refine AL.set rfl rfl (op_shl8 (q % 8) (by omega) (by omega) rfl rfl ?_) | refine AL.set rfl rfl (op_x8 rfl rfl ?_) | refine AL.set rfl rfl (op_add64 rfl rfl (by omega) ?_) | refine AL.set rfl rfl (op_sub64 rfl rfl (by omega) ?_) | refine AL.set rfl rfl (op_quo64 rfl rfl (by omega) ?_) | refine AL.set rfl rfl (op_rem64 rfl rfl (by omega) ?_) | refine AL.set rfl rfl (op_mul64 rfl rfl (by omega) ?_) | refine AL.set rfl rfl (op_int rfl rfl rfl ?_) | refine AL.set rfl rfl (op_conv64 rfl (by omega) ?_) | refine AL.set rfl rfl (op_convI rfl ?_) | refine AL.set rfl rfl (op_not rfl ?_) | refine AL.set rfl rfl (op_lenS rfl ?_) | refine AL.set rfl rfl (op_lenStr rfl ?_) | refine AWp.condT rfl ?_ | refine AWp.condF rfl ?_ | refine AL.skip rfl rfl ?_ | refine AL.nil ?_ | refine AWp.ret ?_ | refine AWp.exit ?_ | refine AWp.block ?_ | refine AWp.skip ?_)
      refine AL.eff rfl (op_store (v := .int .u8 ((y ^^^ UInt8.ofNat (1 <<< (q % 8))).toNat : Int)) rfl rfl rfl hg1 rfl (by rw [bv_length]; omega) ?_)
      have hst : H.set i ⟨(bv cur).set (0 + ((q : Int) / 8).toNat * 1) (.int .u8 ((y ^^^ UInt8.ofNat (1 <<< (q % 8))).toNat : Int)), 5, true⟩ = H.set i ⟨bv (flip cur q), 5, true⟩ := by
        rw [show 0 + ((q : Int) / 8).toNat * 1 = q / 8 from by omega, bv_set]
        congr 2
        simp [Go.Crc.flip, hy]
      refine AL.heap hst ?_
      repeat (first | refine AWp.seq ?_ | refine AWp.region ?_ | refine AL.set rfl rfl (op_moveI rfl ?_) | refine AL.set rfl rfl (op_moveS rfl ?_) | refine AL.set rfl rfl (op_moveB rfl ?_) | refine AL.set rfl rfl (op_moveP rfl ?_) | refine AL.set rfl rfl (op_moveStr rfl ?_) | refine AL.set rfl rfl (op_moveA rfl ?_) | refine AL.set rfl rfl (op_moveT rfl ?_) | refine AL.set rfl rfl (op_moveF rfl ?_) | refine AL.set rfl rfl (op_assignI rfl ?_) | refine AL.set rfl rfl (op_assignS rfl ?_) | refine AL.set rfl rfl (op_assignB rfl ?_) | refine AL.set rfl rfl (op_assignP rfl ?_) | refine AL.set rfl rfl (op_assignStr rfl ?_) | refine AL.set rfl rfl (op_assignA rfl ?_) | refine AL.set rfl rfl (op_assignF rfl ?_) | refine AL.set rfl rfl (op_add64 rfl rfl (by omega) ?_) | refine AL.set rfl rfl (op_sub64 rfl rfl (by omega) ?_) | refine AL.set rfl rfl (op_quo64 rfl rfl (by omega) ?_) | refine AL.set rfl rfl (op_rem64 rfl rfl (by omega) ?_) | refine AL.set rfl rfl (op_mul64 rfl rfl (by omega) ?_) | refine AL.set rfl rfl (op_int rfl rfl rfl ?_) | refine AL.set rfl rfl (op_conv64 rfl (by omega) ?_) | refine AL.set rfl rfl (op_convI rfl ?_) | refine AL.set rfl rfl (op_not rfl ?_) | refine AL.set rfl rfl (op_lenS rfl ?_) | refine AL.set rfl rfl (op_lenStr rfl ?_) | refine AWp.condT rfl ?_ | refine AWp.condF rfl ?_ | refine AL.skip rfl rfl ?_ | refine AL.nil ?_ | refine AWp.ret ?_ | refine AWp.exit ?_ | refine AWp.block ?_ | refine AWp.skip ?_)
      exact ⟨(k + 1, H.set i ⟨bv (flip cur q), 5, true⟩), ⟨by show k + 1 ≤ _; omega, by show (H.set i _).get i = _; rw [hfn]; exact Heap.set_at _ _ _, wf.ext_set hx1 hi _, wf1.set (wf1.lt hg1) _⟩, by show zs.length - (k + 1) < zs.length - k; omega, Weak.same (EW.cons rfl (EW.cons rfl (EW.cons rfl (EW.cons rfl EW.nil))))⟩
  · intro hge
    obtain rfl : k = zs.length := by omega
    rw [List.take_length] at hg1 hfl
    repeat (first | refine AWp.seq ?_ | refine AWp.region ?_ | refine AL.set rfl rfl (op_moveI rfl ?_) | refine AL.set rfl rfl (op_moveS rfl ?_) | refine AL.set rfl rfl (op_moveB rfl ?_) | refine AL.set rfl rfl (op_moveP rfl ?_) | refine AL.set rfl rfl (op_moveStr rfl ?_) | refine AL.set rfl rfl (op_moveA rfl ?_) | refine AL.set rfl rfl (op_moveT rfl ?_) | refine AL.set rfl rfl (op_moveF rfl ?_) | refine AL.set rfl rfl (op_assignI rfl ?_) | refine AL.set rfl rfl (op_assignS rfl ?_) | refine AL.set rfl rfl (op_assignB rfl ?_) | refine AL.set rfl rfl (op_assignP rfl ?_) | refine AL.set rfl rfl (op_assignStr rfl ?_) | refine AL.set rfl rfl (op_assignA rfl ?_) | refine AL.set rfl rfl (op_assignF rfl ?_) | refine AL.set rfl rfl (op_add64 rfl rfl (by omega) ?_) | refine AL.set rfl rfl (op_sub64 rfl rfl (by omega) ?_) | refine AL.set rfl rfl (op_quo64 rfl rfl (by omega) ?_) | refine AL.set rfl rfl (op_rem64 rfl rfl (by omega) ?_) | refine AL.set rfl rfl (op_mul64 rfl rfl (by omega) ?_) | refine AL.set rfl rfl (op_int rfl rfl rfl ?_) | refine AL.set rfl rfl (op_conv64 rfl (by omega) ?_) | refine AL.set rfl rfl (op_convI rfl ?_) | refine AL.set rfl rfl (op_not rfl ?_) | refine AL.set rfl rfl (op_lenS rfl ?_) | refine AL.set rfl rfl (op_lenStr rfl ?_) | refine AWp.condT rfl ?_ | refine AWp.condF rfl ?_ | refine AL.skip rfl rfl ?_ | refine AL.nil ?_ | refine AWp.ret ?_ | refine AWp.exit ?_ | refine AWp.block ?_ | refine AWp.skip ?_)
    refine ⟨_, ResV.tmp rfl, ?_, hx1⟩
    exact RS.own hg1 (by rw [bv_length, hfl])
end Go.Proofs.Ytbcimgjmidmklaa
