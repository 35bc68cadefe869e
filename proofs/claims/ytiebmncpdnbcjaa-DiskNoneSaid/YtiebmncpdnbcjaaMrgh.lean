/-
  Texts of one claim, merged: 10 parts.
-/
import Derived.Test.YtiebmncpdnbcjaaMrgg
import Derived.Test.YtiebmncpdnbcjaaMrge
import Derived.Carry
import Derived.Test.YtiebmncpdnbcjaaMrgf
/-
  Rows of steps: much and made.
-/
namespace Go.Proofs.Ytiebmncpdnbcjaa
open Go Go.Eng Go.Dsk
attribute [local irreducible] AWp AL DAL AOp TAL

abbrev StepT := StepM × Value × Value
abbrev stepT (t : StepT) : List Value := stepR t.2.1 t.2.2 t.1
/-- A step that came in, be it much or not. -/
structure StepIn (h : Heap) (t : StepT) : Prop where
  rb : RB h t.2.1 t.1.data
  rn : RN 2 h t.2.2 (t.1.keep.map keepR)
  la : t.1.a.length ≤ 4611686018427387904
  lb : t.1.b.length ≤ 4611686018427387904
  ld : t.1.data.length ≤ 4611686018427387904
  lk : t.1.keep.length ≤ 4611686018427387904
  ln : ∀ y ∈ t.1.keep, y.1.length ≤ 4611686018427387904
/-- A row of steps that came in. -/
structure Steps (h : Heap) (v : Value) (L : List StepT) : Prop where
  rn : RN 5 h v (L.map stepT)
  len : L.length ≤ 4611686018427387904
  all : ∀ t ∈ L, StepIn h t
abbrev Few (t : StepT) : Prop := t.1.data.length ≤ 1000000 ∧ t.1.keep.length ≤ 1000000
theorem StepIn.ext {h h' : Heap} {t : StepT} (s : StepIn h t) (hx : Ext h h') : StepIn h' t := ⟨s.rb.ext hx, s.rn.ext hx, s.la, s.lb, s.ld, s.lk, s.ln⟩
theorem Steps.ext {h h' : Heap} {v : Value} {L : List StepT} (s : Steps h v L) (hx : Ext h h') : Steps h' v L := ⟨s.rn.ext hx, s.len, fun t ht => (s.all t ht).ext hx⟩
theorem StepIn.ok {h : Heap} {t : StepT} (s : StepIn h t) (f : Few t) : StepOk h t.2.1 t.2.2 t.1 := ⟨s.rb, s.rn, s.la, s.lb, f.1, f.2, s.ln⟩
def cap3 (a : Nat) : Int := if (300001 : Int) < (a : Int) then 300001 else a
theorem cap3_le (a : Nat) : 0 ≤ cap3 a ∧ cap3 a ≤ 300001 ∧ (cap3 a ≤ 300000 → a ≤ 300000) := by
  unfold cap3
  split <;> refine ⟨?_, ?_, ?_⟩ <;> omega
section
variable {P : Program} {ρ : Operand → Value} {h : Heap} {K : Value → Heap → Prop} {dst : Option Tmp} {ty : TypeId} {pos : String} {aft : Array Edge} {g : Option (Nat × Bool)}
theorem op_minC {x y : Operand} {n : Nat} {aT : Array TypeId} (hx : ρ x = .int .i64 (n : Nat)) (hy : ρ y = .int .i64 300001) (kk : K (.int .i64 (cap3 n)) h) : AOp P ⟨dst, .call ⟨.builtin .min, #[x, y], aT⟩, ty, pos, aft, g⟩ ρ h K :=
  op_min2 hx hy kk
end
attribute [irreducible] cap3
theorem stepT_at {L : List StepT} {k : Nat} {t : StepT} (h : L[k]? = some t) : (L.map stepT)[((k : Nat) : Int).toNat]? = some (stepT t) := by
  rw [Int.toNat_natCast, List.getElem?_map, h]
  rfl
set_option maxHeartbeats 4000000 in
theorem much_c (lv : Value) (L : List StepT) (most : Nat) (h : Heap) (r : Steps h lv L) :
    ACalls Try.prog 12 [lv, .int .i64 (most : Nat)] h fun u h' => ∃ q, u = .bool q ∧ h' = h ∧ (q = false → L.length ≤ most ∧ ∀ t ∈ L, Few t) := by
  refine ACalls.body Try.func12 rfl rfl ?_
  have hlen : (L.map stepT).length = L.length := by simp
  have hll := r.len
  repeat (first | refine AL.nil ?_ | refine AWp.seq ?_ | refine AWp.region ?_ | refine AWp.block ?_ | refine AL.set rfl rfl (op_assignI rfl ?_) | refine AL.set rfl rfl (op_assignB rfl ?_))
  refine AWp.loop (α := Nat × Int) (fun d => [(0, lv), (1, .int .i64 (most : Nat)), (5, .int .i64 d.2), (6, .int .i64 (d.1 : Nat))]) (fun _ => h)
    (fun d => d.1 ≤ L.length ∧ 0 ≤ d.2 ∧ d.2 ≤ 3000000 ∧ (d.2 ≤ 300000 → ∀ t ∈ L.take d.1, Few t)) (fun d => L.length - d.1) (0, 0)
    ⟨Nat.zero_le _, Int.le_refl _, by decide, fun _ t ht => by simp at ht⟩ (Weak.same (EW.cons rfl (EW.cons rfl (EW.cons rfl (EW.cons rfl EW.nil))))) ?_
  rintro ⟨i, n⟩ ⟨w1, w2, w3, w4⟩
  replace w1 : i ≤ L.length := w1
  replace w2 : 0 ≤ n := w2
  replace w3 : n ≤ 3000000 := w3
  replace w4 : n ≤ 300000 → ∀ t ∈ L.take i, Few t := w4
  show AWp _ _ _ _ [(0, lv), (1, .int .i64 (most : Nat)), (5, .int .i64 n), (6, .int .i64 (i : Nat))] h
  have fin : ¬ i < L.length ∨ most < i ∨ 300000 < n → n ≤ 300000 → L.length ≤ most → ∀ t ∈ L, Few t := by
    intro e1 e2 e3 t ht
    have hi : i = L.length := by omega
    refine w4 e2 t ?_
    rw [hi, List.take_length]
    exact ht
  by_cases hi : ¬ i < L.length
  · by_cases hn : 300000 < n
    · repeat (first | refine AL.nil ?_ | refine AL.skip rfl rfl ?_ | refine AWp.seq ?_ | refine AWp.region ?_ | refine AWp.condF rfl ?_ | refine AWp.ret ?_ | refine AWp.exit ?_ | refine AL.set rfl rfl (op_moveI rfl ?_) | refine AL.set rfl rfl (op_moveB rfl ?_) | refine AL.set rfl rfl (op_assignB rfl ?_) | refine AL.set rfl rfl (op_lenN r.rn rfl ?_) | refine AL.set rfl rfl (op_intF rfl rfl rfl (by omega) ?_) | refine AL.set rfl rfl (op_pick rfl rfl ?_) | refine AL.set rfl rfl (op_intT rfl rfl rfl (by omega) ?_) | refine AL.set rfl rfl (op_move (by conv => lhs; whnf) ?_))
      exact ⟨_, ResV.tmp rfl, true, rfl, rfl, fun e => by cases e⟩
    · by_cases hm : most < L.length
      · repeat (first | refine AL.nil ?_ | refine AL.skip rfl rfl ?_ | refine AWp.seq ?_ | refine AWp.region ?_ | refine AWp.condF rfl ?_ | refine AWp.ret ?_ | refine AWp.exit ?_ | refine AL.set rfl rfl (op_moveI rfl ?_) | refine AL.set rfl rfl (op_moveB rfl ?_) | refine AL.set rfl rfl (op_assignB rfl ?_) | refine AL.set rfl rfl (op_lenN r.rn rfl ?_) | refine AL.set rfl rfl (op_intT rfl rfl rfl (by omega) ?_) | refine AL.set rfl rfl (op_intF rfl rfl rfl (by omega) ?_) | refine AL.set rfl rfl (op_pick rfl rfl ?_) | refine AL.set rfl rfl (op_move (by conv => lhs; whnf) ?_))
        exact ⟨_, ResV.tmp rfl, true, rfl, rfl, fun e => by cases e⟩
      · repeat (first | refine AL.nil ?_ | refine AL.skip rfl rfl ?_ | refine AWp.seq ?_ | refine AWp.region ?_ | refine AWp.condF rfl ?_ | refine AWp.ret ?_ | refine AWp.exit ?_ | refine AL.set rfl rfl (op_moveI rfl ?_) | refine AL.set rfl rfl (op_moveB rfl ?_) | refine AL.set rfl rfl (op_assignB rfl ?_) | refine AL.set rfl rfl (op_lenN r.rn rfl ?_) | refine AL.set rfl rfl (op_intF rfl rfl rfl (by omega) ?_) | refine AL.set rfl rfl (op_pick rfl rfl ?_) | refine AL.set rfl rfl (op_move (by conv => lhs; whnf) ?_))
        exact ⟨_, ResV.tmp rfl, false, rfl, rfl, fun _ => ⟨by omega, fin (.inl hi) (by omega) (by omega)⟩⟩
  replace hi : i < L.length := by omega
  by_cases hm : most < i
  · by_cases hn : 300000 < n
    · repeat (first | refine AL.nil ?_ | refine AL.skip rfl rfl ?_ | refine AWp.seq ?_ | refine AWp.region ?_ | refine AWp.condF rfl ?_ | refine AWp.ret ?_ | refine AWp.exit ?_ | refine AL.set rfl rfl (op_moveI rfl ?_) | refine AL.set rfl rfl (op_moveB rfl ?_) | refine AL.set rfl rfl (op_assignB rfl ?_) | refine AL.set rfl rfl (op_lenN r.rn rfl ?_) | refine AL.set rfl rfl (op_intT rfl rfl rfl (by omega) ?_) | refine AL.set rfl rfl (op_intF rfl rfl rfl (by omega) ?_) | refine AL.set rfl rfl (op_pick rfl rfl ?_) | refine AL.set rfl rfl (op_move (by conv => lhs; whnf) ?_))
      exact ⟨_, ResV.tmp rfl, true, rfl, rfl, fun e => by cases e⟩
    · repeat (first | refine AL.nil ?_ | refine AL.skip rfl rfl ?_ | refine AWp.seq ?_ | refine AWp.region ?_ | refine AWp.condF rfl ?_ | refine AWp.ret ?_ | refine AWp.exit ?_ | refine AL.set rfl rfl (op_moveI rfl ?_) | refine AL.set rfl rfl (op_moveB rfl ?_) | refine AL.set rfl rfl (op_assignB rfl ?_) | refine AL.set rfl rfl (op_lenN r.rn rfl ?_) | refine AL.set rfl rfl (op_intT rfl rfl rfl (by omega) ?_) | refine AL.set rfl rfl (op_intF rfl rfl rfl (by omega) ?_) | refine AL.set rfl rfl (op_pick rfl rfl ?_) | refine AL.set rfl rfl (op_move (by conv => lhs; whnf) ?_))
      exact ⟨_, ResV.tmp rfl, true, rfl, rfl, fun e => by cases e⟩
  by_cases hn : 300000 < n
  · repeat (first | refine AL.nil ?_ | refine AL.skip rfl rfl ?_ | refine AWp.seq ?_ | refine AWp.region ?_ | refine AWp.condF rfl ?_ | refine AWp.ret ?_ | refine AWp.exit ?_ | refine AL.set rfl rfl (op_moveI rfl ?_) | refine AL.set rfl rfl (op_moveB rfl ?_) | refine AL.set rfl rfl (op_assignB rfl ?_) | refine AL.set rfl rfl (op_lenN r.rn rfl ?_) | refine AL.set rfl rfl (op_intT rfl rfl rfl (by omega) ?_) | refine AL.set rfl rfl (op_intF rfl rfl rfl (by omega) ?_) | refine AL.set rfl rfl (op_pick rfl rfl ?_) | refine AL.set rfl rfl (op_move (by conv => lhs; whnf) ?_))
    exact ⟨_, ResV.tmp rfl, true, rfl, rfl, fun e => by cases e⟩
  obtain ⟨t, ht⟩ : ∃ t, L[i]? = some t := ⟨_, List.getElem?_eq_getElem hi⟩
  have hx2 := stepT_at ht
  have hp := r.rn.elt hx2
  have si := r.all t (List.mem_of_getElem? ht)
  obtain ⟨d1, d2, d3⟩ := cap3_le t.1.data.length
  obtain ⟨a1, a2, a3⟩ := cap3_le t.1.a.length
  obtain ⟨b1, b2, b3⟩ := cap3_le t.1.b.length
  have hkl := si.lk
  repeat (first | refine AL.nil ?_ | refine AWp.seq ?_ | refine AWp.region ?_ | refine AWp.condT rfl ?_ | refine AWp.block ?_ | refine AWp.skip ?_ | refine AL.set rfl rfl (op_moveI rfl ?_) | refine AL.set rfl rfl (op_moveB rfl ?_) | refine AL.set rfl rfl (op_lenN r.rn rfl ?_) | refine AL.set rfl rfl (op_intT rfl rfl rfl (by omega) ?_) | refine AL.set rfl rfl (op_pick rfl rfl ?_) | refine AL.set rfl rfl (op_move (by conv => lhs; whnf) ?_))
  refine AWp.draw (σ := [(0, .R), (1, .R), (2, .R), (3, .R), (4, .R), (5, .R), (6, .R), (7, .R), (8, .R), (9, .R), (10, .R), (11, .R), (12, .R), (13, .R), (14, .R), (15, .R), (16, .R), (17, .R), (18, .R), (19, .R), (20, .R), (21, .R), (22, .R), (23, .R), (24, .R), (25, .R)]) mixed (by kernel_rfl) ?_
  repeat (first | refine DAL.r rfl rfl rfl (fun h' hx hn => op_moveI rfl ⟨rfl, rfl⟩) ?_ | refine DAL.r rfl rfl rfl (fun h' hx hn => op_assignI rfl ⟨rfl, rfl⟩) ?_ | refine DAL.r rfl rfl rfl (fun h' hx hn => op_indexND (r.rn.ext hx) rfl rfl (by omega) hx2 ⟨rfl, rfl⟩) ?_ | refine DAL.r rfl rfl rfl (fun h' hx hn => op_faN (hp.ext hx) rfl ⟨rfl, rfl⟩) ?_ | refine DAL.r rfl rfl rfl (fun h' hx hn => op_loadF0 (off := 3) (hp.ext hx) rfl rfl rfl ⟨rfl, rfl⟩) ?_ | refine DAL.r rfl rfl rfl (fun h' hx hn => op_loadF0 (off := 1) (hp.ext hx) rfl rfl rfl ⟨rfl, rfl⟩) ?_ | refine DAL.r rfl rfl rfl (fun h' hx hn => op_loadF0 (off := 2) (hp.ext hx) rfl rfl rfl ⟨rfl, rfl⟩) ?_ | refine DAL.r rfl rfl rfl (fun h' hx hn => op_lenRB (si.rb.ext hx) rfl ⟨rfl, rfl⟩) ?_ | refine DAL.r rfl rfl rfl (fun h' hx hn => op_lenSB rfl ⟨rfl, rfl⟩) ?_ | refine DAL.r rfl rfl rfl (fun h' hx hn => op_minC rfl rfl ⟨rfl, rfl⟩) ?_ | refine DAL.r rfl rfl rfl (fun h' hx hn => op_add64 rfl rfl (by omega) ⟨rfl, rfl⟩) ?_ | refine DAL.r rfl rfl rfl (fun h' hx hn => op_move (by conv => lhs; whnf) ⟨rfl, rfl⟩) ?_)
  refine DAL.nil ?_
  generalize cap3 t.1.data.length = dd at d1 d2 d3 ⊢
  generalize cap3 t.1.a.length = aa at a1 a2 a3 ⊢
  generalize cap3 t.1.b.length = bb at b1 b2 b3 ⊢
  repeat (first | refine AL.nil ?_ | refine AWp.seq ?_ | refine AWp.region ?_ | refine AWp.block ?_ | refine AL.set rfl rfl (op_assignI rfl ?_))
  refine AWp.loop (α := Nat × Int) (fun d => [(0, lv), (1, .int .i64 (most : Nat)), (5, .int .i64 d.2), (6, .int .i64 (i : Nat)), (7, .int .i64 (d.1 : Nat))]) (fun _ => h)
    (fun d => d.1 ≤ t.1.keep.length ∧ 0 ≤ d.2 ∧ d.2 ≤ 3000000 ∧ 100 * (d.1 : Int) ≤ d.2 ∧ dd ≤ d.2) (fun d => t.1.keep.length - d.1) (0, n + dd + aa + bb)
    ⟨Nat.zero_le _, by show 0 ≤ n + dd + aa + bb; omega, by show n + dd + aa + bb ≤ 3000000; omega, by show (100 : Int) * ((0 : Nat) : Int) ≤ n + dd + aa + bb; omega, by show dd ≤ n + dd + aa + bb; omega⟩ (Weak.same (EW.cons rfl (EW.cons rfl (EW.cons rfl (EW.cons rfl (EW.cons rfl EW.nil)))))) ?_
  rintro ⟨k, n2⟩ ⟨v1, v2, v3, v4, v5⟩
  replace v1 : k ≤ t.1.keep.length := v1
  replace v2 : 0 ≤ n2 := v2
  replace v3 : n2 ≤ 3000000 := v3
  replace v4 : 100 * (k : Int) ≤ n2 := v4
  replace v5 : dd ≤ n2 := v5
  show AWp _ _ _ _ [(0, lv), (1, .int .i64 (most : Nat)), (5, .int .i64 n2), (6, .int .i64 (i : Nat)), (7, .int .i64 (k : Nat))] h
  have hkk : (t.1.keep.map keepR).length = t.1.keep.length := by simp
  have next : ¬ (k < t.1.keep.length ∧ n2 ≤ 300000) → n2 ≤ 300000 → ∀ y ∈ L.take (i + 1), Few y := by
    intro e1 e2 y hy
    rw [List.take_add_one, ht] at hy
    rcases List.mem_append.1 hy with hy | hy
    · exact w4 (by omega) y hy
    · have : y = t := by simpa using hy
      subst this
      exact ⟨by have := d3 (by omega); omega, by omega⟩
  by_cases hk : ¬ k < t.1.keep.length
  · by_cases hn2 : 300000 < n2
    · repeat (first | refine AL.nil ?_ | refine AL.skip rfl rfl ?_ | refine AWp.seq ?_ | refine AWp.region ?_ | refine AWp.condF rfl ?_ | refine AWp.exit ?_ | refine AL.set rfl rfl (op_moveI rfl ?_) | refine AL.set rfl rfl (op_moveB rfl ?_) | refine AL.set rfl rfl (op_assignI rfl ?_) | refine AL.set rfl rfl (op_indexND r.rn rfl rfl (by omega) hx2 ?_) | refine AL.set rfl rfl (op_faN hp rfl ?_) | refine AL.set rfl rfl (op_loadF0 (off := 4) hp rfl rfl rfl ?_) | refine AL.set rfl rfl (op_lenN si.rn rfl ?_) | refine AL.set rfl rfl (op_intF rfl rfl rfl (by omega) ?_) | refine AL.set rfl rfl (op_pick rfl rfl ?_) | refine AL.set rfl rfl (op_add64 rfl rfl (by omega) ?_) | refine AL.set rfl rfl (op_move (by conv => lhs; whnf) ?_))
      exact ⟨(i + 1, n2), ⟨by show i + 1 ≤ _; omega, v2, v3, next (by omega)⟩, by show L.length - (i + 1) < L.length - i; omega, Weak.same (EW.cons rfl (EW.cons rfl (EW.cons rfl (EW.cons rfl EW.nil))))⟩
    · repeat (first | refine AL.nil ?_ | refine AL.skip rfl rfl ?_ | refine AWp.seq ?_ | refine AWp.region ?_ | refine AWp.condF rfl ?_ | refine AWp.exit ?_ | refine AL.set rfl rfl (op_moveI rfl ?_) | refine AL.set rfl rfl (op_moveB rfl ?_) | refine AL.set rfl rfl (op_assignI rfl ?_) | refine AL.set rfl rfl (op_indexND r.rn rfl rfl (by omega) hx2 ?_) | refine AL.set rfl rfl (op_faN hp rfl ?_) | refine AL.set rfl rfl (op_loadF0 (off := 4) hp rfl rfl rfl ?_) | refine AL.set rfl rfl (op_lenN si.rn rfl ?_) | refine AL.set rfl rfl (op_intF rfl rfl rfl (by omega) ?_) | refine AL.set rfl rfl (op_pick rfl rfl ?_) | refine AL.set rfl rfl (op_add64 rfl rfl (by omega) ?_) | refine AL.set rfl rfl (op_move (by conv => lhs; whnf) ?_))
      exact ⟨(i + 1, n2), ⟨by show i + 1 ≤ _; omega, v2, v3, next (by omega)⟩, by show L.length - (i + 1) < L.length - i; omega, Weak.same (EW.cons rfl (EW.cons rfl (EW.cons rfl (EW.cons rfl EW.nil))))⟩
  by_cases hn2 : 300000 < n2
  · repeat (first | refine AL.nil ?_ | refine AWp.seq ?_ | refine AWp.region ?_ | refine AWp.condF rfl ?_ | refine AWp.exit ?_ | refine AL.set rfl rfl (op_moveI rfl ?_) | refine AL.set rfl rfl (op_moveB rfl ?_) | refine AL.set rfl rfl (op_assignI rfl ?_) | refine AL.set rfl rfl (op_indexND r.rn rfl rfl (by omega) hx2 ?_) | refine AL.set rfl rfl (op_faN hp rfl ?_) | refine AL.set rfl rfl (op_loadF0 (off := 4) hp rfl rfl rfl ?_) | refine AL.set rfl rfl (op_lenN si.rn rfl ?_) | refine AL.set rfl rfl (op_intT rfl rfl rfl (by omega) ?_) | refine AL.set rfl rfl (op_intF rfl rfl rfl (by omega) ?_) | refine AL.set rfl rfl (op_pick rfl rfl ?_) | refine AL.set rfl rfl (op_add64 rfl rfl (by omega) ?_) | refine AL.set rfl rfl (op_move (by conv => lhs; whnf) ?_))
    exact ⟨(i + 1, n2), ⟨by show i + 1 ≤ _; omega, v2, v3, next (by omega)⟩, by show L.length - (i + 1) < L.length - i; omega, Weak.same (EW.cons rfl (EW.cons rfl (EW.cons rfl (EW.cons rfl EW.nil))))⟩
  replace hk : k < t.1.keep.length := by omega
  obtain ⟨y, hy⟩ : ∃ y, t.1.keep[k]? = some y := ⟨_, List.getElem?_eq_getElem hk⟩
  have hy2 := krow_at hy
  have hpy := si.rn.elt hy2
  obtain ⟨c1, c2, c3⟩ := cap3_le y.1.length
  repeat (first | refine AL.nil ?_ | refine AWp.seq ?_ | refine AWp.region ?_ | refine AWp.condT rfl ?_ | refine AWp.block ?_ | refine AWp.skip ?_ | refine AL.set rfl rfl (op_moveI rfl ?_) | refine AL.set rfl rfl (op_moveB rfl ?_) | refine AL.set rfl rfl (op_assignI rfl ?_) | refine AL.set rfl rfl (op_indexND r.rn rfl rfl (by omega) hx2 ?_) | refine AL.set rfl rfl (op_faN hp rfl ?_) | refine AL.set rfl rfl (op_loadF0 (off := 4) hp rfl rfl rfl ?_) | refine AL.set rfl rfl (op_lenN si.rn rfl ?_) | refine AL.set rfl rfl (op_intT rfl rfl rfl (by omega) ?_) | refine AL.set rfl rfl (op_pick rfl rfl ?_) | refine AL.set rfl rfl (op_indexND si.rn rfl rfl (by omega) hy2 ?_) | refine AL.set rfl rfl (op_faN hpy rfl ?_) | refine AL.set rfl rfl (op_loadF0 (off := 0) hpy rfl rfl rfl ?_) | refine AL.set rfl rfl (op_lenSB rfl ?_) | refine AL.set rfl rfl (op_minC rfl rfl ?_) | refine AL.set rfl rfl (op_add64 rfl rfl (by omega) ?_) | refine AL.set rfl rfl (op_move (by conv => lhs; whnf) ?_))
  generalize cap3 y.1.length = cc at c1 c2 c3 ⊢
  skip
  exact ⟨(k + 1, n2 + 100 + cc), ⟨hk, by show 0 ≤ n2 + 100 + cc; omega, by show n2 + 100 + cc ≤ 3000000; omega, by show 100 * ((k + 1 : Nat) : Int) ≤ n2 + 100 + cc; omega, by show dd ≤ n2 + 100 + cc; omega⟩, by show t.1.keep.length - (k + 1) < t.1.keep.length - k; omega, Weak.same (EW.cons rfl (EW.cons rfl (EW.cons rfl (EW.cons rfl (EW.cons rfl EW.nil)))))⟩
def runF (room : Nat) (L : List StepT) : List RF := L.foldl (fun F t => stepF room F t.1) []
theorem runF_take {room : Nat} {L : List StepT} {k : Nat} {t : StepT} (h : L[k]? = some t) : runF room (L.take (k + 1)) = stepF room (runF room (L.take k)) t.1 := by
  unfold runF
  rw [List.take_add_one, h, List.foldl_append]
  rfl
/-- New disks, both. -/
theorem St.new {h H1 H2 : Heap} {room i m : Nat} (wf : WF h) (hi : h.next ≤ i) (hm : h.next ≤ m) (a : At H1 i m room [] 0) (hx : Ext h H1) (wf1 : WF H1) (r : RAt H2 H1.next room (.slice none 0 0) []) (hx2 : Ext H1 H2) (wf2 : WF H2) :
    St h H2 room i m [] 0 H1.next (.slice none 0 0) [] := by
  have := a.lt wf1
  exact ⟨⟨hx2.c _ _ a.box, hx2.o _ _ a.map, a.ok, a.big⟩, r, by omega, fun e => (by cases e), List.Perm.nil, wf.c i hi, wf.o m hm, Ext.free hx wf1 (Nat.le_refl _), hx.trans hx2, wf2⟩
set_option maxHeartbeats 4000000 in
theorem made_c (room : Int) (lv : Value) (L : List StepT) (h : Heap) (r : Steps h lv L) (hf : ∀ t ∈ L, Few t) :
    ACalls Try.prog 13 [.int .i64 room, lv] h fun u h' => (newOk room = false ∧ u = .tuple #[.pointer none, .pointer none] ∧ h' = h) ∨
      ∃ rm : Nat, room = rm ∧ newOk room = true ∧ ∃ i m l c j v, u = .tuple #[ptr i, ptr j] ∧ St h h' rm i m l c j v (runF rm L) := by
  refine ACalls.wf fun wf => ?_
  refine ACalls.body Try.func13 rfl rfl ?_
  cases hn : newOk room with
  | false =>
    repeat (first | refine AL.nil ?_ | refine AL.skip rfl rfl ?_ | refine AWp.seq ?_ | refine AWp.region ?_ | refine AWp.condT rfl ?_ | refine AWp.ret ?_ | refine AL.set rfl rfl (op_moveI rfl ?_) | refine AL.set rfl rfl (op_moveB rfl ?_) | refine AL.set rfl rfl (op_moveP rfl ?_) | refine AL.set rfl rfl (op_moveT rfl ?_) | refine AL.set rfl rfl (op_assignI rfl ?_) | refine AL.set rfl rfl (op_assignP rfl ?_) | refine AL.set rfl rfl (op_callS rfl rfl (new_no room h hn) ?_) | refine AL.set rfl rfl (op_callS rfl rfl (rnew_no room h hn) ?_) | refine AL.set rfl rfl (op_extract rfl rfl ?_) | refine AL.set rfl rfl (op_eqPtrNil rfl rfl ?_) | refine AL.set rfl rfl (op_pick rfl rfl ?_))
    exact ⟨_, ResV.tmp2 rfl, .inl ⟨rfl, rfl, rfl⟩⟩
  | true =>
    have hb : 1024 ≤ room ∧ room ≤ 1048576 := of_decide_eq_true hn
    obtain ⟨rm, rfl⟩ : ∃ n : Nat, room = n := ⟨room.toNat, by omega⟩
    have hlen : (L.map stepT).length = L.length := by simp
    have hll := r.len
    repeat (first | refine AL.nil ?_ | refine AWp.seq ?_ | refine AWp.region ?_ | refine AL.set rfl rfl (op_moveI rfl ?_) | refine AL.set rfl rfl (op_assignP rfl ?_))
    refine AL.set rfl rfl (op_call rfl rfl ((new_yes rm h (by omega) (by omega)).wf_post.mono ?_))
    rintro _ H1 ⟨⟨i, m, rfl, q1, q2, a1, hx1⟩, wf1, _⟩
    repeat (first | refine AL.nil ?_ | refine AWp.seq ?_ | refine AWp.region ?_ | refine AL.set rfl rfl (op_moveI rfl ?_) | refine AL.set rfl rfl (op_moveT rfl ?_) | refine AL.set rfl rfl (op_assignI rfl ?_) | refine AL.set rfl rfl (op_assignP rfl ?_) | refine AL.set rfl rfl (op_extract rfl rfl ?_))
    refine AL.set rfl rfl (op_call rfl rfl ((rnew_yes rm H1 (by omega) (by omega)).mono ?_))
    rintro _ H2 ⟨rfl, r2, hx2, wf2, n2⟩
    have s0 := St.new wf q1 q2 a1 hx1 wf1 r2 hx2 wf2
    repeat (first | refine AL.nil ?_ | refine AWp.seq ?_ | refine AWp.region ?_ | refine AWp.condF rfl ?_ | refine AWp.block ?_ | refine AWp.skip ?_ | refine AL.set rfl rfl (op_moveI rfl ?_) | refine AL.set rfl rfl (op_moveB rfl ?_) | refine AL.set rfl rfl (op_moveP rfl ?_) | refine AL.set rfl rfl (op_assignI rfl ?_) | refine AL.set rfl rfl (op_assignP rfl ?_) | refine AL.set rfl rfl (op_eqPtrNil rfl rfl ?_) | refine AL.set rfl rfl (op_pick rfl rfl ?_) | refine AL.set rfl rfl (op_callS rfl rfl (num_c _ H2) ?_) | refine AL.set rfl rfl (op_intF rfl rfl rfl (by exact fun e => e rfl) ?_))
    refine AWp.loop (α := Nat × Nat × Nat × FL × Nat × Nat × Value × Heap) (fun d => [(1, lv), (6, ptr d.2.1), (8, ptr d.2.2.2.2.2.1), (9, .int .i64 (d.1 : Nat))]) (fun d => d.2.2.2.2.2.2.2)
      (fun d => d.1 ≤ L.length ∧ St h d.2.2.2.2.2.2.2 rm d.2.1 d.2.2.1 d.2.2.2.1 d.2.2.2.2.1 d.2.2.2.2.2.1 d.2.2.2.2.2.2.1 (runF rm (L.take d.1))) (fun d => L.length - d.1) (0, i, m, [], 0, H1.next, .slice none 0 0, H2)
      ⟨Nat.zero_le _, s0⟩ (Weak.same (EW.cons rfl (EW.cons rfl (EW.cons rfl (EW.cons rfl EW.nil))))) ?_
    rintro ⟨k, i, m, l, c, j, v, H⟩ ⟨w1, s⟩
    replace w1 : k ≤ L.length := w1
    replace s : St h H rm i m l c j v (runF rm (L.take k)) := s
    show AWp _ _ _ _ [(1, lv), (6, ptr i), (8, ptr j), (9, .int .i64 (k : Nat))] H
    have rH := r.rn.ext s.ext
    by_cases hk : k < L.length
    · obtain ⟨t, ht⟩ : ∃ t, L[k]? = some t := ⟨_, List.getElem?_eq_getElem hk⟩
      have hx2 := stepT_at ht
      have hp := rH.elt hx2
      have hmem := List.mem_of_getElem? ht
      have so := (r.all t hmem).ok (hf t hmem)
      repeat (first | refine AL.nil ?_ | refine AWp.seq ?_ | refine AWp.region ?_ | refine AWp.condT rfl ?_ | refine AWp.block ?_ | refine AWp.skip ?_ | refine AL.set rfl rfl (op_moveI rfl ?_) | refine AL.set rfl rfl (op_moveP rfl ?_) | refine AL.set rfl rfl (op_lenN rH rfl ?_) | refine AL.set rfl rfl (op_intT rfl rfl rfl (by omega) ?_) | refine AL.set rfl rfl (op_indexND rH rfl rfl (by omega) hx2 ?_) | refine AL.set rfl rfl (op_loadN hp rfl rfl rfl ?_) | refine AL.set rfl rfl (op_move (by conv => lhs; whnf) ?_))
      refine AL.set rfl rfl (op_call rfl rfl ((do_c h H rm i m l c j v _ t.2.1 t.2.2 t.1 s so).mono ?_))
      rintro _ H5 ⟨i', m', l', c', j', v', rfl, s'⟩
      repeat (first | refine AL.nil ?_ | refine AWp.seq ?_ | refine AWp.region ?_ | refine AWp.condF rfl ?_ | refine AWp.skip ?_ | refine AL.set rfl rfl (op_moveI rfl ?_) | refine AL.set rfl rfl (op_moveB rfl ?_) | refine AL.set rfl rfl (op_moveP rfl ?_) | refine AL.set rfl rfl (op_moveT rfl ?_) | refine AL.set rfl rfl (op_assignI rfl ?_) | refine AL.set rfl rfl (op_assignB rfl ?_) | refine AL.set rfl rfl (op_assignP rfl ?_) | refine AL.set rfl rfl (op_extract rfl rfl ?_) | refine AL.set rfl rfl (op_eqPtrNil rfl rfl ?_) | refine AL.set rfl rfl (op_pick rfl rfl ?_) | refine AL.set rfl rfl (op_add64 rfl rfl (by omega) ?_) | refine AL.set rfl rfl (op_not rfl ?_))
      refine ⟨(k + 1, i', m', l', c', j', v', H5), ⟨hk, ?_⟩, by show L.length - (k + 1) < L.length - k; omega, Weak.same (EW.cons rfl (EW.cons rfl (EW.cons rfl (EW.cons rfl EW.nil))))⟩
      show St h H5 rm i' m' l' c' j' v' (runF rm (L.take (k + 1)))
      rw [runF_take ht]
      exact s'
    · repeat (first | refine AL.nil ?_ | refine AWp.seq ?_ | refine AWp.region ?_ | refine AWp.condF rfl ?_ | refine AWp.ret ?_ | refine AWp.exit ?_ | refine AL.set rfl rfl (op_moveI rfl ?_) | refine AL.set rfl rfl (op_moveP rfl ?_) | refine AL.set rfl rfl (op_assignP rfl ?_) | refine AL.set rfl rfl (op_lenN rH rfl ?_) | refine AL.set rfl rfl (op_intF rfl rfl rfl (by omega) ?_) | refine AL.set rfl rfl (op_move (by conv => lhs; whnf) ?_))
      have hk2 : k = L.length := by omega
      rw [hk2, List.take_length] at s
      exact ⟨_, ResV.tmp2 rfl, .inr ⟨rm, rfl, rfl, i, m, l, c, j, v, rfl, s⟩⟩
end Go.Proofs.Ytiebmncpdnbcjaa

/-
  The chapter's rows.
-/
namespace Go.Proofs.Ytiebmncpdnbcjaa
open Go Go.Eng Go.Dsk
attribute [local irreducible] AWp AL DAL AOp TAL

/-- A disk of a call's own. -/
structure Kn (h H : Heap) (room i m : Nat) (l : FL) (c : Nat) : Prop where
  dk : At H i m room l c
  wf : WF H
  ext : Ext h H
  li : h.get i = none
  lm : h.obj m = none
section
variable {h H H' : Heap} {room i m : Nat} {l l' : FL} {c c' : Nat}
theorem Kn.grow (k : Kn h H room i m l c) (hx : Ext H H') (wf : WF H') : Kn h H' room i m l c := ⟨⟨hx.c _ _ k.dk.box, hx.o _ _ k.dk.map, k.dk.ok, k.dk.big⟩, wf, k.ext.trans hx, k.li, k.lm⟩
theorem Kn.ch (k : Kn h H room i m l c) (l' : FL) (c' : Nat) : Ch i m H (stD H i m room l' c') := st_ch k.wf (k.dk.lt k.wf).1 (k.dk.lt k.wf).2
theorem Kn.st (k : Kn h H room i m l c) (d : DOk room l' c') : Kn h (stD H i m room l' c') room i m l' c' :=
  ⟨At.st d k.dk.big, (k.ch l' c').wf, ⟨fun q b hq => (k.ch l' c').c q b (k.ext.c q b hq) (ne_get hq k.li), fun q b hq => (k.ch l' c').o q b (k.ext.o q b hq) (ne_obj hq k.lm)⟩, k.li, k.lm⟩
theorem OS.ch {B : Nat} {e : TypeId} {v : Value} {vs : List Value} (r : OS B H e v vs) (k : Ch i m H H') (hi : i < B) : OS B H' e v vs := by
  rcases r with r | ⟨q, cc, q1, q2, q3⟩
  · exact .inl r
  · exact .inr ⟨q, cc, q1, q2, k.c _ _ q3 (by omega)⟩
end
theorem zeros (n : Nat) : List.replicate n (Value.int .u8 0) = bv (List.replicate n 0) := by
  unfold bv
  rw [List.map_replicate]
  rfl
abbrev byB (b : List UInt8) : Blk := ⟨bv b, 5, true⟩
abbrev nA : List UInt8 := [97]
abbrev nB : List UInt8 := [98]
abbrev nC : List UInt8 := [99]
abbrev nAB : List UInt8 := [97, 32, 98]
abbrev bX : List UInt8 := [120]
abbrev bXYZ : List UInt8 := [120, 121, 122]
abbrev bUV : List UInt8 := [117, 118]
abbrev bBig : List UInt8 := List.replicate 1020 0
abbrev L1 : FL := [(nA, ([], bXYZ), 0)]
abbrev L2 : FL := [(nA, (bXYZ, []), 1)]
abbrev L3 : FL := [(nA, (bXYZ, bUV), 2)]
abbrev L4 : FL := [(nB, (bXYZ, bUV), 3)]
abbrev kA1 : List Kp1 := [(nA, 1)]
abbrev kBn : List Kp1 := [(nB, -1)]
abbrev kBB : List Kp1 := [(nB, 1), (nB, 1)]
abbrev kC1 : List Kp1 := [(nC, 1)]
abbrev keB (ks : List Kp1) : Blk := ⟨(ks.map keepR).flatten, 69, true⟩
theorem one_name {N : List (List UInt8)} {x : List UInt8} (hr : Rise N) (hm : ∀ y, y ∈ N ↔ y ∈ [x]) : N = [x] := rise_eq hr (List.pairwise_singleton _ _) hm
set_option maxHeartbeats 4000000 in
set_option maxRecDepth 8000 in
theorem known_c (h : Heap) : ACalls Try.prog 11 [] h fun u h' => u = .bool true ∧ h' = h := by
  refine ACalls.wf fun wf => ACalls.resetB ?_
  refine ACalls.body Try.func11 rfl rfl ?_
  repeat (first | refine AL.nil ?_ | refine AWp.seq ?_ | refine AWp.region ?_ | refine AL.set rfl rfl (op_assignB rfl ?_))
  refine AL.set rfl rfl (op_call rfl rfl ((new_yes 1024 h (by decide) (by decide)).wf_post.mono ?_))
  rintro _ H1 ⟨⟨i, m, rfl, q1, q2, a1, hx1⟩, wf1, _⟩
  have k : Kn h H1 1024 i m [] 0 := ⟨a1, wf1, hx1, wf.c i q1, wf.o m q2⟩
  repeat (first | refine AL.nil ?_ | refine AWp.seq ?_ | refine AWp.region ?_ | refine AL.set rfl rfl (op_moveP rfl ?_) | refine AL.set rfl rfl (op_moveT rfl ?_) | refine AL.set rfl rfl (op_assignI rfl ?_) | refine AL.set rfl rfl (op_assignP rfl ?_) | refine AL.set rfl rfl (op_extract rfl rfl ?_) | refine AL.set rfl rfl (op_callS rfl rfl (new_no 1023 H1 (by decide)) ?_))
  refine AL.set rfl rfl (op_row (bv bX) rfl rfl rfl rfl (bv_ones _) ?_)
  refine AL.heap (show _ = H1.alloc (byB bX) from rfl) ?_
  have hxH2 := k.wf.ext (byB bX)
  have gH2 := Heap.alloc_new H1 (byB bX)
  replace k := k.grow hxH2 (k.wf.alloc _)
  generalize H1.alloc (byB bX) = H2 at hxH2 gH2 k ⊢
  repeat (first | refine AL.set rfl rfl (op_convSame rfl rfl gH2 rfl ?_))
  have ca := append_c i m 1024 [] 0 nAB (.slice (some ⟨H1.next, 0, some 1⟩) 1 1) bX H2 k.dk (by decide) (RS.own gH2 rfl) (by decide)
  have d := DOk.app k.dk.ok nAB bX
  rw [show appE 1024 [] nAB bX = 2 from by kernel_rfl, show appL 1024 [] 0 nAB bX = [] from by kernel_rfl, show appC 1024 [] 0 nAB bX = 0 from by kernel_rfl] at ca
  rw [show appL 1024 [] 0 nAB bX = [] from by kernel_rfl, show appC 1024 [] 0 nAB bX = 0 from by kernel_rfl] at d
  refine AL.set rfl rfl (op_call rfl rfl (ca.mono ?_))
  rintro _ _ ⟨rfl, rfl⟩
  have ch := k.ch [] 0
  replace k := k.st d
  generalize stD H2 i m 1024 [] 0 = H3 at ch k ⊢
  repeat (first | refine AL.set rfl rfl (op_moveP rfl ?_))
  refine AL.set rfl rfl (op_row (bv bXYZ) rfl rfl rfl rfl (bv_ones _) ?_)
  refine AL.heap (show _ = H3.alloc (byB bXYZ) from rfl) ?_
  have hxH4 := k.wf.ext (byB bXYZ)
  have gH4 := Heap.alloc_new H3 (byB bXYZ)
  replace k := k.grow hxH4 (k.wf.alloc _)
  generalize H3.alloc (byB bXYZ) = H4 at hxH4 gH4 k ⊢
  repeat (first | refine AL.set rfl rfl (op_convSame rfl rfl gH4 rfl ?_))
  replace ca := append_c i m 1024 [] 0 nA (.slice (some ⟨H3.next, 0, some 1⟩) 3 3) bXYZ H4 k.dk (by decide) (RS.own gH4 rfl) (by decide)
  replace d := DOk.app k.dk.ok nA bXYZ
  rw [show appE 1024 [] nA bXYZ = 0 from by kernel_rfl, show appL 1024 [] 0 nA bXYZ = L1 from by kernel_rfl, show appC 1024 [] 0 nA bXYZ = 1 from by kernel_rfl] at ca
  rw [show appL 1024 [] 0 nA bXYZ = L1 from by kernel_rfl, show appC 1024 [] 0 nA bXYZ = 1 from by kernel_rfl] at d
  refine AL.set rfl rfl (op_call rfl rfl (ca.mono ?_))
  rintro _ _ ⟨rfl, rfl⟩
  have ch := k.ch L1 1
  replace k := k.st d
  generalize stD H4 i m 1024 L1 1 = H5 at ch k ⊢
  repeat (first | refine AL.nil ?_ | refine AWp.seq ?_ | refine AWp.region ?_ | refine AL.set rfl rfl (op_moveP rfl ?_) | refine AL.set rfl rfl (op_assignI rfl ?_))
  have cr := read_c i m 1024 L1 1 nB H5 k.dk (by decide)
  rw [show openE L1 nB [] = 6 from by kernel_rfl] at cr
  refine AL.set rfl rfl (op_call rfl rfl (cr.wf_post.mono ?_))
  rintro _ H6 ⟨⟨w6, rfl, _, hx6⟩, wf6, _⟩
  replace k := k.grow hx6 wf6
  repeat (first | refine AL.nil ?_ | refine AWp.seq ?_ | refine AWp.region ?_ | refine AL.set rfl rfl (op_moveP rfl ?_) | refine AL.set rfl rfl (op_moveT rfl ?_) | refine AL.set rfl rfl (op_assignI rfl ?_) | refine AL.set rfl rfl (op_extract rfl rfl ?_) | refine AL.set rfl rfl (op_assign (by conv => lhs; whnf) ?_))
  have cs := sync_c i m 1024 L1 1 nB H6 k.dk (by decide)
  rw [show openE L1 nB [] = 6 from by kernel_rfl, show syncL L1 1 nB = L1 from by kernel_rfl, show syncC L1 1 nB = 1 from by kernel_rfl] at cs
  refine AL.set rfl rfl (op_call rfl rfl (cs.mono ?_))
  rintro _ _ ⟨rfl, rfl⟩
  have ch := k.ch L1 1
  replace k := k.st k.dk.ok
  generalize stD H6 i m 1024 L1 1 = H7 at ch k ⊢
  repeat (first | refine AL.set rfl rfl (op_moveP rfl ?_))
  replace cs := sync_c i m 1024 L1 1 nA H7 k.dk (by decide)
  replace d := DOk.syncL k.dk.ok nA
  rw [show openE L1 nA [] = 0 from by kernel_rfl, show syncL L1 1 nA = L2 from by kernel_rfl, show syncC L1 1 nA = 2 from by kernel_rfl] at cs
  rw [show syncL L1 1 nA = L2 from by kernel_rfl, show syncC L1 1 nA = 2 from by kernel_rfl] at d
  refine AL.set rfl rfl (op_call rfl rfl (cs.mono ?_))
  rintro _ _ ⟨rfl, rfl⟩
  have ch := k.ch L2 2
  replace k := k.st d
  generalize stD H7 i m 1024 L2 2 = H8 at ch k ⊢
  repeat (first | refine AL.set rfl rfl (op_moveP rfl ?_))
  refine AL.set rfl rfl (op_row (bv bUV) rfl rfl rfl rfl (bv_ones _) ?_)
  refine AL.heap (show _ = H8.alloc (byB bUV) from rfl) ?_
  have hxH9 := k.wf.ext (byB bUV)
  have gH9 := Heap.alloc_new H8 (byB bUV)
  replace k := k.grow hxH9 (k.wf.alloc _)
  generalize H8.alloc (byB bUV) = H9 at hxH9 gH9 k ⊢
  repeat (first | refine AL.set rfl rfl (op_convSame rfl rfl gH9 rfl ?_))
  replace ca := append_c i m 1024 L2 2 nA (.slice (some ⟨H8.next, 0, some 1⟩) 2 2) bUV H9 k.dk (by decide) (RS.own gH9 rfl) (by decide)
  replace d := DOk.app k.dk.ok nA bUV
  rw [show appE 1024 L2 nA bUV = 0 from by kernel_rfl, show appL 1024 L2 2 nA bUV = L3 from by kernel_rfl, show appC 1024 L2 2 nA bUV = 3 from by kernel_rfl] at ca
  rw [show appL 1024 L2 2 nA bUV = L3 from by kernel_rfl, show appC 1024 L2 2 nA bUV = 3 from by kernel_rfl] at d
  refine AL.set rfl rfl (op_call rfl rfl (ca.mono ?_))
  rintro _ _ ⟨rfl, rfl⟩
  have ch := k.ch L3 3
  replace k := k.st d
  generalize stD H9 i m 1024 L3 3 = H10 at ch k ⊢
  have cl := lasting_c i m 1024 L3 3 nA H10 k.dk (by decide)
  rw [show openE L3 nA [] = 0 from by kernel_rfl, show (openF L3 nA []).1.length = 3 from by kernel_rfl] at cl
  repeat (first | refine AL.nil ?_ | refine AWp.seq ?_ | refine AWp.region ?_ | refine AL.set rfl rfl (op_moveP rfl ?_) | refine AL.set rfl rfl (op_moveT rfl ?_) | refine AL.set rfl rfl (op_assignI rfl ?_) | refine AL.set rfl rfl (op_callS rfl rfl cl ?_) | refine AL.set rfl rfl (op_extract rfl rfl ?_) | refine AL.set rfl rfl (op_buildS (out := keepR (nA, 1)) rfl rfl ?_))
  refine AL.set rfl rfl (op_rowN1 (by decide) (by decide) rfl rfl ?_)
  refine AL.heap (show _ = H10.alloc (keB kA1) from rfl) ?_
  have hxH11 := k.wf.ext (keB kA1)
  have gH11 := Heap.alloc_new H10 (keB kA1)
  replace k := k.grow hxH11 (k.wf.alloc _)
  generalize H10.alloc (keB kA1) = H11 at hxH11 gH11 k ⊢
  refine AL.set rfl rfl (op_call rfl rfl ((crash_ok i m 1024 L3 3 _ kA1 H11 k.dk (RN.ks (RN.own (keeps_len kA1) gH11 rfl)) (by decide) (by decide) [(nA, 1, 0)] 1 (by kernel_rfl) (fun s => by unfold getS; simp only [List.find?]; split <;> decide)).mono ?_))
  rintro _ H12 ⟨i2, m2, N, rfl, _, _, hR, hN, a2, hx12, wf12, hn12⟩
  cases one_name hR hN
  replace k := k.grow hx12 wf12
  rw [show leftL L3 [(nA, 1, 0)] [nA] = [(nA, (bXYZ ++ [117], []), 0)] from by kernel_rfl] at a2
  repeat (first | refine AL.nil ?_ | refine AWp.seq ?_ | refine AWp.region ?_ | refine AL.set rfl rfl (op_moveP rfl ?_) | refine AL.set rfl rfl (op_moveT rfl ?_) | refine AL.set rfl rfl (op_assignI rfl ?_) | refine AL.set rfl rfl (op_assignP rfl ?_) | refine AL.set rfl rfl (op_extract rfl rfl ?_))
  replace cr := read_c i2 m2 1024 _ _ nA H12 a2 (by decide)
  rw [show openE [(nA, (bXYZ ++ [117], []), 0)] nA [] = 0 from by kernel_rfl, show allF (openF [(nA, (bXYZ ++ [117], []), 0)] nA []) = [120, 121, 122, 117] from by kernel_rfl] at cr
  refine AL.set rfl rfl (op_call rfl rfl (cr.wf_post.mono ?_))
  rintro _ H13 ⟨⟨w13, rfl, y, hx13⟩, wf13, _⟩
  have li : i < H12.next := (k.dk.lt k.wf).1
  replace k := k.grow hx13 wf13
  
  repeat (first | refine AL.nil ?_ | refine AWp.seq ?_ | refine AWp.region ?_ | refine AL.set rfl rfl (op_moveP rfl ?_) | refine AL.set rfl rfl (op_moveT rfl ?_) | refine AL.set rfl rfl (op_assignI rfl ?_) | refine AL.set rfl rfl (op_extract rfl rfl ?_) | refine AL.set rfl rfl (op_assign (by conv => lhs; whnf) ?_))
  have cn := rename_c i m 1024 L3 3 nA nB H13 k.dk (by decide) (by decide)
  replace d := DOk.renL k.dk.ok nA nB
  rw [show openE L3 nA [nB] = 0 from by kernel_rfl, show renL L3 3 nA nB = L4 from by kernel_rfl, show renC L3 3 nA nB = 4 from by kernel_rfl] at cn
  rw [show renL L3 3 nA nB = L4 from by kernel_rfl, show renC L3 3 nA nB = 4 from by kernel_rfl] at d
  refine AL.set rfl rfl (op_call rfl rfl (cn.mono ?_))
  rintro _ _ ⟨rfl, rfl⟩
  have ch := k.ch L4 4
  replace k := k.st d
  generalize stD H13 i m 1024 L4 4 = H14 at ch k ⊢
  replace y := OS.ch y ch li
  repeat (first | refine AL.set rfl rfl (op_moveP rfl ?_))
  replace cn := rename_c i m 1024 L4 4 nA nB H14 k.dk (by decide) (by decide)
  rw [show openE L4 nA [nB] = 6 from by kernel_rfl, show renL L4 4 nA nB = L4 from by kernel_rfl, show renC L4 4 nA nB = 4 from by kernel_rfl] at cn
  refine AL.set rfl rfl (op_call rfl rfl (cn.mono ?_))
  rintro _ _ ⟨rfl, rfl⟩
  have ch := k.ch L4 4
  replace k := k.st k.dk.ok
  generalize stD H14 i m 1024 L4 4 = H15 at ch k ⊢
  replace y := OS.ch y ch li
  repeat (first | refine AL.nil ?_ | refine AWp.seq ?_ | refine AWp.region ?_ | refine AL.set rfl rfl (op_moveP rfl ?_) | refine AL.set rfl rfl (op_assignI rfl ?_))
  refine AL.set rfl rfl (op_call rfl rfl ((names_c i m 1024 L4 4 H15 k.dk).mono ?_))
  rintro w16 H16 ⟨N, nn, hR, hN, _, hx16, wf16, _⟩
  cases one_name hR hN
  have li2 := (k.dk.lt k.wf).1
  replace k := k.grow hx16 wf16
  replace y := y.ext hx16
  repeat (first | refine AL.nil ?_ | refine AWp.seq ?_ | refine AWp.region ?_ | refine AL.set rfl rfl (op_moveP rfl ?_) | refine AL.set rfl rfl (op_assign (by conv => lhs; whnf) ?_))
  refine AL.set rfl rfl (op_make rfl rfl (by decide) (by decide) (by decide) (by decide) rfl ?_)
  refine AL.heap (show _ = H16.alloc (byB bBig) from congrArg (fun x => H16.alloc ⟨x, 5, true⟩) (zeros 1020)) ?_
  have hxH17 := k.wf.ext (byB bBig)
  have gH17 := Heap.alloc_new H16 (byB bBig)
  replace k := k.grow hxH17 (k.wf.alloc _)
  replace y := y.ext hxH17
  replace nn := nn.ext hxH17
  generalize H16.alloc (byB bBig) = H17 at hxH17 gH17 k y nn ⊢
  replace ca := append_c i m 1024 L4 4 nC (.slice (some ⟨H16.next, 0, some 1⟩) 1020 1020) bBig H17 k.dk (by decide) (RS.own gH17 (by simp [bv_length])) (by simp)
  rw [show appE 1024 L4 nC bBig = 5 from by kernel_rfl, show appL 1024 L4 4 nC bBig = L4 from by kernel_rfl, show appC 1024 L4 4 nC bBig = 4 from by kernel_rfl] at ca
  skip
  refine AL.set rfl rfl (op_call rfl rfl (ca.mono ?_))
  rintro _ _ ⟨rfl, rfl⟩
  have ch := k.ch L4 4
  replace k := k.st k.dk.ok
  generalize stD H17 i m 1024 L4 4 = H18 at ch k ⊢
  replace y := OS.ch y ch li
  replace nn := OS.ch nn ch li2
  repeat (first | refine AL.nil ?_ | refine AWp.seq ?_ | refine AWp.region ?_ | refine AL.set rfl rfl (op_moveP rfl ?_) | refine AL.set rfl rfl (op_assignI rfl ?_) | refine AL.set rfl rfl (op_buildS (out := keepR (nB, -1)) rfl rfl ?_))
  refine AL.set rfl rfl (op_rowN1 (by decide) (by decide) rfl rfl ?_)
  refine AL.heap (show _ = H18.alloc (keB kBn) from rfl) ?_
  have hxH19 := k.wf.ext (keB kBn)
  have gH19 := Heap.alloc_new H18 (keB kBn)
  replace k := k.grow hxH19 (k.wf.alloc _)
  generalize H18.alloc (keB kBn) = H19 at hxH19 gH19 k ⊢
  replace y := y.ext hxH19
  replace nn := nn.ext hxH19
  refine AL.set rfl rfl (op_call rfl rfl ((crash_no i m 1024 L4 4 _ kBn H19 k.dk (RN.ks (RN.own (keeps_len kBn) gH19 rfl)) (by decide) (by decide) (by kernel_rfl)).mono ?_))
  rintro _ H20 ⟨rfl, hx20, wf20⟩
  replace k := k.grow hx20 wf20
  replace y := y.ext hx20
  replace nn := nn.ext hx20
  repeat (first | refine AL.nil ?_ | refine AWp.seq ?_ | refine AWp.region ?_ | refine AL.set rfl rfl (op_moveP rfl ?_) | refine AL.set rfl rfl (op_moveT rfl ?_) | refine AL.set rfl rfl (op_assignI rfl ?_) | refine AL.set rfl rfl (op_assignP rfl ?_) | refine AL.set rfl rfl (op_extract rfl rfl ?_) | refine AL.set rfl rfl (op_buildS (out := keepR (nB, 1)) rfl rfl ?_))
  refine AL.set rfl rfl (op_buildSliceN (out := (kBB.map keepR).flatten) (by decide) (by decide) (by decide) (fun p hp => by simp only [List.mem_cons, List.not_mem_nil, or_false] at hp; rcases hp with rfl | rfl <;> (intro e; cases e)) rfl rfl ?_)
  refine AL.heap (show _ = H20.alloc (keB kBB) from rfl) ?_
  have hxH21 := k.wf.ext (keB kBB)
  have gH21 := Heap.alloc_new H20 (keB kBB)
  replace k := k.grow hxH21 (k.wf.alloc _)
  replace y := y.ext hxH21
  replace nn := nn.ext hxH21
  generalize H20.alloc (keB kBB) = H21 at hxH21 gH21 k y nn ⊢
  refine AL.set rfl rfl (op_call rfl rfl ((crash_no i m 1024 L4 4 _ kBB H21 k.dk (RN.ks (RN.own (keeps_len kBB) gH21 rfl)) (by decide) (by decide) (by kernel_rfl)).mono ?_))
  rintro _ H22 ⟨rfl, hx22, wf22⟩
  replace k := k.grow hx22 wf22
  replace y := y.ext hx22
  replace nn := nn.ext hx22
  repeat (first | refine AL.nil ?_ | refine AWp.seq ?_ | refine AWp.region ?_ | refine AL.set rfl rfl (op_moveP rfl ?_) | refine AL.set rfl rfl (op_moveT rfl ?_) | refine AL.set rfl rfl (op_assignI rfl ?_) | refine AL.set rfl rfl (op_assignP rfl ?_) | refine AL.set rfl rfl (op_extract rfl rfl ?_) | refine AL.set rfl rfl (op_buildS (out := keepR (nC, 1)) rfl rfl ?_))
  refine AL.set rfl rfl (op_rowN1 (by decide) (by decide) rfl rfl ?_)
  refine AL.heap (show _ = H22.alloc (keB kC1) from rfl) ?_
  have hxH23 := k.wf.ext (keB kC1)
  have gH23 := Heap.alloc_new H22 (keB kC1)
  replace k := k.grow hxH23 (k.wf.alloc _)
  generalize H22.alloc (keB kC1) = H23 at hxH23 gH23 k ⊢
  replace y := y.ext hxH23
  replace nn := nn.ext hxH23
  refine AL.set rfl rfl (op_call rfl rfl ((crash_err i m 1024 L4 4 _ kC1 H23 k.dk (RN.ks (RN.own (keeps_len kC1) gH23 rfl)) (by decide) (by decide) [(nC, 1, 0)] 1 6 (by kernel_rfl) (by decide)).mono ?_))
  rintro _ H24 ⟨rfl, hx24, wf24⟩
  replace k := k.grow hx24 wf24
  replace y := y.ext hx24
  replace nn := nn.ext hx24
  repeat (first | refine AL.nil ?_ | refine AWp.seq ?_ | refine AWp.region ?_ | refine AL.set rfl rfl (op_moveP rfl ?_) | refine AL.set rfl rfl (op_moveT rfl ?_) | refine AL.set rfl rfl (op_assignI rfl ?_) | refine AL.set rfl rfl (op_assignP rfl ?_) | refine AL.set rfl rfl (op_extract rfl rfl ?_))
  refine AL.set rfl rfl (op_call rfl rfl ((crash_ok i m 1024 L4 4 _ [] H24 k.dk (.inl ⟨rfl, rfl⟩) (by decide) (by decide) [] 0 (by kernel_rfl) (fun s => Int.le_refl 0)).mono ?_))
  rintro _ H25 ⟨i3, m3, N, rfl, _, _, hR, hN, a3, hx25, wf25, hn25⟩
  cases one_name hR hN
  replace k := k.grow hx25 wf25
  replace y := y.ext hx25
  replace nn := nn.ext hx25
  rw [show leftL L4 [] [nB] = [(nB, (bXYZ, []), 0)] from by kernel_rfl] at a3
  repeat (first | refine AL.nil ?_ | refine AWp.seq ?_ | refine AWp.region ?_ | refine AL.set rfl rfl (op_moveP rfl ?_) | refine AL.set rfl rfl (op_moveT rfl ?_) | refine AL.set rfl rfl (op_assignI rfl ?_) | refine AL.set rfl rfl (op_assignP rfl ?_) | refine AL.set rfl rfl (op_extract rfl rfl ?_))
  replace cr := read_c i3 m3 1024 _ _ nB H25 a3 (by decide)
  rw [show openE [(nB, (bXYZ, []), 0)] nB [] = 0 from by kernel_rfl, show allF (openF [(nB, (bXYZ, []), 0)] nB []) = [120, 121, 122] from by kernel_rfl] at cr
  refine AL.set rfl rfl (op_call rfl rfl (cr.wf_post.mono ?_))
  rintro _ H26 ⟨⟨w26, rfl, z, hx26⟩, wf26, _⟩
  replace k := k.grow hx26 wf26
  replace y := y.ext hx26
  replace nn := nn.ext hx26
  have cu := used_c i m 1024 L4 4 H26 k.dk
  rw [show used L4 = 5 from by kernel_rfl] at cu
  repeat (first | refine AL.nil ?_ | refine AWp.seq ?_ | refine AWp.region ?_ | refine AL.set rfl rfl (op_moveI rfl ?_) | refine AL.set rfl rfl (op_moveB rfl ?_) | refine AL.set rfl rfl (op_moveT rfl ?_) | refine AL.set rfl rfl (op_assignI rfl ?_) | refine AL.set rfl rfl (op_extract rfl rfl ?_) | refine AL.set rfl rfl (op_callS rfl rfl (num_c _ H26) ?_) | refine AL.set rfl rfl (op_bytesStrR y.rb rfl ?_) | refine AL.set rfl rfl (op_sEqC [120, 121, 122, 117] rfl rfl rfl ?_) | refine AL.set rfl rfl (op_lenR nn.rs rfl ?_) | refine AL.set rfl rfl (op_intT rfl rfl rfl (by omega) ?_) | refine AL.set rfl rfl (op_pick rfl rfl ?_) | refine AL.set rfl rfl (op_add64 rfl rfl (by omega) ?_) | refine AL.set rfl rfl (op_int rfl rfl rfl ?_) | refine AL.set rfl rfl (op_move (by conv => lhs; whnf) ?_) | refine AL.set rfl rfl (op_assign (by conv => lhs; whnf) ?_))
  refine AL.set rfl rfl (op_indexD (u := .string (bstr nB)) nn.rs rfl rfl (by decide) rfl (fun pt => ?_))
  repeat (first | refine AL.nil ?_ | refine AWp.ret ?_ | refine AL.set rfl rfl (op_moveI rfl ?_) | refine AL.set rfl rfl (op_moveB rfl ?_) | refine AL.set rfl rfl (op_moveP rfl ?_) | refine AL.set rfl rfl (op_assignB rfl ?_) | refine AL.set rfl rfl (op_callS rfl rfl (num_c _ H26) ?_) | refine AL.set rfl rfl (op_callS rfl rfl cu ?_) | refine AL.set rfl rfl (op_loadR pt rfl rfl ?_) | refine AL.set rfl rfl (op_bytesStrR z.rb rfl ?_) | refine AL.set rfl rfl (op_sEqC [120, 121, 122] rfl rfl rfl ?_) | refine AL.set rfl rfl (op_sEqC [98] rfl rfl rfl ?_) | refine AL.set rfl rfl (op_intT rfl rfl rfl (by omega) ?_) | refine AL.set rfl rfl (op_pick rfl rfl ?_) | refine AL.set rfl rfl (op_move (by conv => lhs; whnf) ?_))
  exact ⟨_, ResV.tmp rfl, Bdd.plain rfl, k.ext, rfl, rfl⟩
end Go.Proofs.Ytiebmncpdnbcjaa

/-
  Functions of a law, by their numbers.
-/
namespace Go.Proofs.Ytiebmncpdnbcjaa
open Go Go.Eng

instance : FnC Try.prog 11 := ⟨Try.f11, Try.func11, by kernel_rfl, by kernel_rfl⟩
instance : FnC Try.prog 12 := ⟨Try.f12, Try.func12, by kernel_rfl, by kernel_rfl⟩
instance : FnC Try.prog 13 := ⟨Try.f13, Try.func13, by kernel_rfl, by kernel_rfl⟩
/-- Ways that meet: the second goal is said once, and met from any way. -/
theorem share (C : Prop) {P G : Prop} (main : (C → P) → G) (tail : C → P) : G := main tail
theorem share2 {P : Value → Heap → Prop} {G : Prop} (C : Value → Heap → Prop) (main : (∀ u H, C u H → P u H) → G) (tail : ∀ u H, C u H → P u H) : G := main tail
theorem share3 {α β : Type} {P : α → β → Heap → Prop} {G : Prop} (C : α → β → Heap → Prop) (main : (∀ a b H, C a b H → P a b H) → G) (tail : ∀ a b H, C a b H → P a b H) : G := main tail
theorem AL.drop {P : Program} {N : Nat} {ops : Array Oper} {l : List Oper} {Q : Exit → Env → Heap → Prop} {env env0 : Env} {h : Heap} (k : EW env env0) (p : AL P N ops l Q env0 h) : AL P N ops l Q env h := by
  unfold AL at p ⊢
  exact fun φ a w hd r => p φ a w hd (r.weak (Weak.same k))
end Go.Proofs.Ytiebmncpdnbcjaa

/-
  The engine: a law, whatever plain arguments come in.
-/
namespace Go.Eng
open Go

section
variable {P : Program}
def wholeB : Option TypeDesc → Bool
  | some (.struct _) => true
  | some (.array _ _) => true
  | _ => false
/-- A value that reads avs one of its type. -/
def RdV (P : Program) (h : Heap) (n : Nat) (t : TypeId) (v : Value) : Prop :=
  bif wholeB (P.underlying t) then ∃ cs : Array Value, v = .agg cs ∧ Rd P h n t cs.toList else Rd P h n t [v]
theorem RdV.ext {h h' : Heap} (hx : Ext h h') {n : Nat} {t : TypeId} {v : Value} (r : RdV P h n t v) : RdV P h' n t v := by
  unfold RdV at r ⊢
  cases hw : wholeB (P.underlying t) with
  | true =>
    rw [hw] at r
    obtain ⟨cs, h1, h2⟩ := r
    exact ⟨cs, h1, h2.ext hx⟩
  | false => rw [hw] at r; exact Rd.ext hx r
variable {H : Type} {enc : TypeId × Value → H} {W : World}
/-- What a value of no struct and no array is: one cell. -/
theorem one_of_ok {n : Nat} {t : TypeId} {v : Value} {r : Reach} {base : Nat} (hp : plainT P (n + 1) t = true) (hk : Value.okWide P W r base t v) (hw : wholeB (P.underlying t) = false) : v.cells = #[v] := by
  unfold plainT at hp
  unfold Value.okWide at hk
  cases hu : P.underlying t with
  | none => rw [hu] at hp; cases hp
  | some d =>
    rw [hu] at hp hk hw
    cases d <;> first | (cases hw; done) | skip
    all_goals first
      | (cases hp; done)
      | (simp only [Cell.okWide, hu, Cell.ok] at hk; cases v <;> first | rfl | (exact hk.elim) | (simp at hk))
theorem opens_arg {G n fuel : Nat} {t : TypeId} {v : Value} {r : Reach} {base b0 : Nat} {spare : Nat → Bool} {held : Bool} {x : DataW H × List MemPlace} (hall : ∀ b, spare b = true) (hp : plainT P (n + 1) t = true) (hk : Value.okWide P W r base t v) (ht : DataW.trod enc P W b0 spare held fuel t v.cells.toList = some x)
    (hs : (x.1.weights P t).all (· ≤ reachBytes) = true) : ∀ bs : List RoB, ∃ (bs' : List RoB) (a : Value), RoAll G (bs ++ bs') bs' W ∧ VRel (roRen G (bs ++ bs')) (G + (bs ++ bs').length) a v ∧ RdV P (roHeap G (bs ++ bs')) (n + 1) t a := by
  intro bs
  obtain ⟨b1, avs, r1, v1, d1⟩ := opens (G := G) hall (n + 1) t fuel _ x hp ht hs bs
  cases hw : wholeB (P.underlying t) with
  | true =>
    have hv : ∃ cs, v = .agg cs := by
      unfold Value.okWide at hk
      cases hu : P.underlying t with
      | none => rw [hu] at hw; cases hw
      | some d =>
        rw [hu] at hw hk
        cases d <;> first | (cases hw; done) | (obtain ⟨cs, h1, _⟩ := hk; exact ⟨cs, h1⟩)
    obtain ⟨cs, rfl⟩ := hv
    refine ⟨b1, .agg avs.toArray, r1, ?_, ?_⟩
    · refine .agg _ _ ?_ ?_
      · have := v1.length
        simpa [Value.cells] using this
      · intro k x y hx hy
        have hx' : avs[k]? = some x := by simpa using hx
        obtain ⟨c, hc, hv⟩ := v1.get hx'
        have : cs[k]? = some c := by simpa [Value.cells] using hc
        rw [this] at hy
        cases hy
        exact hv
    · unfold RdV
      rw [hw]
      exact ⟨avs.toArray, rfl, by simpa using d1⟩
  | false =>
    have h1 := one_of_ok hp hk hw
    rw [h1] at v1
    obtain ⟨a, rfl⟩ : ∃ a, avs = [a] := by
      have := v1.length
      match avs, this with
      | [a], _ => exact ⟨a, rfl⟩
    refine ⟨b1, a, r1, ?_, ?_⟩
    · cases v1 with
      | cons h t => exact h
    · unfold RdV
      rw [hw]
      exact d1
/-- Arguments, one behind the other. -/
theorem opens_args {G n : Nat} {r : Reach} {base : Nat} {spare : Nat → Bool} {held : Bool} (hall : ∀ b, spare b = true) : ∀ (ts : List TypeId) (vs : List Value) (ds : List (DataW H)) (ps : List MemPlace), DataW.TrodAll enc P W 0 spare held ts vs ds ps →
    (∀ t ∈ ts, plainT P (n + 1) t = true) → (∀ (j : Nat) t v, ts[j]? = some t → vs[j]? = some v → Value.okWide P W r base t v) → (DataW.weightsEach P ts ds).all (· ≤ reachBytes) = true → ∀ bs : List RoB,
    ∃ (bs' : List RoB) (avs : List Value), RoAll G (bs ++ bs') bs' W ∧ VRels (roRen G (bs ++ bs')) (G + (bs ++ bs').length) avs vs ∧ ∀ (j : Nat) t a, ts[j]? = some t → avs[j]? = some a → RdV P (roHeap G (bs ++ bs')) (n + 1) t a
  | [], vs, ds, ps, h, _, _, _, bs => by
    obtain ⟨rfl, rfl, rfl⟩ := Go.ChangeShapes.trodAll_nil h
    exact ⟨[], [], (fun b hb => by cases hb), .nil, fun j t a ht => by simp at ht⟩
  | t :: ts, vs, ds, ps, h, hp, hk, hs, bs => by
    obtain ⟨v, vs', d, ds', p, q, rfl, rfl, rfl, ⟨fuel, h0⟩, hr⟩ := Go.ChangeShapes.trodAll_cons h
    have hs1 : (d.weights P t).all (· ≤ reachBytes) = true := List.all_eq_true.2 fun x hx => List.all_eq_true.1 hs x (by simp only [DataW.weightsEach, List.mem_append]; exact .inl hx)
    have hs2 : (DataW.weightsEach P ts ds').all (· ≤ reachBytes) = true := List.all_eq_true.2 fun x hx => List.all_eq_true.1 hs x (by simp only [DataW.weightsEach, List.mem_append]; exact .inr hx)
    obtain ⟨b1, a, r1, v1, d1⟩ := opens_arg (G := G) hall (hp t (by simp)) (hk 0 t v rfl rfl) h0 hs1 bs
    obtain ⟨b2, avs, r2, v2, d2⟩ := opens_args hall ts vs' ds' q hr (fun t' ht => hp t' (List.mem_cons_of_mem _ ht)) (fun j t' v' ht hv => hk (j + 1) t' v' ht hv) hs2 (bs ++ b1)
    refine ⟨b1 ++ b2, a :: avs, ?_, ?_, fun j t' a' ht ha => ?_⟩
    · rw [← List.append_assoc]; exact r1.app.two r2
    · rw [← List.append_assoc]
      exact .cons (v1.mono roRen_app (by simp)) v2
    · rw [← List.append_assoc]
      cases j with
      | zero =>
        simp only [List.getElem?_cons_zero, Option.some.injEq] at ht ha
        subst ht ha
        exact d1.ext roHeap_ext
      | succ j =>
        simp only [List.getElem?_cons_succ] at ht ha
        exact d2 j t' a' ht ha
/-- Behind a call that has turned nothing the arguments read avs they did. -/
theorem trodAll_stays (hl : laidOutB P = true) {W' : World} (hb : Go.RowKit.Below W.heap.size W W') : ∀ (ts : List TypeId) (vs : List Value) (ds : List (DataW H)) (ps : List MemPlace), (∀ t ∈ ts, P.readableRec t = true ∧ t < P.types.size) →
    DataW.TrodAll enc P W 0 (fun _ => true) true ts vs ds ps → DataW.TrodAll enc P W' 0 (fun b => decide (b < W.heap.size)) true ts vs ds ps
  | [], vs, ds, ps, _, h => by
    obtain ⟨rfl, rfl, rfl⟩ := Go.ChangeShapes.trodAll_nil h
    rfl
  | t :: ts, vs, ds, ps, hr, h => by
    obtain ⟨v, vs', d, ds', p, q, rfl, rfl, rfl, h0, hr'⟩ := Go.ChangeShapes.trodAll_cons h
    obtain ⟨h1, h2⟩ := hr t (by simp)
    have hlt : ∀ x ∈ p, x.block < W.heap.size := by obtain ⟨m, hm⟩ := h0; exact DataW.trod_lt m _ _ _ hm
    exact trodAll_cons_mk (Go.RowKit.Below.trod hl h1 h2 h0 hb hlt) (trodAll_stays hl hb ts vs' ds' q (fun t' ht => hr t' (List.mem_cons_of_mem _ ht)) hr')
theorem trodAll_len {base : Nat} {spare : Nat → Bool} {held : Bool} : ∀ {ts : List TypeId} {vs : List Value} {ds : List (DataW H)} {ps : List MemPlace}, DataW.TrodAll enc P W base spare held ts vs ds ps → vs.length = ts.length
  | [], vs, ds, ps, h => by
    obtain ⟨rfl, rfl, rfl⟩ := Go.ChangeShapes.trodAll_nil h
    rfl
  | t :: ts, vs, ds, ps, h => by
    obtain ⟨v, vs', d, ds', p, q, rfl, rfl, rfl, _, hr⟩ := Go.ChangeShapes.trodAll_cons h
    simp [trodAll_len hr]
/-- A law that is true over every abstract heap over which its arguments read. -/
theorem law_any {f : FuncId} {n : Nat} {ts : List TypeId} {args : Array Value} {ds : List (DataW H)} {ps : List MemPlace} {r : Reach} {base : Nat} {held : Bool} (h0 : DataW.TrodAll enc P W 0 (fun _ => true) held ts args.toList ds ps)
    (hp : ∀ t ∈ ts, plainT P (n + 1) t = true) (hk : ∀ (j : Nat) t v, ts[j]? = some t → args.toList[j]? = some v → Value.okWide P W r base t v) (hs : (DataW.weightsEach P ts ds).all (· ≤ reachBytes) = true)
    (p : ∀ h avs, avs.length = ts.length → (∀ (j : Nat) t a, ts[j]? = some t → avs[j]? = some a → RdV P h (n + 1) t a) → ACalls P f avs h fun v _ => v = .bool true) :
    Calls P f args W fun e W' => e = .returned (.bool true) ∧ Go.RowKit.Below W.heap.size W W' := by
  obtain ⟨bs, avs, r1, v1, d1⟩ := opens_args (G := P.globals.size) (n := n) (fun _ => rfl) ts args.toList ds ps h0 hp hk hs []
  rw [List.nil_append] at r1 v1 d1
  have hlen : args.toList.length = ts.length := trodAll_len h0
  have := law_calls (P := P) (f := f) (bs := bs) (W := W) (args := avs) (cargs := args.toList) r1 v1 (p _ avs (by rw [v1.length, hlen]) d1)
  simpa using this
end
end Go.Eng

/-
  The engine: what plain arguments read avs, by the forms that contracts ask for.
-/
namespace Go.Eng
open Go

section
variable {P : Program} {h : Heap} {n : Nat} {t e : TypeId} {cs : List Value}
theorem Rd.int {k : IntKind} (hu : P.underlying t = some (.int k)) (r : Rd P h (n + 1) t cs) : ∃ a, cs = [.int k a] ∧ (Lit.int k a).wf = true := by
  unfold Rd at r
  rw [hu] at r
  exact r
theorem Rd.str (hu : P.underlying t = some .string) (r : Rd P h (n + 1) t cs) : ∃ s, cs = [.string (bstr s)] ∧ s.length ≤ reachBytes := by
  unfold Rd at r
  rw [hu] at r
  exact r
theorem Rd.bool (hu : P.underlying t = some .bool) (r : Rd P h (n + 1) t cs) : ∃ b, cs = [.bool b] := by
  unfold Rd at r
  rw [hu] at r
  exact r
theorem Rd.strc {fs : Array Field} (hu : P.underlying t = some (.struct fs)) (r : Rd P h (n + 1) t cs) : cs.length = P.cellsOf t ∧ ∀ f ∈ fs.toList, Rd P h n f.type ((cs.drop f.offset).take (P.cellsOf f.type)) := by
  unfold Rd at r
  rw [hu] at r
  exact r
theorem Rd.arr {m : Nat} (hu : P.underlying t = some (.array m e)) (r : Rd P h (n + 1) t cs) : cs.length = P.cellsOf t ∧ ∀ k, k < m → Rd P h n e ((cs.drop (k * P.cellsOf e)).take (P.cellsOf e)) := by
  unfold Rd at r
  rw [hu] at r
  exact r
theorem pick_all {α : Type} {Q : Nat → α → Prop} : ∀ m : Nat, (∀ k, k < m → ∃ x, Q k x) → ∃ L : List α, L.length = m ∧ ∀ (k : Nat) x, L[k]? = some x → Q k x
  | 0, _ => ⟨[], rfl, fun k x h => by simp at h⟩
  | m + 1, p => by
    obtain ⟨L, h1, h2⟩ := pick_all m fun k hk => p k (by omega)
    obtain ⟨x, hx⟩ := p m (by omega)
    refine ⟨L ++ [x], by simp [h1], fun k y hy => ?_⟩
    rw [List.getElem?_append] at hy
    split at hy
    · exact h2 k y hy
    · rename_i hk
      have : k = m := by
        have := (List.getElem?_eq_some_iff.1 hy).1
        simp at this
        omega
      subst this
      simp only [h1, Nat.sub_self, List.getElem?_cons_zero, Option.some.injEq] at hy
      subst hy
      exact hx
/-- A slice whose elements read avs rows. -/
theorem Rd.rows {α : Type} {row : α → List Value} {Q : α → Prop} {c : Nat} (hu : P.underlying t = some (.slice e)) (hc : P.cellsOf e = c) (h0 : 0 < c) (r : Rd P h (n + 1) t cs) (hq : ∀ cs, Rd P h n e cs → ∃ x, cs = row x ∧ (row x).length = c ∧ Q x) :
    ∃ (v : Value) (L : List α), cs = [v] ∧ RN c h v (L.map row) ∧ (∀ x ∈ L, Q x) ∧ L.length * P.bytesOf e ≤ reachBytes := by
  unfold Rd at r
  rw [hu] at r
  subst hc
  rcases r with rfl | ⟨i, len, cap, cells, rfl, hb, hl, hg, ha⟩
  · exact ⟨_, [], rfl, RN.nil _ _, by simp, by simp⟩
  · obtain ⟨L, h1, h2⟩ := pick_all (Q := fun k x => (cells.drop (k * P.cellsOf e)).take (P.cellsOf e) = row x ∧ (row x).length = P.cellsOf e ∧ Q x) len fun k hk => hq _ (ha k hk)
    have hflat : (L.map row).flatten = cells := by
      have : L.map row = (List.range len).map fun k => (cells.drop (k * P.cellsOf e)).take (P.cellsOf e) := by
        apply List.ext_getElem?
        intro k
        rw [List.getElem?_map, List.getElem?_map]
        by_cases hk : k < len
        · have hkl : k < L.length := by omega
          rw [List.getElem?_eq_getElem hkl, List.getElem?_range hk]
          simp only [Option.map_some]
          rw [(h2 k _ (List.getElem?_eq_getElem hkl)).1]
        · rw [List.getElem?_eq_none (by omega), List.getElem?_eq_none (by simp; omega)]
          rfl
      rw [this]
      exact chunks_flat hl
    have hmem : ∀ x ∈ L, (row x).length = P.cellsOf e ∧ Q x := fun x hx => by
      obtain ⟨k, hk⟩ := List.getElem?_of_mem hx
      exact (h2 k x hk).2
    refine ⟨_, L, rfl, ⟨fun r hr => by obtain ⟨x, hx, rfl⟩ := List.mem_map.1 hr; exact (hmem x hx).1, .inr ⟨i, 0, none, cap, by rw [List.length_map, h1], .inl rfl, fun hne => ?_⟩⟩, fun x hx => (hmem x hx).2, by rw [h1]; exact hb⟩
    rw [hflat, List.length_map, h1]
    by_cases hz : cells = []
    · subst hz
      have h3 : len * P.cellsOf e = 0 := by simpa using hl.symm
      rw [h3]
      have : len ≠ 0 := fun e0 => hne (by rw [List.eq_nil_of_length_eq_zero (h1.trans e0)]; rfl)
      rcases Nat.mul_eq_zero.1 h3 with h4 | h4
      · exact absurd h4 this
      · omega
    · exact ⟨_, hg hz, by simp only [Nat.zero_add]; omega, by simp only [List.drop_zero]; rw [List.take_of_length_le (by omega)]⟩
theorem RN.rs1 {α : Type} {f : α → Value} {v : Value} {L : List α} (r : RN 1 h v (L.map fun x => [f x])) : RS h v (L.map f) := by
  have hf : ∀ L : List α, (L.map fun x => [f x]).flatten = L.map f := fun L => by
    induction L with
    | nil => rfl
    | cons x L ih => simp only [List.map_cons, List.flatten_cons, ih]; rfl
  rcases r.at_ with ⟨h1, h2⟩ | ⟨i, o, s, cap, h1, h2, h3⟩
  · refine .inl ⟨h1, ?_⟩
    have : L = [] := by simpa using h2
    rw [this]; rfl
  · refine .inr ⟨i, o, s, cap, by simpa using h1, h2, fun hne => ?_⟩
    obtain ⟨b, b1, b2, b3⟩ := h3 (fun e => hne (by have h6 : L = [] := (by simpa using e); rw [h6]; rfl))
    rw [hf] at b3
    exact ⟨b, b1, by simpa using b2, by simpa using b3⟩
theorem Rd.bytes (hu : P.underlying t = some (.slice e)) (hv : P.underlying e = some (.int .u8)) (hc : P.cellsOf e = 1) (hb : P.bytesOf e = 1) (r : Rd P h (n + 2) t cs) : ∃ v b, cs = [v] ∧ RB h v b ∧ b.length ≤ reachBytes := by
  obtain ⟨v, L, h1, h2, _, h4⟩ := r.rows (row := fun x : UInt8 => [.int .u8 (x.toNat : Nat)]) (Q := fun _ => True) hu hc (by decide) fun cs rc => by
    obtain ⟨a, h1, h2⟩ := rc.int hv
    have h3 : 0 ≤ a ∧ a < 256 := by
      have h4 : (decide (IntKind.u8.min ≤ a) && decide (a ≤ IntKind.u8.max)) = true := h2
      simp only [Bool.and_eq_true, decide_eq_true_iff] at h4
      have h5 : IntKind.u8.min = 0 := rfl
      have h6 : IntKind.u8.max = 255 := rfl
      omega
    exact ⟨UInt8.ofNat a.toNat, by rw [h1]; simp; omega, rfl, trivial⟩
  exact ⟨v, L, h1, h2.rs1, by rw [hb] at h4; omega⟩
theorem Rd.strs (hu : P.underlying t = some (.slice e)) (hv : P.underlying e = some .string) (hc : P.cellsOf e = 1) (hb : P.bytesOf e = 16) (r : Rd P h (n + 2) t cs) : ∃ (v : Value) (L : List (List UInt8)), cs = [v] ∧ RS h v (L.map fun s => .string (bstr s)) ∧ (∀ s ∈ L, s.length ≤ reachBytes) ∧ L.length * 16 ≤ reachBytes := by
  obtain ⟨v, L, h1, h2, h3, h4⟩ := r.rows (row := fun s : List UInt8 => [.string (bstr s)]) (Q := fun s => s.length ≤ reachBytes) hu hc (by decide) fun cs rc => by
    obtain ⟨s, h1, h2⟩ := rc.str hv
    exact ⟨s, h1, rfl, h2⟩
  exact ⟨v, L, h1, h2.rs1, h3, by rw [hb] at h4; exact h4⟩
theorem RdV.cell {v : Value} (hw : wholeB (P.underlying t) = false) (r : RdV P h n t v) : Rd P h n t [v] := by
  unfold RdV at r
  rw [hw] at r
  exact r
theorem RdV.whole {v : Value} (hw : wholeB (P.underlying t) = true) (r : RdV P h n t v) : ∃ cs : Array Value, v = .agg cs ∧ Rd P h n t cs.toList := by
  unfold RdV at r
  rw [hw] at r
  exact r
end
end Go.Eng

/-
  What comes in, read.
-/
namespace Go.Proofs.Ytiebmncpdnbcjaa
open Go Go.Eng Go.Dsk
attribute [local irreducible] Rd RdV

theorem len2 : ∀ {cs : List Value}, cs.length = 2 → ∃ a b, cs = [a, b]
  | [a, b], _ => ⟨a, b, rfl⟩
theorem len5 : ∀ {cs : List Value}, cs.length = 5 → ∃ a b c d e, cs = [a, b, c, d, e]
  | [a, b, c, d, e], _ => ⟨a, b, c, d, e, rfl⟩
theorem cells_int : Try.prog.cellsOf 3 = 1 := by kernel_rfl
theorem cells_str : Try.prog.cellsOf 9 = 1 := by kernel_rfl
theorem cells_u8 : Try.prog.cellsOf 5 = 1 := by kernel_rfl
theorem cells_bs : Try.prog.cellsOf 23 = 1 := by kernel_rfl
theorem cells_kept : Try.prog.cellsOf 69 = 2 := by kernel_rfl
theorem cells_kepts : Try.prog.cellsOf 39 = 1 := by kernel_rfl
theorem cells_rooms : Try.prog.cellsOf 73 = 2 := by kernel_rfl
theorem cells_step : Try.prog.cellsOf 41 = 5 := by kernel_rfl
theorem bytes_u8 : Try.prog.bytesOf 5 = 1 := by kernel_rfl
theorem bytes_kept : Try.prog.bytesOf 69 = 24 := by kernel_rfl
theorem bytes_step : Try.prog.bytesOf 41 = 88 := by kernel_rfl
theorem kept_in (n : Nat) (h : Heap) (cs : List Value) (r : Rd Try.prog h (n + 2) 69 cs) : ∃ x : Kp1, cs = keepR x ∧ (keepR x).length = 2 ∧ x.1.length ≤ reachBytes := by
  obtain ⟨hl, hf⟩ := r.strc Try.underlying69
  rw [cells_kept] at hl
  have f0 : Rd Try.prog h (n + 1) 9 ((cs.drop 0).take (Try.prog.cellsOf 9)) := by
    have q := hf _ (List.mem_of_getElem? (i := 0) rfl)
    exact q
  have f1 : Rd Try.prog h (n + 1) 3 ((cs.drop 1).take (Try.prog.cellsOf 3)) := by
    have q := hf _ (List.mem_of_getElem? (i := 1) rfl)
    exact q
  rw [cells_str] at f0
  rw [cells_int] at f1
  obtain ⟨a, b, rfl⟩ := len2 hl
  · obtain ⟨s, e0, hs⟩ := f0.str Try.underlying9
    obtain ⟨k, e1, _⟩ := f1.int Try.underlying3
    cases e0
    cases e1
    exact ⟨(s, k), rfl, rfl, hs⟩
theorem step_inN (n : Nat) (h : Heap) (cs : List Value) (r : Rd Try.prog h (n + 5) 41 cs) : ∃ t : StepT, cs = stepT t ∧ (stepT t).length = 5 ∧ StepIn h t := by
  obtain ⟨hl, hf⟩ := r.strc Try.underlying41
  rw [cells_step] at hl
  have f0 : Rd Try.prog h (n + 4) 3 ((cs.drop 0).take (Try.prog.cellsOf 3)) := by
    have q := hf _ (List.mem_of_getElem? (i := 0) rfl)
    exact q
  have f1 : Rd Try.prog h (n + 4) 9 ((cs.drop 1).take (Try.prog.cellsOf 9)) := by
    have q := hf _ (List.mem_of_getElem? (i := 1) rfl)
    exact q
  have f2 : Rd Try.prog h (n + 4) 9 ((cs.drop 2).take (Try.prog.cellsOf 9)) := by
    have q := hf _ (List.mem_of_getElem? (i := 2) rfl)
    exact q
  have f3 : Rd Try.prog h (n + 4) 23 ((cs.drop 3).take (Try.prog.cellsOf 23)) := by
    have q := hf _ (List.mem_of_getElem? (i := 3) rfl)
    exact q
  have f4 : Rd Try.prog h (n + 4) 39 ((cs.drop 4).take (Try.prog.cellsOf 39)) := by
    have q := hf _ (List.mem_of_getElem? (i := 4) rfl)
    exact q
  rw [cells_int] at f0
  rw [cells_str] at f1 f2
  rw [cells_bs] at f3
  rw [cells_kepts] at f4
  obtain ⟨c0, c1, c2, c3, c4, rfl⟩ := len5 hl
  · obtain ⟨k, e0, _⟩ := f0.int Try.underlying3
    obtain ⟨a, e1, h1⟩ := f1.str Try.underlying9
    obtain ⟨b, e2, h2⟩ := f2.str Try.underlying9
    obtain ⟨dv, d, e3, h3, h3'⟩ := f3.bytes Try.underlying23 Try.underlying5 cells_u8 bytes_u8
    obtain ⟨kv, ks, e4, h4, h5, h6⟩ := f4.rows (row := keepR) (Q := fun x => x.1.length ≤ reachBytes) Try.underlying39 cells_kept (by decide) (kept_in (n + 1) h)
    cases e0
    cases e1
    cases e2
    cases e3
    cases e4
    rw [bytes_kept] at h6
    unfold reachBytes at *
    exact ⟨(⟨k, a, b, d, ks⟩, c3, c4), rfl, rfl, ⟨h3, h4, by show a.length ≤ _; omega, by show b.length ≤ _; omega, by show d.length ≤ _; omega, by show ks.length ≤ _; omega, fun y hy => by have := h5 y hy; omega⟩⟩
theorem step_in (h : Heap) (cs : List Value) (r : Rd Try.prog h 5 41 cs) : ∃ t : StepT, cs = stepT t ∧ (stepT t).length = 5 ∧ StepIn h t := step_inN 0 h cs r
theorem step_in6 (h : Heap) (cs : List Value) (r : Rd Try.prog h 6 41 cs) : ∃ t : StepT, cs = stepT t ∧ (stepT t).length = 5 ∧ StepIn h t := step_inN 1 h cs r
theorem steps_in {h : Heap} {v : Value} (r : RdV Try.prog h 6 22 v) : ∃ L : List StepT, Steps h v L := by
  obtain ⟨w, L, e, h1, h2, h3⟩ := (r.cell (by rw [Try.underlying22]; rfl)).rows (row := stepT) (Q := StepIn h) Try.underlying22 cells_step (by decide) (step_in h)
  cases e
  rw [bytes_step] at h3
  unfold reachBytes at h3
  exact ⟨L, h1, by omega, h2⟩
theorem int_in {h : Heap} {v : Value} (r : RdV Try.prog h 6 3 v) : ∃ a : Int, v = .int .i64 a ∧ -9223372036854775808 ≤ a ∧ a ≤ 9223372036854775807 := by
  obtain ⟨a, e, hw⟩ := (r.cell (by rw [Try.underlying3]; rfl)).int Try.underlying3
  cases e
  have h4 : (decide (IntKind.i64.min ≤ a) && decide (a ≤ IntKind.i64.max)) = true := hw
  simp only [Bool.and_eq_true, decide_eq_true_iff] at h4
  exact ⟨a, rfl, h4⟩
theorem str_in {h : Heap} {v : Value} (r : RdV Try.prog h 6 9 v) : ∃ s : List UInt8, v = .string (bstr s) ∧ s.length ≤ 4611686018427387904 := by
  obtain ⟨s, e, hs⟩ := (r.cell (by rw [Try.underlying9]; rfl)).str Try.underlying9
  cases e
  unfold reachBytes at hs
  exact ⟨s, rfl, by omega⟩
theorem bytes_str : Try.prog.bytesOf 9 = 16 := by kernel_rfl
theorem strs_in {h : Heap} {v : Value} (r : RdV Try.prog h 6 48 v) : ∃ L : List (List UInt8), RS h v (sv L) ∧ (∀ s ∈ L, s.length ≤ 4611686018427387904) ∧ L.length ≤ 4611686018427387904 := by
  obtain ⟨w, L, e, h1, h2, h3⟩ := (r.cell (by rw [Try.underlying48]; rfl)).strs Try.underlying48 Try.underlying9 cells_str bytes_str
  cases e
  unfold reachBytes at h2 h3
  exact ⟨L, h1, fun s hs => by have := h2 s hs; omega, by omega⟩
theorem stepv_in {h : Heap} {v : Value} (r : RdV Try.prog h 6 41 v) : ∃ t : StepT, v = .agg (stepT t).toArray ∧ StepIn h t := by
  obtain ⟨cs, rfl, hr⟩ := r.whole (by rw [Try.underlying41]; rfl)
  obtain ⟨t, e, _, hs⟩ := step_in6 h cs.toList hr
  exact ⟨t, by rw [← e], hs⟩
theorem rooms_in {h : Heap} {v : Value} (r : RdV Try.prog h 6 73 v) : ∃ a b : Int, v = .agg #[.int .i64 a, .int .i64 b] := by
  obtain ⟨cs, rfl, hr⟩ := r.whole (by rw [Try.underlying73]; rfl)
  obtain ⟨hl, hf⟩ := hr.arr Try.underlying73
  rw [cells_rooms] at hl
  have hf' : ∀ ci, Try.prog.cellsOf 3 = ci → ∀ k, k < 2 → Rd Try.prog h 5 3 ((cs.toList.drop (k * ci)).take ci) := by
    rintro _ rfl
    exact hf
  have f0 := hf' 1 cells_int 0 (by decide)
  have f1 := hf' 1 cells_int 1 (by decide)
  obtain ⟨a, b, e⟩ := len2 hl
  rw [e] at f0 f1
  obtain ⟨k0, e0, _⟩ := f0.int Try.underlying3
  obtain ⟨k1, e1, _⟩ := f1.int Try.underlying3
  cases e0
  cases e1
  refine ⟨k0, k1, ?_⟩
  have : cs = #[.int .i64 k0, .int .i64 k1] := by
    apply Array.ext'
    exact e
  rw [this]
theorem bytes_in {h : Heap} {v : Value} (r : RdV Try.prog h 6 23 v) : ∃ b : List UInt8, RB h v b ∧ b.length ≤ 4611686018427387904 := by
  obtain ⟨w, b, e, h1, h2⟩ := (r.cell (by rw [Try.underlying23]; rfl)).bytes Try.underlying23 Try.underlying5 cells_u8 bytes_u8
  cases e
  unfold reachBytes at h2
  exact ⟨b, h1, by omega⟩
end Go.Proofs.Ytiebmncpdnbcjaa

/-
  A file's other name: what is where, plainly.
-/
namespace Go.Dsk
open Go Go.Eng

section
variable {α : Type} {l : List (List UInt8 × α × Nat)} {s t : List UInt8}
theorem getS_del (hn : (l.map (·.1)).Nodup) : getS (delS l s) t = if t = s then none else getS l t := by
  by_cases h : t = s
  · rw [if_pos h, getS_none, del_has hn]
    simp [h]
  · rw [if_neg h]
    cases hg : getS l t with
    | none =>
      rw [getS_none] at hg ⊢
      rw [del_has hn, hg]
      rfl
    | some v =>
      obtain ⟨b, hb⟩ := get_mem hg
      have h1 : (t, v, b) ∈ delS l s := (del_names hn (t, v, b)).2 ⟨hb, h⟩
      exact mem_get (hn.sublist ((del_sub l s).map _)) h1
end
section
variable {l : FL} {s t : List UInt8} {f : File} {c : Nat}
theorem getS_putD (hn : (l.map (·.1)).Nodup) : getS (putD l s f c) t = if t = s then some f else getS l t := by
  unfold putD
  rw [getS_push, getS_del hn]
  by_cases h : t = s
  · subst h; simp
  · rw [if_neg h, if_neg h, if_neg fun e => h e.symm]
    simp
theorem used_putD : used (putD l s f c) = used (delS l s) + (allF f).length := by
  unfold putD
  exact used_push _ _ _ _
theorem putD_nodup (hn : (l.map (·.1)).Nodup) : ((putD l s f c).map (·.1)).Nodup := by
  unfold putD
  rw [List.map_append]
  have h1 : ((delS l s).map (·.1)).Nodup := hn.sublist ((del_sub l s).map _)
  refine List.nodup_append.2 ⟨h1, by simp, fun a ha b hb => ?_⟩
  have hb' : b = s := by simpa using hb
  subst hb'
  rintro rfl
  have := has_mem.2 ha
  rw [del_has hn] at this
  simp at this
theorem has_getS {α : Type} {l : List (List UInt8 × α × Nat)} {s : List UInt8} : hasS l s = (getS l s).isSome := by
  cases hg : getS l s with
  | none => exact getS_none.1 hg
  | some v =>
    cases hh : hasS l s with
    | true => rfl
    | false => rw [getS_none.2 hh] at hg; cases hg
theorem fileOf_del (hn : (l.map (·.1)).Nodup) (h : t ≠ s) : fileOf (delS l s) t = fileOf l t := by
  unfold fileOf
  rw [getS_del hn, if_neg h]
/-- What a file's other name does. -/
theorem move_facts (hn : (l.map (·.1)).Nodup) (_hs : hasS l s = true) (hst : s ≠ t) (c : Nat) :
    hasS (putD (delS l s) t (fileOf l s) c) t = true ∧ fileOf (putD (delS l s) t (fileOf l s) c) t = fileOf l s ∧ used (putD (delS l s) t (fileOf l s) c) + (allF (fileOf l t)).length = used l ∧
      hasS (putD (delS l s) t (fileOf l s) c) s = false := by
  have hn1 : ((delS l s).map (·.1)).Nodup := hn.sublist ((del_sub l s).map _)
  refine ⟨?_, ?_, ?_, ?_⟩
  · rw [has_getS, getS_putD hn1, if_pos rfl]; rfl
  · unfold fileOf
    rw [getS_putD hn1, if_pos rfl]; rfl
  · rw [used_putD]
    have h1 := used_del l s
    have h2 := used_del (delS l s) t
    have h3 := fileOf_del hn (Ne.symm hst)
    unfold fileOf at h3 ⊢
    rw [h3] at h2
    omega
  · rw [has_getS, getS_putD hn1, if_neg hst, getS_del hn, if_pos rfl]; rfl
/-- Named back: all but the one in whose place it was. -/
theorem move_back (hn : (l.map (·.1)).Nodup) (hs : hasS l s = true) (hst : s ≠ t) (c c1 : Nat) (x : List UInt8) :
    getS (putD (delS (putD (delS l s) t (fileOf l s) c) t) s (fileOf (putD (delS l s) t (fileOf l s) c) t) c1) x = getS (delS l t) x := by
  have hn1 : ((delS l s).map (·.1)).Nodup := hn.sublist ((del_sub l s).map _)
  have hn2 := putD_nodup (s := t) (f := fileOf l s) (c := c) hn1
  have hn3 : ((delS (putD (delS l s) t (fileOf l s) c) t).map (·.1)).Nodup := hn2.sublist ((del_sub _ t).map _)
  obtain ⟨_, h2, _, _⟩ := move_facts hn hs hst c
  rw [getS_putD hn3, h2, getS_del hn2, getS_putD hn1, getS_del hn, getS_del hn]
  by_cases h1 : x = s
  · subst h1
    rw [if_pos rfl, if_neg hst]
    rw [has_getS] at hs
    obtain ⟨f, hf⟩ := Option.isSome_iff_exists.1 hs
    unfold fileOf
    rw [hf]
    rfl
  · rw [if_neg h1]
    by_cases h3 : x = t
    · rw [if_pos h3, if_pos h3]
    · rw [if_neg h3, if_neg h3, if_neg h3, if_neg h1]
end
end Go.Dsk

/-
  What a step leaves of a file that it does not name.
-/
namespace Go.Dsk
open Go Go.Eng

section
variable {F : List RF} {room : Nat} {s : List UInt8} {y : RF}
theorem name_inj (hn : (F.map (·.1)).Nodup) {i j : Nat} {x y : RF} (hi : F[i]? = some x) (hj : F[j]? = some y) (he : x.1 = y.1) : i = j := by
  have h1 : (F.map (·.1))[i]? = some x.1 := by rw [List.getElem?_map, hi]; rfl
  have h2 : (F.map (·.1))[j]? = some x.1 := by rw [List.getElem?_map, hj, he]; rfl
  have hil := (List.getElem?_eq_some_iff.1 h1).1
  have e := h1.trans h2.symm
  exact (List.getElem?_inj hil hn).1 e
theorem mem_set_other {i j : Nat} {z : RF} (hj : F[j]? = some y) (hij : i ≠ j) : y ∈ F.set i z :=
  List.mem_of_getElem? (i := j) (by rw [List.getElem?_set_ne hij]; exact hj)
theorem mem_drop_other {k j : Nat} (hj : F[j]? = some y) (hk : k < F.length) (hkj : j ≠ k) : y ∈ dropR F k :=
  (dropR_perm hk).mem_iff.2 (List.mem_eraseIdx_iff_getElem?.2 ⟨j, hkj, hj⟩)
/-- What a file has behind a step: what lasted, lasts; what is there is a beginning of what was, and of what was appended. -/
theorem hold_step (hn : (F.map (·.1)).Nodup) (hy : y ∈ F) (hs : y.1 = s) (x : StepM) (h2 : ¬ (x.kind = 2 ∧ x.a = s)) (h3 : ¬ (2 < x.kind ∧ x.kind < 5 ∧ (x.a = s ∨ x.b = s))) :
    ∃ z ∈ stepF room F x, z.1 = s ∧ y.2.1 <+: z.2.1 ∧ (z.2.1 ++ z.2.2) <+: (y.2.1 ++ y.2.2 ++ (if x.kind = 1 ∧ x.a = s then x.data else [])) := by
  obtain ⟨j, hj⟩ := List.getElem?_of_mem hy
  have other : ∀ {G : List RF}, y ∈ G → ∃ z ∈ G, z.1 = s ∧ y.2.1 <+: z.2.1 ∧ (z.2.1 ++ z.2.2) <+: (y.2.1 ++ y.2.2 ++ (if x.kind = 1 ∧ x.a = s then x.data else [])) :=
    fun hG => ⟨y, hG, hs, List.prefix_refl _, List.prefix_append _ _⟩
  unfold stepF
  by_cases k1 : x.kind = 1
  · rw [if_pos k1]
    unfold appR
    split
    · exact other hy
    · split
      · exact other (List.mem_append_left _ hy)
      · rename_i i hi
        obtain ⟨w, hw, hwa⟩ := seekN_at hi
        rw [hw]
        simp only
        by_cases ha : x.a = s
        · have hij := name_inj hn hw hj (by rw [hwa, ha, hs])
          subst hij
          rw [hj] at hw
          cases hw
          have hil := (List.getElem?_eq_some_iff.1 hj).1
          refine ⟨(y.1, y.2.1, y.2.2 ++ x.data), List.mem_of_getElem? (i := i) (by rw [List.getElem?_set_self hil]), hs, List.prefix_refl _, ?_⟩
          rw [if_pos ⟨k1, ha⟩, List.append_assoc]
          exact List.prefix_refl _
        · refine other (mem_set_other hj ?_)
          rintro rfl
          rw [hj] at hw
          cases hw
          exact ha (hwa.symm.trans hs)
  rw [if_neg k1]
  by_cases k2 : x.kind = 2
  · rw [if_pos k2]
    have ha : x.a ≠ s := fun e => h2 ⟨k2, e⟩
    unfold syncR
    split
    · split
      · rename_i i hi
        obtain ⟨w, hw, hwa⟩ := seekN_at hi
        rw [hw]
        simp only
        refine other (mem_set_other hj ?_)
        rintro rfl
        rw [hj] at hw
        cases hw
        exact ha (hwa.symm.trans hs)
      · exact other hy
    · exact other hy
  rw [if_neg k2]
  by_cases k3 : x.kind = 3
  · rw [if_pos k3]
    have ha : x.a ≠ s := fun e => h3 ⟨by omega, by omega, .inl e⟩
    have hb : x.b ≠ s := fun e => h3 ⟨by omega, by omega, .inr e⟩
    unfold renR
    split
    · split
      · rename_i i hi
        obtain ⟨w, hw, hwa⟩ := seekN_at hi
        rw [hw]
        simp only
        have hij : i ≠ j := by
          rintro rfl
          rw [hj] at hw
          cases hw
          exact ha (hwa.symm.trans hs)
        have hj2 : (F.set i (x.b, w.2.1, w.2.2))[j]? = some y := by rw [List.getElem?_set_ne hij]; exact hj
        split
        · rename_i k hk
          obtain ⟨u, hu, hua⟩ := seekN_at hk
          have hkl := (List.getElem?_eq_some_iff.1 hu).1
          refine other (mem_drop_other hj2 (by simpa using hkl) ?_)
          rintro rfl
          rw [hj] at hu
          cases hu
          exact hb (hua.symm.trans hs)
        · exact other (List.mem_of_getElem? hj2)
      · exact other hy
    · exact other hy
  rw [if_neg k3]
  by_cases k4 : x.kind = 4
  · rw [if_pos k4]
    have ha : x.a ≠ s := fun e => h3 ⟨by omega, by omega, .inl e⟩
    unfold remR
    split
    · split
      · rename_i i hi
        obtain ⟨w, hw, hwa⟩ := seekN_at hi
        have hkl := (List.getElem?_eq_some_iff.1 hw).1
        refine other (mem_drop_other hj hkl ?_)
        rintro rfl
        rw [hj] at hw
        cases hw
        exact ha (hwa.symm.trans hs)
      · exact other hy
    · exact other hy
  rw [if_neg k4]
  by_cases k5 : x.kind = 5
  · rw [if_pos k5]
    split
    · refine ⟨cutR x.keep y, List.mem_map_of_mem hy, hs, List.prefix_append _ _, ?_⟩
      rw [if_neg (by omega)]
      unfold cutR
      simp only [List.append_nil]
      exact (List.prefix_append_right_inj _).2 (List.take_prefix _ _)
    · exact other hy
  · rw [if_neg k5]
    exact other hy
end
end Go.Dsk

/-
  Two disks with the same files, plainly.
-/
namespace Go.Dsk
open Go Go.Eng

theorem perm_of_sub {α : Type} [DecidableEq α] : ∀ {a b : List α}, a.Nodup → (∀ x ∈ a, x ∈ b) → a.length = b.length → a.Perm b
  | [], b, _, _, h => by
    have : b = [] := List.eq_nil_of_length_eq_zero (by simpa using h.symm)
    subst this
    exact List.Perm.refl _
  | x :: a, b, hn, hs, hl => by
    have hx := hs x (by simp)
    have hp := List.perm_cons_erase hx
    have hn2 := List.nodup_cons.1 hn
    refine (List.Perm.cons x (perm_of_sub hn2.2 (fun y hy => ?_) ?_)).trans hp.symm
    · have hne : y ≠ x := fun e => hn2.1 (e ▸ hy)
      exact (List.mem_erase_of_ne hne).2 (hs y (List.mem_cons_of_mem _ hy))
    · have := hp.length_eq
      simp only [List.length_cons] at this hl
      omega
section
variable {l l' : FL}
theorem same_yes (hn : (l.map (·.1)).Nodup) (hl : l.length = l'.length) (hn' : (l'.map (·.1)).Nodup) (h : ∀ e ∈ l, getS l' e.1 = some e.2.1) : (flat l).Perm (flat l') := by
  refine perm_of_sub (flat_nodup hn) (fun x hx => ?_) (by simp [flat, hl])
  obtain ⟨e, he, rfl⟩ := List.mem_map.1 hx
  exact (flat_mem hn' e.1 e.2.1).2 (h e he)
theorem same_no (_hn : (l.map (·.1)).Nodup) (hn' : (l'.map (·.1)).Nodup) {e : List UInt8 × File × Nat} (he : e ∈ l) (h : getS l' e.1 ≠ some e.2.1) : ¬ (flat l).Perm (flat l') := fun p =>
  h ((flat_mem hn' e.1 e.2.1).1 (p.mem_iff.1 (List.mem_map.2 ⟨e, he, rfl⟩)))
theorem same_len (p : (flat l).Perm (flat l')) : l.length = l'.length := by
  have := p.length_eq
  simpa [flat] using this
theorem same_of_get (hn : (l.map (·.1)).Nodup) (hn' : (l'.map (·.1)).Nodup) (h : ∀ s, getS l s = getS l' s) : (flat l).Perm (flat l') := by
  refine (List.perm_ext_iff_of_nodup (flat_nodup hn) (flat_nodup hn')).2 fun x => ?_
  obtain ⟨s, a, b⟩ := x
  have h1 := flat_mem hn s (a, b)
  have h2 := flat_mem hn' s (a, b)
  rw [h1, h2, h]
theorem getS_of_has {s : List UInt8} (h : hasS l s = true) : getS l s = some (fileOf l s) := by
  cases hg : getS l s with
  | none => rw [getS_none.1 hg] at h; cases h
  | some f => unfold fileOf; rw [hg]; rfl
end
end Go.Dsk

/-
  What a crash keeps, of one file and of the others, plainly.
-/
namespace Go.Dsk
open Go Go.Eng

section
variable {F : List RF} {s : List UInt8} {n : Int} {x : RF}
theorem eR_seek {i : Nat} (hg : goodN s = true) (h : seekN F s = some i) : eR F s = 0 := by
  unfold eR
  rw [hg, h]
  rfl
theorem bad_one (hg : goodN s = true) (hn : 0 ≤ n) : badK [(s, n)] = false := by
  unfold badK
  rw [hg]
  have : decide (n < 0) = false := decide_eq_false (by omega)
  simp [this, badK]
theorem crashE_one {i : Nat} (hg : goodN s = true) (h : seekN F s = some i) (hn : 0 ≤ n) : crashE F [(s, n)] = 0 := by
  unfold crashE
  rw [bad_one hg hn]
  unfold missK
  simp [eR_seek hg h]
theorem told_one : told [(s, n)] s = n := by simp [told]
theorem told_other {t : List UInt8} (h : t ≠ s) : told [(s, n)] t = 0 := by
  have : (s == t) = false := by simpa using fun e => h (Eq.symm e)
  simp [told, this]
theorem cut_other {m : Int} {y : RF} (h : y.1 ≠ s) : cutR [(s, n)] y = cutR [(s, m)] y := by
  unfold cutR
  rw [told_other h, told_other h]
theorem crash_one (hx : x ∈ F) (hs : x.1 = s) : (s, x.2.1 ++ x.2.2.take (min n x.2.2.length).toNat, []) ∈ crashL F [(s, n)] := by
  refine List.mem_map.2 ⟨x, hx, ?_⟩
  unfold cutR
  rw [hs, told_one]
/-- But for that one file, both crashes leave the same. -/
theorem crash_same {la lb : FL} {m : Int} (ha : Sm la (crashL F [(s, n)])) (hb : Sm lb (crashL F [(s, m)])) (na : (la.map (·.1)).Nodup) (nb : (lb.map (·.1)).Nodup) {t : List UInt8} (ht : t ≠ s) : getS la t = getS lb t := by
  apply Option.ext
  intro f
  rw [← flat_mem na t f, ← flat_mem nb t f, ha.mem_iff, hb.mem_iff]
  unfold crashL
  rw [List.mem_map, List.mem_map]
  constructor
  · rintro ⟨y, hy, e⟩
    have h1 : y.1 = t := congrArg (·.1) e
    exact ⟨y, hy, by rw [← e]; exact (cut_other (by rw [h1]; exact ht))⟩
  · rintro ⟨y, hy, e⟩
    have h1 : y.1 = t := congrArg (·.1) e
    exact ⟨y, hy, by rw [← e]; exact (cut_other (by rw [h1]; exact ht))⟩
/-- All that is loose, told. -/
abbrev allK (G : List RF) : List Kp1 := G.map fun f => (f.1, (f.2.2.length : Int))
theorem allK_bad : ∀ {G : List RF}, (G.map (·.1)).Nodup → (∀ f ∈ G, goodN f.1 = true) → badK (allK G) = false
  | [], _, _ => rfl
  | f :: G, hn, hg => by
    have h1 := hg f (by simp)
    have h2 := allK_bad (List.nodup_cons.1 hn).2 fun g hg' => hg g (List.mem_cons_of_mem _ hg')
    have h3 : (allK G).any (fun y => y.1 == f.1) = false := by
      rw [List.any_eq_false]
      intro y hy
      obtain ⟨g, hg', rfl⟩ := List.mem_map.1 hy
      have h5 : f.1 ∉ G.map (·.1) := (List.nodup_cons.1 hn).1
      have h6 : g.1 ∈ G.map (·.1) := List.mem_map_of_mem hg'
      simp only [beq_iff_eq]
      exact fun e => h5 (e ▸ h6)
    show badK ((f.1, (f.2.2.length : Int)) :: allK G) = false
    unfold badK
    have h4 : decide ((f.2.2.length : Int) < 0) = false := decide_eq_false (by omega)
    simp only [h1, h4, Bool.not_true, Bool.or_self, Bool.false_or, h2, Bool.or_false]
    exact h3
theorem allK_told : ∀ {G : List RF}, (G.map (·.1)).Nodup → ∀ f ∈ G, told (allK G) f.1 = f.2.2.length
  | g :: G, hn, f, hf => by
    unfold told
    rcases List.mem_cons.1 hf with rfl | hf
    · simp [allK]
    · have hne : (g.1 == f.1) = false := by
        have h5 : g.1 ∉ G.map (·.1) := (List.nodup_cons.1 hn).1
        have h6 : f.1 ∈ G.map (·.1) := List.mem_map_of_mem hf
        have h7 : g.1 ≠ f.1 := fun e => h5 (by rw [e]; exact h6)
        simpa using h7
      have := allK_told (List.nodup_cons.1 hn).2 f hf
      unfold told at this
      simp only [allK, List.map_cons, List.find?_cons, hne] at this ⊢
      exact this
theorem allK_miss {G : List RF} (hg : ∀ f ∈ G, goodN f.1 = true) (hp : G.Perm F) : missK F (allK G) = false := by
  unfold missK
  rw [List.any_eq_false]
  intro y hy
  obtain ⟨g, hg', rfl⟩ := List.mem_map.1 hy
  have h1 : (seekN F g.1).isSome = true := (seekN_some F g.1).2 (List.mem_map_of_mem (hp.mem_iff.1 hg'))
  obtain ⟨i, hi⟩ := Option.isSome_iff_exists.1 h1
  rw [eR_seek (hg g hg') hi]
  decide
theorem allK_crash {G : List RF} (hn : (G.map (·.1)).Nodup) (hg : ∀ f ∈ G, goodN f.1 = true) (hp : G.Perm F) : crashE F (allK G) = 0 := by
  unfold crashE
  rw [allK_bad hn hg, allK_miss hg hp]
  rfl
theorem crash_bare (hx : x ∈ F) : (x.1, x.2.1, []) ∈ crashL F [] := by
  refine List.mem_map.2 ⟨x, hx, ?_⟩
  have : (min (0 : Int) x.2.2.length).toNat = 0 := by omega
  simp [cutR, told, this]
theorem crash_full {G : List RF} (hn : (G.map (·.1)).Nodup) (hp : G.Perm F) (hx : x ∈ G) : (x.1, x.2.1 ++ x.2.2, []) ∈ crashL F (allK G) := by
  refine List.mem_map.2 ⟨x, hp.mem_iff.1 hx, ?_⟩
  unfold cutR
  rw [allK_told hn x hx]
  have : (min (x.2.2.length : Int) x.2.2.length).toNat = x.2.2.length := by omega
  rw [this, List.take_length]
end
end Go.Dsk
