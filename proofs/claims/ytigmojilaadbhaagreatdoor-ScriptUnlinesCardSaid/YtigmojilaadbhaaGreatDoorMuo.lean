/-
  Texts of one claim, merged: 6 parts.
-/
import Derived.Test.YtigmojilaadbhaaGreatDoorMun
import Derived.Test.YtigmojilaadbhaaGreatDoorMui
import Derived.Test.YtigmojilaadbhaaGreatDoorMue
set_option maxHeartbeats 16000000
/- . -/
namespace Go.Proofs.YtigmojilaadbhaaGreatDoor
open Go Go.Eng Go.Pln Go.Lib
attribute [local irreducible] AWp AL DAL AOp
instance qc5 : FnC Tryz.prog 72 := ⟨Tryz.f72, Tryz.func72, by kernel_rfl, by kernel_rfl⟩
instance qb9 : FnC Tryz.prog 76 := ⟨Tryz.f76, Tryz.func76, by kernel_rfl, by kernel_rfl⟩
instance qck : FnC Tryz.prog 114 := ⟨Tryz.f114, Tryz.func114, by kernel_rfl, by kernel_rfl⟩
def RG (h : Heap) (vg : Value) (gs : List (List Int)) : Prop :=
 ∃ vs, RS h vg vs ∧ vs.length = gs.length ∧ gs.length ≤ 140737488351232 ∧ ∀ (k : Nat) v g, vs[k]? = some v → gs[k]? = some g → RS h v (iv64 g) ∧ g.length ≤ 140737488351232
theorem RG.ext {h h' : Heap} {vg : Value} {gs : List (List Int)} (r : RG h vg gs) (hx : Ext h h') : RG h' vg gs := by
 obtain ⟨vs, h1, h2, h3, h4⟩ := r
 exact ⟨vs, h1.ext hx, h2, h3, fun k v g hv hg => ⟨(h4 k v g hv hg).1.ext hx, (h4 k v g hv hg).2⟩⟩
theorem bad_c (b : Nat) (vg : Value) (x : SetM) (v : Value) (l : List Int) (h : Heap) (hb : h.get b = some ⟨setC vg x, 24, true⟩) (hn : 1 ≤ x.nodes ∧ x.nodes ≤ 5) (r : RS h v (iv64 l)) (hl : l.length ≤ 140737488351232) :
  ACalls Tryz.prog 72 [v, ptr b] h fun u h' => u = .bool (!mayGroup x.nodes l) ∧ h' = h := by
 refine ACalls.body Tryz.func72 rfl rfl ?_
 repeat (first | refine W.w ?_ | (refine zz rfl ?_; first | refine qaa rfl ?_ | refine qao rfl ?_ | refine qaf rfl rfl hb rfl ?_ | refine qab rfl rfl (qeR x.nodes v l h r hn hl) ?_ | refine qaL rfl ?_ | refine qal (by conv => lhs; whnf) ?_))
 exact ⟨_, ResV.tmp rfl, rfl, rfl⟩
abbrev badV (b : Nat) : Value := .func (.func 72) #[] #[ptr b]
theorem qec {α : Type} {p : α → Bool} {l : List α} {k : Nat} {x : α} (hx : l[k]? = some x) : (l.take (k + 1)).all p = ((l.take k).all p && p x) := by
 rw [List.take_add_one, hx, List.all_append]
 simp
theorem qgs {α : Type} {p : α → Bool} {l : List α} {k : Nat} {x : α} (hx : l[k]? = some x) (hp : p x = false) : l.all p = false := by
 cases ha : l.all p with
 | false => rfl
 | true =>
  have := List.all_eq_true.1 ha x (List.mem_of_getElem? hx)
  rw [hp] at this
  cases this
theorem index_f (b : Nat) (vg : Value) (x : SetM) (gs : List (List Int)) (h : Heap) (hb : h.get b = some ⟨setC vg x, 24, true⟩) (hn : 1 ≤ x.nodes ∧ x.nodes ≤ 5) (r : RG h vg gs) :
  ACalls Tryz.prog 114 [vg, badV b] h fun u h' => ∃ z : Int, u = .int .i64 z ∧ decide (0 ≤ z) = !gs.all (mayGroup x.nodes) ∧ h' = h := by
 refine ACalls.body Tryz.func114 rfl rfl ?_
 obtain ⟨vs, r1, r2, r3, r4⟩ := r
 repeat (first | refine W.w ?_ | (refine zz rfl ?_; first | refine qac rfl ?_ | refine qad rfl ?_ | refine qaS r1 rfl ?_ | refine qal (by conv => lhs; whnf) ?_))
 refine AWp.loop (α := Nat) (fun k => [(0, vg), (1, badV b), (7, .int .i64 (vs.length : Nat)), (8, .int .i64 (k : Nat))]) (fun _ => h) (fun k => k ≤ gs.length ∧ (gs.take k).all (mayGroup x.nodes) = true) (fun k => gs.length - k) 0 ⟨Nat.zero_le _, rfl⟩ (Weak.same (EW.cons rfl (EW.cons rfl (EW.cons rfl (EW.cons rfl EW.nil))))) ?_
 rintro k ⟨hk, ha⟩
 by_cases hlt : k < gs.length
 ·
  obtain ⟨g, hg⟩ : ∃ g, gs[k]? = some g := ⟨_, List.getElem?_eq_getElem hlt⟩
  obtain ⟨v, hv⟩ : ∃ v, vs[k]? = some v := ⟨_, List.getElem?_eq_getElem (by omega)⟩
  obtain ⟨q1, q2⟩ := r4 k v g hv hg
  have hst := qec (p := mayGroup x.nodes) hg
  rw [ha, Bool.true_and] at hst
  have cb := bad_c b vg x v g h hb hn q1 q2
  repeat (first | refine W.w ?_ | refine AWp.c8 rfl ?_ | (refine zz rfl ?_; first | refine qac rfl ?_ | refine qa4 rfl ?_ | refine qad rfl ?_ | refine qam rfl rfl rfl (by omega) ?_ | refine qbg r1 rfl rfl (by omega) (show vs[((k : Nat) : Int).toNat]? = some v from hv) ?_ | refine qal (by conv => lhs; whnf) ?_))
  intro p hp
  cases hm : mayGroup x.nodes g with
  | true =>
   rw [hm] at cb hst
   repeat (first | refine W.w ?_ | refine AWp.c9 rfl ?_ | (refine zz rfl ?_; first | refine qac rfl ?_ | refine qat hp rfl rfl ?_ | refine qab rfl rfl cb ?_ | refine qas rfl rfl (by omega) ?_))
   exact ⟨k + 1, ⟨hlt, hst⟩, by omega, Weak.same (EW.cons rfl (EW.cons rfl (EW.cons rfl (EW.cons rfl EW.nil))))⟩
  | false =>
   rw [hm] at cb
   repeat (first | refine W.w ?_ | refine AWp.c8 rfl ?_ | (refine zz rfl ?_; first | refine qac rfl ?_ | refine qad rfl ?_ | refine qat hp rfl rfl ?_ | refine qab rfl rfl cb ?_))
   refine ⟨_, ResV.tmp rfl, (k : Nat), rfl, ?_, rfl⟩
   rw [qgs hg hm]
   exact decide_eq_true (by omega)
 ·
  obtain rfl : k = gs.length := by omega
  rw [List.take_length] at ha
  repeat (first | refine AL.nil ?_ | refine AWp.seq ?_ | refine AWp.r9 ?_ | refine AWp.c9 rfl ?_ | refine AWp.ret ?_ | refine AWp.exit ?_ | refine zz rfl (qad rfl ?_) | refine zz rfl (qak rfl rfl rfl (by omega) ?_))
  refine ⟨_, ResV.tmp rfl, -1, rfl, ?_, rfl⟩
  rw [ha]
  rfl
theorem contains_f (b : Nat) (vg : Value) (x : SetM) (gs : List (List Int)) (h : Heap) (hb : h.get b = some ⟨setC vg x, 24, true⟩) (hn : 1 ≤ x.nodes ∧ x.nodes ≤ 5) (r : RG h vg gs) :
  ACalls Tryz.prog 76 [vg, badV b] h fun u h' => u = .bool (!gs.all (mayGroup x.nodes)) ∧ h' = h := by
 refine ACalls.body Tryz.func76 rfl rfl ?_
 repeat (first | refine W.w ?_ | (refine zz rfl ?_; first | refine qa4 rfl ?_ | refine qaa rfl ?_ | refine qal (by conv => lhs; whnf) ?_))
 refine zz rfl (qar rfl rfl ((index_f b vg x gs h hb hn r).mono ?_))
 rintro _ H1 ⟨z, rfl, hz, hH1⟩
 cases hH1.symm
 by_cases h0 : 0 ≤ z
 ·
  repeat (first | refine W.w ?_ | refine zz rfl (qaa rfl ?_) | refine zz rfl (qam rfl rfl rfl (by omega) ?_))
  exact ⟨_, ResV.tmp rfl, by rw [← hz, decide_eq_true h0]; rfl, rfl⟩
 ·
  repeat (first | refine W.w ?_ | refine zz rfl (qaa rfl ?_) | refine zz rfl (qak rfl rfl rfl (by omega) ?_))
  exact ⟨_, ResV.tmp rfl, by rw [← hz, decide_eq_false h0]; rfl, rfl⟩
instance qdz : FnC Tryz.prog 31 := ⟨Tryz.f31, Tryz.func31, by kernel_rfl, by kernel_rfl⟩
theorem maySet_c (x : SetM) (vg : Value) (h : Heap) (r : RG h vg x.groups) : ACalls Tryz.prog 31 [.agg (setC vg x).toArray] h fun u h' => u = .bool (maySet x) ∧ h' = h := by
 refine ACalls.wf fun wf => ACalls.reset ?_
 refine ACalls.body Tryz.func31 rfl rfl ?_
 repeat (first | refine W.w ?_ | refine zz rfl (qaa rfl ?_) | refine zz rfl (qaV rfl (by intro e; cases e) ?_))
 generalize hH : h.alloc _ = H
 have hg : H.get h.next = some ⟨setC vg x, 24, true⟩ := hH ▸ Heap.alloc_new _ _
 have hx : Ext h H := hH ▸ wf.ext _
 have rH := r.ext hx
 obtain ⟨vs, r1, r2, r3, _⟩ := rH
 have hv : vg ≠ undef := (RS.one r1).2
 have cs := sizes_c x vg hv H
 have cw := qcx (vs.length : Nat) 2 5 H
 cases hs : sizesM x with
 | false =>
  rw [hs] at cs
  repeat (first | refine W.w ?_ | refine AL.skip rfl rfl ?_ | (refine zz rfl ?_; first | refine qae rfl ?_ | refine qaa rfl ?_ | refine qaY rfl ?_ | refine qa3 rfl rfl ?_ | refine qaj (sz := 5) rfl rfl hg (Nat.le_refl _) ?_ | refine qab rfl rfl cs ?_ | refine qah (v := .bool _) rfl rfl ?_))
  exact ⟨_, ResV.tmp rfl, rfl, hx, by rw [maySet, hs]; rfl, rfl⟩
 | true =>
  rw [hs] at cs
  have hn : 1 ≤ x.nodes ∧ x.nodes ≤ 5 := by
   have := of_decide_eq_true hs
   omega
  have cc := contains_f h.next vg x x.groups H hg hn (r.ext hx)
  by_cases h1 : 2 ≤ x.groups.length ∧ x.groups.length ≤ 5
  ·
   rw [decide_eq_true (show (2 : Int) ≤ (vs.length : Nat) ∧ ((vs.length : Nat) : Int) ≤ 5 by omega)] at cw
   cases ha : x.groups.all (mayGroup x.nodes) with
   | true =>
    rw [ha] at cc
    repeat (first | refine W.w ?_ | (refine zz rfl ?_; first | refine qae rfl ?_ | refine qa4 rfl ?_ | refine qaa rfl ?_ | refine qaY rfl ?_ | refine qa3 rfl rfl ?_ | refine qaj (sz := 5) rfl rfl hg (Nat.le_refl _) ?_ | refine qab rfl rfl cs ?_ | refine qao rfl ?_ | refine qaf rfl rfl hg rfl ?_ | refine qaS r1 rfl ?_ | refine qab rfl rfl cw ?_ | refine qab rfl rfl cc ?_ | refine qah (v := .bool _) rfl rfl ?_ | refine qaL rfl ?_))
    exact ⟨_, ResV.tmp rfl, rfl, hx, by rw [maySet, hs, ha, decide_eq_true h1]; rfl, rfl⟩
   | false =>
    rw [ha] at cc
    repeat (first | refine W.w ?_ | (refine zz rfl ?_; first | refine qae rfl ?_ | refine qa4 rfl ?_ | refine qaa rfl ?_ | refine qaY rfl ?_ | refine qa3 rfl rfl ?_ | refine qaj (sz := 5) rfl rfl hg (Nat.le_refl _) ?_ | refine qab rfl rfl cs ?_ | refine qao rfl ?_ | refine qaf rfl rfl hg rfl ?_ | refine qaS r1 rfl ?_ | refine qab rfl rfl cw ?_ | refine qab rfl rfl cc ?_ | refine qah (v := .bool _) rfl rfl ?_ | refine qaL rfl ?_))
    exact ⟨_, ResV.tmp rfl, rfl, hx, by rw [maySet, hs, ha, decide_eq_true h1]; rfl, rfl⟩
  ·
   rw [decide_eq_false (show ¬ ((2 : Int) ≤ (vs.length : Nat) ∧ ((vs.length : Nat) : Int) ≤ 5) by omega)] at cw
   repeat (first | refine W.w ?_ | refine AL.skip rfl rfl ?_ | (refine zz rfl ?_; first | refine qae rfl ?_ | refine qaa rfl ?_ | refine qaY rfl ?_ | refine qa3 rfl rfl ?_ | refine qaj (sz := 5) rfl rfl hg (Nat.le_refl _) ?_ | refine qab rfl rfl cs ?_ | refine qao rfl ?_ | refine qaf rfl rfl hg rfl ?_ | refine qaS r1 rfl ?_ | refine qab rfl rfl cw ?_ | refine qah (v := .bool _) rfl rfl ?_))
   exact ⟨_, ResV.tmp rfl, rfl, hx, by rw [maySet, hs, decide_eq_false h1]; rfl, rfl⟩
instance i_mayName1 : FnC Tryz.prog 153 := ⟨Tryz.f153, Tryz.func153, by kernel_rfl, by kernel_rfl⟩
instance i_indexB : FnC Tryz.prog 172 := ⟨Tryz.f172, Tryz.func172, by kernel_rfl, by kernel_rfl⟩
instance i_containsB : FnC Tryz.prog 154 := ⟨Tryz.f154, Tryz.func154, by kernel_rfl, by kernel_rfl⟩
instance i_mayName : FnC Tryz.prog 120 := ⟨Tryz.f120, Tryz.func120, by kernel_rfl, by kernel_rfl⟩
abbrev nameC (c : UInt8) : Bool := decide (33 ≤ c.toNat ∧ c.toNat ≤ 126)
theorem badC_c (c : UInt8) (h : Heap) : ACalls Tryz.prog 153 [.int .u8 (c.toNat : Int)] h fun u h' => u = .bool (!nameC c) ∧ h' = h := by
 refine ACalls.body Tryz.func153 rfl rfl ?_
 repeat' (first | refine W.w ?_ | refine AL.skip rfl rfl ?_ | (refine zz rfl ?_; first | refine qac rfl ?_ | refine qae rfl ?_ | refine qaa rfl ?_ | refine qaQ rfl rfl rfl (fun c => ?_) (fun c => ?_) | refine qah (v := .bool _) rfl rfl ?_))
 all_goals refine ⟨_, ResV.tmp rfl, congrArg Value.bool ?_, rfl⟩
 all_goals grind
abbrev badCV : Value := .func (.func 153) #[] #[]
theorem qb4 {l : Bytes} {k : Nat} {c : UInt8} (hc : l[k]? = some c) {a : Int} (ha : a = (k : Nat)) : (bv l)[a.toNat]? = some (.int .u8 (c.toNat : Int)) := by
 subst ha
 exact qfG l k c hc
theorem indexB_c (v : Value) (l : Bytes) (h : Heap) (r : RB h v l) (hl : l.length ≤ 140737488351232) : ACalls Tryz.prog 172 [v, badCV] h fun u h' => ∃ z : Int, u = .int .i64 z ∧ decide (0 ≤ z) = !l.all nameC ∧ h' = h := by
 refine ACalls.body Tryz.func172 rfl rfl ?_
 obtain ⟨va, vc, hv⟩ := RS.slice r
 repeat (first | refine W.w ?_ | (refine zz rfl ?_; first | refine qac rfl ?_ | refine qad rfl ?_ | refine qaJ r rfl ?_ | refine qal (by conv => lhs; whnf) ?_))
 refine AWp.loop (α := Nat) (fun k => [(0, v), (1, badCV), (7, .int .i64 (l.length : Nat)), (8, .int .i64 (k : Nat))]) (fun _ => h) (fun k => k ≤ l.length ∧ (l.take k).all nameC = true) (fun k => l.length - k) 0 ⟨Nat.zero_le _, rfl⟩ (Weak.same (EW.cons rfl (EW.cons rfl (EW.cons rfl (EW.cons rfl EW.nil))))) ?_
 rintro k ⟨hk, ha⟩
 by_cases hlt : k < l.length
 ·
  obtain ⟨c, hc⟩ : ∃ c, l[k]? = some c := ⟨_, List.getElem?_eq_getElem hlt⟩
  have hst := qec (p := nameC) hc
  rw [ha, Bool.true_and] at hst
  have cb := badC_c c h
  repeat (first | refine W.w ?_ | refine AWp.c8 rfl ?_ | (refine zz rfl ?_; first | refine qac rfl ?_ | refine qa4 rfl ?_ | refine qad rfl ?_ | refine qam rfl rfl rfl (by omega) ?_ | refine qal (v := v) rfl ?_ | refine qbg r rfl rfl (by omega) (qb4 hc rfl) ?_))
  intro p hp
  cases hm : nameC c with
  | true =>
   rw [hm] at cb hst
   repeat (first | refine W.w ?_ | refine AWp.c9 rfl ?_ | (refine zz rfl ?_; first | refine qac rfl ?_ | refine qat hp rfl rfl ?_ | refine qab rfl rfl cb ?_ | refine qas rfl rfl (by omega) ?_))
   exact ⟨k + 1, ⟨hlt, hst⟩, by omega, Weak.same (EW.cons rfl (EW.cons rfl (EW.cons rfl (EW.cons rfl EW.nil))))⟩
  | false =>
   rw [hm] at cb
   repeat (first | refine W.w ?_ | refine AWp.c8 rfl ?_ | (refine zz rfl ?_; first | refine qac rfl ?_ | refine qad rfl ?_ | refine qat hp rfl rfl ?_ | refine qab rfl rfl cb ?_))
   refine ⟨_, ResV.tmp rfl, (k : Nat), rfl, ?_, rfl⟩
   rw [qgs hc hm]
   exact decide_eq_true (by omega)
 ·
  obtain rfl : k = l.length := by omega
  rw [List.take_length] at ha
  repeat (first | refine AL.nil ?_ | refine AWp.seq ?_ | refine AWp.r9 ?_ | refine AWp.c9 rfl ?_ | refine AWp.ret ?_ | refine AWp.exit ?_ | refine zz rfl (qad rfl ?_) | refine zz rfl (qak rfl rfl rfl (by omega) ?_))
  refine ⟨_, ResV.tmp rfl, -1, rfl, ?_, rfl⟩
  rw [ha]
  rfl
theorem qgW (v : Value) (l : Bytes) (h : Heap) (r : RB h v l) (hl : l.length ≤ 140737488351232) : ACalls Tryz.prog 154 [v, badCV] h fun u h' => u = .bool (!l.all nameC) ∧ h' = h := by
 refine ACalls.body Tryz.func154 rfl rfl ?_
 repeat (first | refine W.w ?_ | (refine zz rfl ?_; first | refine qa4 rfl ?_ | refine qaa rfl ?_ | refine qal (v := v) rfl ?_))
 refine zz rfl (qar rfl rfl ((indexB_c v l h r hl).mono ?_))
 rintro _ H1 ⟨z, rfl, hz, hH1⟩
 cases hH1.symm
 by_cases h0 : 0 ≤ z
 ·
  repeat' (first | refine W.w ?_ | refine zz rfl (qaa rfl ?_) | refine zz rfl (qam rfl rfl rfl (by omega) ?_))
  exact ⟨_, ResV.tmp rfl, by rw [← hz, decide_eq_true h0]; rfl, rfl⟩
 ·
  repeat' (first | refine W.w ?_ | refine zz rfl (qaa rfl ?_) | refine zz rfl (qak rfl rfl rfl (by omega) ?_))
  exact ⟨_, ResV.tmp rfl, by rw [← hz, decide_eq_false h0]; rfl, rfl⟩
theorem mayName_c (s : Bytes) (h : Heap) : ACalls Tryz.prog 120 [str s] h fun u h' => u = .bool (nameOk s) ∧ h' = h := by
 refine ACalls.wf fun wf => ACalls.reset ?_
 refine ACalls.body Tryz.func120 rfl rfl ?_
 by_cases hl : 1 ≤ s.length ∧ s.length ≤ 32
 ·
  have gp := Heap.alloc_new h ⟨bv s, 5, true⟩
  have xp := wf.ext ⟨bv s, 5, true⟩
  have rb : RB (h.alloc ⟨bv s, 5, true⟩) (.slice (some ⟨h.next, 0, some 1⟩) s.length (s.length + 1)) s := RS.own gp (qaz s)
  have cc := qgW _ s _ rb (by omega)
  repeat (first | refine W.w ?_ | (refine zz rfl ?_; first | refine qae rfl ?_ | refine qai rfl ?_ | refine qa4 rfl ?_ | refine qaa rfl ?_ | refine qaY rfl ?_ | refine qaI rfl ?_ | refine qab rfl rfl (qbr h (n := (s.length : Nat)) (by omega)) ?_ | refine qhW rfl (by simp only [maxLen]; omega) ?_ | refine qab rfl rfl cc ?_ | refine qah (v := .bool _) rfl rfl ?_ | refine qaL rfl ?_))
  refine ⟨_, ResV.tmp rfl, rfl, xp, congrArg Value.bool ?_, rfl⟩
  rw [nameOk, decide_eq_true hl]
  cases s.all nameC <;> rfl
 ·
  repeat (first | refine W.w ?_ | refine AL.skip rfl rfl ?_ | (refine zz rfl ?_; first | refine qae rfl ?_ | refine qai rfl ?_ | refine qaa rfl ?_ | refine qaY rfl ?_ | refine qaI rfl ?_ | refine qab rfl rfl (qcb h (n := (s.length : Nat)) (by omega)) ?_ | refine qah (v := .bool _) rfl rfl ?_))
  refine ⟨_, ResV.tmp rfl, rfl, Ext.refl h, ?_, rfl⟩
  rw [nameOk, decide_eq_false hl]
  rfl
instance i_mayKeep : FnC Tryz.prog 90 := ⟨Tryz.f90, Tryz.func90, by kernel_rfl, by kernel_rfl⟩
instance qc2 : TyD Tryz.prog 179 (.map 9 180) := ⟨Tryz.underlying179⟩
instance qgo : TyD Tryz.prog 180 (.struct #[fd "is" 4 0 "hectare/script" 0]) := ⟨Tryz.underlying180⟩
instance qf4 : TyI Tryz.prog 180 1 1 (.agg #[.bool false]) := ⟨qaT (by kernel_rfl), rfl, rfl⟩
instance qf5 : StD Tryz.prog 180 [(0, 1)] := ⟨_, Tryz.underlying180, by kernel_rfl⟩
def KAt (p : List (Bytes × Int)) (x : Bytes × Int) : Prop := nameOk x.1 = true ∧ (0 ≤ x.2 ∧ x.2 ≤ 2147483647) ∧ ∀ y ∈ p, y.1 ≠ x.1
theorem qeY : ∀ (l : List (Bytes × Int)) (x : Bytes × Int), keepOk (l ++ [x]) = true ↔ keepOk l = true ∧ KAt l x
 | [], x => by
  simp only [List.nil_append, keepOk, List.any_nil, KAt, Bool.and_eq_true, decide_eq_true_iff]
  simp
 | y :: l, x => by
  have ih := qeY l x
  simp only [List.cons_append, keepOk, Bool.and_eq_true, ih, List.any_append, decide_eq_true_iff, KAt, List.mem_cons]
  simp only [List.any_cons, List.any_nil, Bool.or_false, Bool.not_eq_true', Bool.or_eq_false_iff, beq_eq_false_iff_ne]
  constructor
  ·
   rintro ⟨⟨⟨h1, h2⟩, h3, h4⟩, h5, h6, h7, h8⟩
   refine ⟨⟨⟨⟨h1, h2⟩, h3⟩, h5⟩, h6, h7, ?_⟩
   rintro z (rfl | hz)
   ·
    exact fun e => h4 e.symm
   ·
    exact h8 z hz
  ·
   rintro ⟨⟨⟨⟨h1, h2⟩, h3⟩, h5⟩, h6, h7, h8⟩
   exact ⟨⟨⟨h1, h2⟩, h3, fun e => h8 y (.inl rfl) e.symm⟩, h5, h6, h7, fun z hz => h8 z (.inr hz)⟩
theorem qed {l : List (Bytes × Int)} {k : Nat} {x : Bytes × Int} (hx : l[k]? = some x) (h : keepOk (l.take k) = true) : keepOk (l.take (k + 1)) = true ↔ KAt (l.take k) x := by
 rw [List.take_add_one, hx]
 exact (qeY _ _).trans ⟨fun e => e.2, fun e => ⟨h, e⟩⟩
theorem qeL : ∀ (n : Nat) (l : List (Bytes × Int)), keepOk l = true → keepOk (l.take n) = true
 | 0, _, _ => rfl
 | _ + 1, [], _ => rfl
 | n + 1, x :: l, h => by
  simp only [keepOk, Bool.and_eq_true] at h
  simp only [List.take_succ_cons, keepOk, Bool.and_eq_true]
  refine ⟨⟨h.1.1, ?_⟩, qeL n l h.2⟩
  have h2 := h.1.2
  simp only [Bool.not_eq_true', List.any_eq_false] at h2 ⊢
  exact fun y hy => h2 y (List.mem_of_mem_take hy)
theorem qcM {l : List (Bytes × Int)} {k : Nat} (h : ¬ keepOk (l.take k) = true) : keepOk l = false := by
 cases hb : keepOk l with
 | false => rfl
 | true => exact absurd (qeL k l hb) h
def Seen (kv : KV) (p : List (Bytes × Int)) : Prop := ∀ s : Bytes, (∃ y ∈ p, y.1 = s) ∧ getS kv s = some (.agg #[.bool true]) ∨ (∀ y ∈ p, y.1 ≠ s) ∧ getS kv s = none
theorem qbB {α : Type} (s t : List UInt8) (v : α) (c : Nat) : ∀ l : List (List UInt8 × α × Nat), getS (putS l s v c) t = if s = t then some v else getS l t
 | [] => by
  unfold putS getS
  by_cases h : s = t
  ·
   simp [h]
  ·
   simp [h]
 | e :: l => by
  have ih := qbB s t v c l
  unfold putS
  by_cases he : e.1 == s
  ·
   rw [if_pos he]
   have he' : e.1 = s := by simpa using he
   unfold getS
   by_cases h : s = t
   ·
    simp [he', h]
   ·
    have h2 : ¬ e.1 = t := fun x => h (he'.symm.trans x)
    simp [h, h2]
  ·
   rw [if_neg he]
   unfold getS at ih ⊢
   by_cases h : e.1 = t
   ·
    have hst : ¬ s = t := fun x => he (by simp [h, x])
    simp [h, hst]
   ·
    simp only [List.find?_cons, beq_eq_false_iff_ne.2 h]
    exact ih
theorem Seen.put {kv : KV} {p : List (Bytes × Int)} (s : Seen kv p) (x : Bytes × Int) (c : Nat) : Seen (putS kv x.1 (.agg #[.bool true]) c) (p ++ [x]) := by
 intro t
 rw [qbB]
 by_cases h : x.1 = t
 ·
  rw [if_pos h]
  exact .inl ⟨⟨x, by simp, h⟩, rfl⟩
 ·
  rw [if_neg h]
  rcases s t with ⟨⟨y, h1, h2⟩, h3⟩ | ⟨h1, h2⟩
  ·
   exact .inl ⟨⟨y, by simp [h1], h2⟩, h3⟩
  ·
   refine .inr ⟨fun y hy => ?_, h2⟩
   rcases List.mem_append.1 hy with hy | hy
   ·
    exact h1 y hy
   ·
    rw [List.mem_singleton.1 hy]; exact h
abbrev keptB (x : Bytes × Int) : Blk := ⟨keptR x, 79, true⟩
theorem mayKeep_c (v : Value) (l : List (Bytes × Int)) (h : Heap) (r : RK h v l) : ACalls Tryz.prog 90 [v] h fun u h' => u = .bool (keepOk l && decide (l.length ≤ 128)) ∧ h' = h := by
 refine ACalls.wf fun wf => ACalls.reset ?_
 refine ACalls.body Tryz.func90 rfl rfl ?_
 have r1 := r.rn
 have hlen := r.len
 have hml : (l.map keptR).length = l.length := List.length_map _
 obtain ⟨va, vc, hv⟩ := r1.slice
 repeat (first | refine W.w ?_ | (refine zz rfl ?_; first | refine qaa rfl ?_ | refine qc8 ?_ | refine qal (by conv => lhs; whnf) ?_ | refine qaq (by conv => lhs; whnf) ?_))
 have go := Heap.allocO_new h (.map (ents []) 0)
 have xo := wf.extO (.map (ents []) 0)
 have wo := wf.allocO (.map (ents []) 0)
 generalize h.allocO (.map (ents []) 0) = H0 at go xo wo ⊢
 repeat (first | refine W.w ?_ | refine zz rfl (qac rfl ?_) | refine zz rfl (qaB (r1.ext xo) rfl ?_))
 refine AWp.loop (α := Nat × Heap × KV × Nat) (fun d => [(0, v), (3, .map (some h.next)), (7, v), (8, .int .i64 ((l.map keptR).length : Nat)), (9, .int .i64 (d.1 : Nat))]) (fun d => d.2.1)
  (fun d => d.1 ≤ l.length ∧ keepOk (l.take d.1) = true ∧ Ext h d.2.1 ∧ WF d.2.1 ∧ d.2.1.obj h.next = some (.map (ents d.2.2.1) d.2.2.2) ∧ Seen d.2.2.1 (l.take d.1)) (fun d => l.length - d.1) (0, H0, [], 0)
  ⟨Nat.zero_le _, rfl, xo, wo, go, fun s => .inr ⟨fun y hy => by simp at hy, rfl⟩⟩ (Weak.same (EW.cons rfl (EW.cons rfl (EW.cons rfl (EW.cons rfl (EW.cons rfl EW.nil)))))) ?_
 rintro ⟨k, H, kv, ck⟩ ⟨hk, hok, hx, wfH, hm, hs⟩
 replace hk : k ≤ l.length := hk
 replace hok : keepOk (l.take k) = true := hok
 replace hx : Ext h H := hx
 replace wfH : WF H := wfH
 replace hm : H.obj h.next = some (.map (ents kv) ck) := hm
 replace hs : Seen kv (l.take k) := hs
 show AWp _ _ _ _ [(0, v), (3, .map (some h.next)), (7, v), (8, .int .i64 ((l.map keptR).length : Nat)), (9, .int .i64 (k : Nat))] H
 by_cases hlt : k < l.length
 ·
  obtain ⟨x, hxa⟩ : ∃ x, l[k]? = some x := ⟨_, List.getElem?_eq_getElem hlt⟩
  have hx2 : (l.map keptR)[((k : Nat) : Int).toNat]? = some (keptR x) := by simp [hxa]
  have px := (r1.ext hx).elt hx2
  have hst := qed hxa hok
  repeat (first | refine W.w ?_ | refine AWp.c8 rfl ?_ | refine AL.eff rfl (qaE (vs := keptR x) rfl rfl rfl rfl rfl ?_) | (refine zz rfl ?_; first | refine qam rfl rfl rfl (by omega) ?_ | refine qaG (r1.ext hx) rfl rfl (by omega) hx2 ?_ | refine qa1 px rfl rfl rfl ?_ | refine qaw ?_ | refine qal (by conv => lhs; whnf) ?_))
  have hg := Heap.alloc_new H (keptB x)
  have x1 := wfH.ext (keptB x)
  have wf1 := wfH.alloc (keptB x)
  have hm1 := x1.o _ _ hm
  have hxx := hx.trans x1
  generalize H.alloc (keptB x) = H1 at hg x1 wf1 hm1 hxx ⊢
  have cn := mayName_c x.1 H1
  have cw := qcx x.2 0 2147483647 H1
  rcases hs x.1 with ⟨⟨y, hy1, hy2⟩, hgs⟩ | ⟨hno, hgs⟩
  ·
   have hcn : ¬ KAt (l.take k) x := fun e => e.2.2 y hy1 hy2
   repeat (first | refine W.w ?_ | refine AL.skip rfl rfl ?_ | refine AWp.c8 rfl ?_ | (refine zz rfl ?_; first | refine qae rfl ?_ | refine qaa rfl ?_ | refine qao rfl ?_ | refine qaf rfl rfl hg rfl ?_ | refine qa7 (u := .agg #[.bool true]) rfl rfl hm1 (by simp [plainV, scalar]) (by rw [hgs]; rfl) ?_ | refine qdL (fld := fd "is" 4 0 "hectare/script" 0) (d := .bool) (v := .bool true) rfl rfl rfl rfl ?_ | refine qah (v := .bool _) rfl rfl ?_))
   refine ⟨_, ResV.tmp rfl, rfl, hxx, congrArg Value.bool ?_, rfl⟩
   rw [qcM (k := k + 1) (fun e => hcn (hst.1 e))]
   rfl
  ·
   cases hn : nameOk x.1 with
   | false =>
    rw [hn] at cn
    have hcn : ¬ KAt (l.take k) x := fun e => by rw [e.1] at hn; cases hn
    repeat (first | refine W.w ?_ | refine AL.skip rfl rfl ?_ | refine AWp.c8 rfl ?_ | (refine zz rfl ?_; first | refine qae rfl ?_ | refine qaa rfl ?_ | refine qao rfl ?_ | refine qaf rfl rfl hg rfl ?_ | refine qa7 (u := .agg #[.bool false]) rfl rfl hm1 (by simp [plainV, scalar]) (by rw [hgs]; rfl) ?_ | refine qdL (fld := fd "is" 4 0 "hectare/script" 0) (d := .bool) (v := .bool false) rfl rfl rfl rfl ?_ | refine qab rfl rfl cn ?_ | refine qah (v := .bool _) rfl rfl ?_ | refine qaL rfl ?_))
    refine ⟨_, ResV.tmp rfl, rfl, hxx, congrArg Value.bool ?_, rfl⟩
    rw [qcM (k := k + 1) (fun e => hcn (hst.1 e))]
    rfl
   | true =>
    rw [hn] at cn
    by_cases hw : 0 ≤ x.2 ∧ x.2 ≤ 2147483647
    ·
     rw [decide_eq_true hw] at cw
     repeat (first | refine W.w ?_ | refine AWp.c9 rfl ?_ | refine AL.eff rfl (qfN (u := .agg #[.bool true]) (l := kv) rfl rfl rfl hm1 ?_) | (refine zz rfl ?_; first | refine qac rfl ?_ | refine qae rfl ?_ | refine qao rfl ?_ | refine qaf rfl rfl hg rfl ?_ | refine qal (v := .map (some h.next)) rfl ?_ | refine qa7 (u := .agg #[.bool false]) rfl rfl hm1 (by simp [plainV, scalar]) (by rw [hgs]; rfl) ?_ | refine qdL (fld := fd "is" 4 0 "hectare/script" 0) (d := .bool) (v := .bool false) rfl rfl rfl rfl ?_ | refine qab rfl rfl cn ?_ | refine qab rfl rfl cw ?_ | refine qah (v := .bool _) rfl rfl ?_ | refine qax (out := [.bool true]) rfl rfl ?_ | refine qas rfl rfl (by omega) ?_ | refine qaL rfl ?_))
     refine ⟨(k + 1, H1.setO h.next (.map (ents (putS kv x.1 (.agg #[.bool true]) ck)) (if hasS kv x.1 then ck else ck + 1)), putS kv x.1 (.agg #[.bool true]) ck, if hasS kv x.1 then ck else ck + 1), ⟨hlt, hst.2 ⟨hn, hw, hno⟩, wf.ext_setO hxx (Nat.le_refl _) _, wf1.setO (wf1.ltO hm1) _, Heap.setO_at _ _ _, ?_⟩, by show l.length - (k + 1) < l.length - k; omega, Weak.same (EW.cons rfl (EW.cons rfl (EW.cons rfl (EW.cons rfl (EW.cons rfl EW.nil)))))⟩
     show Seen _ (l.take (k + 1))
     rw [List.take_add_one, hxa]
     exact hs.put x ck
    ·
     rw [decide_eq_false hw] at cw
     have hcn : ¬ KAt (l.take k) x := fun e => hw e.2.1
     repeat (first | refine W.w ?_ | refine AWp.c8 rfl ?_ | (refine zz rfl ?_; first | refine qae rfl ?_ | refine qaa rfl ?_ | refine qao rfl ?_ | refine qaf rfl rfl hg rfl ?_ | refine qa7 (u := .agg #[.bool false]) rfl rfl hm1 (by simp [plainV, scalar]) (by rw [hgs]; rfl) ?_ | refine qdL (fld := fd "is" 4 0 "hectare/script" 0) (d := .bool) (v := .bool false) rfl rfl rfl rfl ?_ | refine qab rfl rfl cn ?_ | refine qab rfl rfl cw ?_ | refine qah (v := .bool _) rfl rfl ?_ | refine qaL rfl ?_))
     refine ⟨_, ResV.tmp rfl, rfl, hxx, congrArg Value.bool ?_, rfl⟩
     rw [qcM (k := k + 1) (fun e => hcn (hst.1 e))]
     rfl
 ·
  obtain rfl : k = l.length := by omega
  rw [List.take_length] at hok
  by_cases h8 : l.length ≤ 128
  ·
   repeat (first | refine AL.nil ?_ | refine AWp.seq ?_ | refine AWp.r9 ?_ | refine AWp.c9 rfl ?_ | refine AWp.ret ?_ | refine AWp.exit ?_ | (refine zz rfl ?_; first | refine qaa rfl ?_ | refine qak rfl rfl rfl (by omega) ?_ | refine qaB (r1.ext hx) rfl ?_ | refine qam rfl rfl rfl (by omega) ?_ | refine qal (by conv => lhs; whnf) ?_))
   exact ⟨_, ResV.tmp rfl, rfl, hx, by rw [hok, decide_eq_true h8]; rfl, rfl⟩
  ·
   repeat (first | refine AL.nil ?_ | refine AWp.seq ?_ | refine AWp.r9 ?_ | refine AWp.c9 rfl ?_ | refine AWp.ret ?_ | refine AWp.exit ?_ | (refine zz rfl ?_; first | refine qaa rfl ?_ | refine qak rfl rfl rfl (by omega) ?_ | refine qaB (r1.ext hx) rfl ?_ | refine qal (by conv => lhs; whnf) ?_))
   exact ⟨_, ResV.tmp rfl, rfl, hx, by rw [hok, decide_eq_false h8]; rfl, rfl⟩
end Go.Proofs.YtigmojilaadbhaaGreatDoor
/- . -/
namespace Go.Proofs.YtigmojilaadbhaaGreatDoor
open Go Go.Eng Go.Pln Go.Lib
attribute [local irreducible] AWp AL DAL AOp TAL
instance i_plans : FnC Tryz.prog 98 := ⟨Tryz.f98, Tryz.func98, by kernel_rfl, by kernel_rfl⟩
instance i_asks : FnC Tryz.prog 100 := ⟨Tryz.f100, Tryz.func100, by kernel_rfl, by kernel_rfl⟩
instance i_keep : FnC Tryz.prog 99 := ⟨Tryz.f99, Tryz.func99, by kernel_rfl, by kernel_rfl⟩
instance qeE : TyD Tryz.prog 150 (.func #[] #[37] false) := ⟨Tryz.underlying150⟩
instance qeF : TyI Tryz.prog 150 1 8 .nilFunc := ⟨qaT (by kernel_rfl), rfl, rfl⟩
instance qcB : TyD Tryz.prog 151 (.map 9 150) := ⟨Tryz.underlying151⟩
instance qfO : TyD Tryz.prog 154 (.func #[] #[29] false) := ⟨Tryz.underlying154⟩
instance qfQ : TyI Tryz.prog 154 1 8 .nilFunc := ⟨qaT (by kernel_rfl), rfl, rfl⟩
instance qcZ : TyD Tryz.prog 155 (.map 9 154) := ⟨Tryz.underlying155⟩
abbrev fnB (f b : Nat) : Value := .func (.func f) #[] #[ptr b]
def planF (b : Nat) (w : Bytes) : Option Value := if w = wSplit then some (fnB 130 b) else if w = wUnion then some (fnB 132 b) else if w = wMove then some (fnB 133 b) else none
def askF (b : Nat) (w : Bytes) : Option Value := if w = wGet then some (fnB 134 b) else if w = wDelete then some (fnB 135 b) else if w = wPut then some (fnB 136 b)
 else if w = wSwap then some (fnB 137 b) else if w = wFresh then some (fnB 138 b) else if w = wScan then some (fnB 139 b) else none
structure FMap (h h' : Heap) (i m b : Nat) (F : Bytes → Option Value) : Prop where
 ext : Ext h h'
 box : h'.get b = some (pB i)
 map : ∃ kv ck, h'.obj m = some (.map (ents kv) ck) ∧ ∀ w, getS kv w = F w
 nb : h.next ≤ b
theorem plan_get (b : Nat) (w : Bytes) : getS (putS (putS (putS ([] : KV) wSplit (fnB 130 b) 0) wUnion (fnB 132 b) 1) wMove (fnB 133 b) 2) w = planF b w := by
 rw [qbB, qbB, qbB]
 unfold planF
 by_cases h0 : w = wSplit
 ·
  subst h0
  rfl
 by_cases h1 : w = wUnion
 ·
  subst h1
  rfl
 by_cases h2 : w = wMove
 ·
  subst h2
  rfl
 rw [if_neg (fun e => h2 e.symm), if_neg (fun e => h1 e.symm), if_neg (fun e => h0 e.symm), if_neg h0, if_neg h1, if_neg h2]
 rfl
theorem rplans_c (i : Nat) (h : Heap) : ACalls Tryz.prog 98 [ptr i] h fun u h' => ∃ m b, u = .map (some m) ∧ FMap h h' i m b (planF b) := by
 refine ACalls.wf fun wf => ?_
 refine ACalls.body Tryz.func98 rfl rfl ?_
 repeat (first | refine W.w ?_ | refine zz rfl (qaV rfl (by intro e; cases e) ?_) | refine zz rfl (qaq (by conv => lhs; whnf) ?_))
 generalize hH : h.alloc _ = H
 have g : H.get h.next = some (pB i) := hH ▸ Heap.alloc_new _ _
 have x : Ext h H := hH ▸ wf.ext _
 have wfH : WF H := hH ▸ wf.alloc _
 have nH : h.next ≤ H.next := hH ▸ Nat.le_succ _
 clear hH
 repeat (first | refine zz rfl (qc8 ?_))
 have hm0 := Heap.allocO_new H (.map (ents []) 0)
 have x0 := x.trans (wfH.extO (.map (ents []) 0))
 have g0 := (wfH.extO (.map (ents []) 0)).c _ _ g
 generalize H.allocO (.map (ents []) 0) = H0 at hm0 x0 g0 ⊢
 have nm : h.next ≤ H.next := nH
 generalize H.next = m at hm0 nm ⊢
 repeat (first | refine zz rfl (qa3 rfl rfl ?_))
 refine AL.eff rfl (qbE (s := wSplit) rfl rfl rfl hm0 ?_)
 refine AL.heap (h := H0.setO m (.map (ents (putS ([] : KV) wSplit (fnB 130 h.next) 0)) 1)) rfl ?_
 have hm1 := Heap.setO_at H0 m (.map (ents (putS ([] : KV) wSplit (fnB 130 h.next) 0)) 1)
 have x1 : Ext h (H0.setO m (.map (ents (putS ([] : KV) wSplit (fnB 130 h.next) 0)) 1)) := wf.ext_setO x0 nm _
 have g1 : (H0.setO m (.map (ents (putS ([] : KV) wSplit (fnB 130 h.next) 0)) 1)).get h.next = some (pB i) := g0
 generalize H0.setO m (.map (ents (putS ([] : KV) wSplit (fnB 130 h.next) 0)) 1) = H1 at hm1 x1 g1 ⊢
 repeat (first | refine zz rfl (qa3 rfl rfl ?_))
 refine AL.eff rfl (qbE (s := wUnion) rfl rfl rfl hm1 ?_)
 refine AL.heap (h := H1.setO m (.map (ents (putS (putS ([] : KV) wSplit (fnB 130 h.next) 0) wUnion (fnB 132 h.next) 1)) 2)) rfl ?_
 have hm2 := Heap.setO_at H1 m (.map (ents (putS (putS ([] : KV) wSplit (fnB 130 h.next) 0) wUnion (fnB 132 h.next) 1)) 2)
 have x2 : Ext h (H1.setO m (.map (ents (putS (putS ([] : KV) wSplit (fnB 130 h.next) 0) wUnion (fnB 132 h.next) 1)) 2)) := wf.ext_setO x1 nm _
 have g2 : (H1.setO m (.map (ents (putS (putS ([] : KV) wSplit (fnB 130 h.next) 0) wUnion (fnB 132 h.next) 1)) 2)).get h.next = some (pB i) := g1
 generalize H1.setO m (.map (ents (putS (putS ([] : KV) wSplit (fnB 130 h.next) 0) wUnion (fnB 132 h.next) 1)) 2) = H2 at hm2 x2 g2 ⊢
 repeat (first | refine zz rfl (qa3 rfl rfl ?_))
 refine AL.eff rfl (qbE (s := wMove) rfl rfl rfl hm2 ?_)
 refine AL.heap (h := H2.setO m (.map (ents (putS (putS (putS ([] : KV) wSplit (fnB 130 h.next) 0) wUnion (fnB 132 h.next) 1) wMove (fnB 133 h.next) 2)) 3)) rfl ?_
 have hm3 := Heap.setO_at H2 m (.map (ents (putS (putS (putS ([] : KV) wSplit (fnB 130 h.next) 0) wUnion (fnB 132 h.next) 1) wMove (fnB 133 h.next) 2)) 3)
 have x3 : Ext h (H2.setO m (.map (ents (putS (putS (putS ([] : KV) wSplit (fnB 130 h.next) 0) wUnion (fnB 132 h.next) 1) wMove (fnB 133 h.next) 2)) 3)) := wf.ext_setO x2 nm _
 have g3 : (H2.setO m (.map (ents (putS (putS (putS ([] : KV) wSplit (fnB 130 h.next) 0) wUnion (fnB 132 h.next) 1) wMove (fnB 133 h.next) 2)) 3)).get h.next = some (pB i) := g2
 generalize H2.setO m (.map (ents (putS (putS (putS ([] : KV) wSplit (fnB 130 h.next) 0) wUnion (fnB 132 h.next) 1) wMove (fnB 133 h.next) 2)) 3) = H3 at hm3 x3 g3 ⊢
 repeat (first | refine W.w ?_ | refine zz rfl (qal (v := .map (some m)) rfl ?_) | refine zz rfl (qaq (v := .map (some m)) rfl ?_))
 exact ⟨_, ResV.tmp rfl, m, h.next, rfl, x3, g3, ⟨_, _, hm3, plan_get h.next⟩, Nat.le_refl _⟩
theorem ask_get (b : Nat) (w : Bytes) : getS (putS (putS (putS (putS (putS (putS ([] : KV) wGet (fnB 134 b) 0) wDelete (fnB 135 b) 1) wPut (fnB 136 b) 2) wSwap (fnB 137 b) 3) wFresh (fnB 138 b) 4) wScan (fnB 139 b) 5) w = askF b w := by
 rw [qbB, qbB, qbB, qbB, qbB, qbB]
 unfold askF
 by_cases h0 : w = wGet
 ·
  subst h0
  rfl
 by_cases h1 : w = wDelete
 ·
  subst h1
  rfl
 by_cases h2 : w = wPut
 ·
  subst h2
  rfl
 by_cases h3 : w = wSwap
 ·
  subst h3
  rfl
 by_cases h4 : w = wFresh
 ·
  subst h4
  rfl
 by_cases h5 : w = wScan
 ·
  subst h5
  rfl
 rw [if_neg (fun e => h5 e.symm), if_neg (fun e => h4 e.symm), if_neg (fun e => h3 e.symm), if_neg (fun e => h2 e.symm), if_neg (fun e => h1 e.symm), if_neg (fun e => h0 e.symm), if_neg h0, if_neg h1, if_neg h2, if_neg h3, if_neg h4, if_neg h5]
 rfl
theorem rasks_c (i : Nat) (h : Heap) : ACalls Tryz.prog 100 [ptr i] h fun u h' => ∃ m b, u = .map (some m) ∧ FMap h h' i m b (askF b) := by
 refine ACalls.wf fun wf => ?_
 refine ACalls.body Tryz.func100 rfl rfl ?_
 repeat (first | refine W.w ?_ | refine zz rfl (qaV rfl (by intro e; cases e) ?_) | refine zz rfl (qaq (by conv => lhs; whnf) ?_))
 generalize hH : h.alloc _ = H
 have g : H.get h.next = some (pB i) := hH ▸ Heap.alloc_new _ _
 have x : Ext h H := hH ▸ wf.ext _
 have wfH : WF H := hH ▸ wf.alloc _
 have nH : h.next ≤ H.next := hH ▸ Nat.le_succ _
 clear hH
 repeat (first | refine zz rfl (qc8 ?_))
 have hm0 := Heap.allocO_new H (.map (ents []) 0)
 have x0 := x.trans (wfH.extO (.map (ents []) 0))
 have g0 := (wfH.extO (.map (ents []) 0)).c _ _ g
 generalize H.allocO (.map (ents []) 0) = H0 at hm0 x0 g0 ⊢
 have nm : h.next ≤ H.next := nH
 generalize H.next = m at hm0 nm ⊢
 repeat (first | refine zz rfl (qa3 rfl rfl ?_))
 refine AL.eff rfl (qbE (s := wGet) rfl rfl rfl hm0 ?_)
 refine AL.heap (h := H0.setO m (.map (ents (putS ([] : KV) wGet (fnB 134 h.next) 0)) 1)) rfl ?_
 have hm1 := Heap.setO_at H0 m (.map (ents (putS ([] : KV) wGet (fnB 134 h.next) 0)) 1)
 have x1 : Ext h (H0.setO m (.map (ents (putS ([] : KV) wGet (fnB 134 h.next) 0)) 1)) := wf.ext_setO x0 nm _
 have g1 : (H0.setO m (.map (ents (putS ([] : KV) wGet (fnB 134 h.next) 0)) 1)).get h.next = some (pB i) := g0
 generalize H0.setO m (.map (ents (putS ([] : KV) wGet (fnB 134 h.next) 0)) 1) = H1 at hm1 x1 g1 ⊢
 repeat (first | refine zz rfl (qa3 rfl rfl ?_))
 refine AL.eff rfl (qbE (s := wDelete) rfl rfl rfl hm1 ?_)
 refine AL.heap (h := H1.setO m (.map (ents (putS (putS ([] : KV) wGet (fnB 134 h.next) 0) wDelete (fnB 135 h.next) 1)) 2)) rfl ?_
 have hm2 := Heap.setO_at H1 m (.map (ents (putS (putS ([] : KV) wGet (fnB 134 h.next) 0) wDelete (fnB 135 h.next) 1)) 2)
 have x2 : Ext h (H1.setO m (.map (ents (putS (putS ([] : KV) wGet (fnB 134 h.next) 0) wDelete (fnB 135 h.next) 1)) 2)) := wf.ext_setO x1 nm _
 have g2 : (H1.setO m (.map (ents (putS (putS ([] : KV) wGet (fnB 134 h.next) 0) wDelete (fnB 135 h.next) 1)) 2)).get h.next = some (pB i) := g1
 generalize H1.setO m (.map (ents (putS (putS ([] : KV) wGet (fnB 134 h.next) 0) wDelete (fnB 135 h.next) 1)) 2) = H2 at hm2 x2 g2 ⊢
 repeat (first | refine zz rfl (qa3 rfl rfl ?_))
 refine AL.eff rfl (qbE (s := wPut) rfl rfl rfl hm2 ?_)
 refine AL.heap (h := H2.setO m (.map (ents (putS (putS (putS ([] : KV) wGet (fnB 134 h.next) 0) wDelete (fnB 135 h.next) 1) wPut (fnB 136 h.next) 2)) 3)) rfl ?_
 have hm3 := Heap.setO_at H2 m (.map (ents (putS (putS (putS ([] : KV) wGet (fnB 134 h.next) 0) wDelete (fnB 135 h.next) 1) wPut (fnB 136 h.next) 2)) 3)
 have x3 : Ext h (H2.setO m (.map (ents (putS (putS (putS ([] : KV) wGet (fnB 134 h.next) 0) wDelete (fnB 135 h.next) 1) wPut (fnB 136 h.next) 2)) 3)) := wf.ext_setO x2 nm _
 have g3 : (H2.setO m (.map (ents (putS (putS (putS ([] : KV) wGet (fnB 134 h.next) 0) wDelete (fnB 135 h.next) 1) wPut (fnB 136 h.next) 2)) 3)).get h.next = some (pB i) := g2
 generalize H2.setO m (.map (ents (putS (putS (putS ([] : KV) wGet (fnB 134 h.next) 0) wDelete (fnB 135 h.next) 1) wPut (fnB 136 h.next) 2)) 3) = H3 at hm3 x3 g3 ⊢
 repeat (first | refine zz rfl (qa3 rfl rfl ?_))
 refine AL.eff rfl (qbE (s := wSwap) rfl rfl rfl hm3 ?_)
 refine AL.heap (h := H3.setO m (.map (ents (putS (putS (putS (putS ([] : KV) wGet (fnB 134 h.next) 0) wDelete (fnB 135 h.next) 1) wPut (fnB 136 h.next) 2) wSwap (fnB 137 h.next) 3)) 4)) rfl ?_
 have hm4 := Heap.setO_at H3 m (.map (ents (putS (putS (putS (putS ([] : KV) wGet (fnB 134 h.next) 0) wDelete (fnB 135 h.next) 1) wPut (fnB 136 h.next) 2) wSwap (fnB 137 h.next) 3)) 4)
 have x4 : Ext h (H3.setO m (.map (ents (putS (putS (putS (putS ([] : KV) wGet (fnB 134 h.next) 0) wDelete (fnB 135 h.next) 1) wPut (fnB 136 h.next) 2) wSwap (fnB 137 h.next) 3)) 4)) := wf.ext_setO x3 nm _
 have g4 : (H3.setO m (.map (ents (putS (putS (putS (putS ([] : KV) wGet (fnB 134 h.next) 0) wDelete (fnB 135 h.next) 1) wPut (fnB 136 h.next) 2) wSwap (fnB 137 h.next) 3)) 4)).get h.next = some (pB i) := g3
 generalize H3.setO m (.map (ents (putS (putS (putS (putS ([] : KV) wGet (fnB 134 h.next) 0) wDelete (fnB 135 h.next) 1) wPut (fnB 136 h.next) 2) wSwap (fnB 137 h.next) 3)) 4) = H4 at hm4 x4 g4 ⊢
 repeat (first | refine zz rfl (qa3 rfl rfl ?_))
 refine AL.eff rfl (qbE (s := wFresh) rfl rfl rfl hm4 ?_)
 refine AL.heap (h := H4.setO m (.map (ents (putS (putS (putS (putS (putS ([] : KV) wGet (fnB 134 h.next) 0) wDelete (fnB 135 h.next) 1) wPut (fnB 136 h.next) 2) wSwap (fnB 137 h.next) 3) wFresh (fnB 138 h.next) 4)) 5)) rfl ?_
 have hm5 := Heap.setO_at H4 m (.map (ents (putS (putS (putS (putS (putS ([] : KV) wGet (fnB 134 h.next) 0) wDelete (fnB 135 h.next) 1) wPut (fnB 136 h.next) 2) wSwap (fnB 137 h.next) 3) wFresh (fnB 138 h.next) 4)) 5)
 have x5 : Ext h (H4.setO m (.map (ents (putS (putS (putS (putS (putS ([] : KV) wGet (fnB 134 h.next) 0) wDelete (fnB 135 h.next) 1) wPut (fnB 136 h.next) 2) wSwap (fnB 137 h.next) 3) wFresh (fnB 138 h.next) 4)) 5)) := wf.ext_setO x4 nm _
 have g5 : (H4.setO m (.map (ents (putS (putS (putS (putS (putS ([] : KV) wGet (fnB 134 h.next) 0) wDelete (fnB 135 h.next) 1) wPut (fnB 136 h.next) 2) wSwap (fnB 137 h.next) 3) wFresh (fnB 138 h.next) 4)) 5)).get h.next = some (pB i) := g4
 generalize H4.setO m (.map (ents (putS (putS (putS (putS (putS ([] : KV) wGet (fnB 134 h.next) 0) wDelete (fnB 135 h.next) 1) wPut (fnB 136 h.next) 2) wSwap (fnB 137 h.next) 3) wFresh (fnB 138 h.next) 4)) 5) = H5 at hm5 x5 g5 ⊢
 repeat (first | refine zz rfl (qa3 rfl rfl ?_))
 refine AL.eff rfl (qbE (s := wScan) rfl rfl rfl hm5 ?_)
 refine AL.heap (h := H5.setO m (.map (ents (putS (putS (putS (putS (putS (putS ([] : KV) wGet (fnB 134 h.next) 0) wDelete (fnB 135 h.next) 1) wPut (fnB 136 h.next) 2) wSwap (fnB 137 h.next) 3) wFresh (fnB 138 h.next) 4) wScan (fnB 139 h.next) 5)) 6)) rfl ?_
 have hm6 := Heap.setO_at H5 m (.map (ents (putS (putS (putS (putS (putS (putS ([] : KV) wGet (fnB 134 h.next) 0) wDelete (fnB 135 h.next) 1) wPut (fnB 136 h.next) 2) wSwap (fnB 137 h.next) 3) wFresh (fnB 138 h.next) 4) wScan (fnB 139 h.next) 5)) 6)
 have x6 : Ext h (H5.setO m (.map (ents (putS (putS (putS (putS (putS (putS ([] : KV) wGet (fnB 134 h.next) 0) wDelete (fnB 135 h.next) 1) wPut (fnB 136 h.next) 2) wSwap (fnB 137 h.next) 3) wFresh (fnB 138 h.next) 4) wScan (fnB 139 h.next) 5)) 6)) := wf.ext_setO x5 nm _
 have g6 : (H5.setO m (.map (ents (putS (putS (putS (putS (putS (putS ([] : KV) wGet (fnB 134 h.next) 0) wDelete (fnB 135 h.next) 1) wPut (fnB 136 h.next) 2) wSwap (fnB 137 h.next) 3) wFresh (fnB 138 h.next) 4) wScan (fnB 139 h.next) 5)) 6)).get h.next = some (pB i) := g5
 generalize H5.setO m (.map (ents (putS (putS (putS (putS (putS (putS ([] : KV) wGet (fnB 134 h.next) 0) wDelete (fnB 135 h.next) 1) wPut (fnB 136 h.next) 2) wSwap (fnB 137 h.next) 3) wFresh (fnB 138 h.next) 4) wScan (fnB 139 h.next) 5)) 6) = H6 at hm6 x6 g6 ⊢
 repeat (first | refine W.w ?_ | refine zz rfl (qal (v := .map (some m)) rfl ?_) | refine zz rfl (qaq (v := .map (some m)) rfl ?_))
 exact ⟨_, ResV.tmp rfl, m, h.next, rfl, x6, g6, ⟨_, _, hm6, ask_get h.next⟩, Nat.le_refl _⟩
instance i_rnext : FnC Tryz.prog 46 := ⟨Tryz.f46, Tryz.func46, by kernel_rfl, by kernel_rfl⟩
theorem qcV {h0 h : Heap} {i : Nat} {s : Bytes} (r : Rdr h0 i s h) (hl : s.length ≤ 1000000000) : ACalls Tryz.prog 46 [ptr i] h fun u h' => u = str (cutS s).1 ∧ h' = h.set i (rdB (cutS s).2) := qh1 i s h r.box hl
theorem cutS_lt {s : Bytes} (h : s ≠ []) : (cutS s).2.length < s.length := by
 cases s with
 | nil => exact absurd rfl h
 | cons c s =>
  rw [cutS]
  have := (qbw s).2
  split <;> simp only [List.length_cons] <;> omega
structure KpI (h0 : Heap) (i : Nat) (s rest : Bytes) (acc : List (Bytes × Int)) (H : Heap) (u : Value) : Prop where
 rd : Rdr h0 i rest H
 eq : keepS 129 s = acc ++ keepS (129 - acc.length) rest
 le : acc.length ≤ 129
 on : ON h0.next 2 H 79 u (acc.map keptR)
 len : rest.length ≤ s.length
theorem ON.over {B c : Nat} {h h' : Heap} {e : TypeId} {v : Value} {rows : List (List Value)} {i : Nat} {b : Blk} (o : ON B c h e v rows) (hi : i < B) (hx : Ext (h.set i b) h') : ON B c h' e v rows := by
 refine ⟨o.len, o.at_.imp id fun ⟨j, cap, h1, h2, h3⟩ => ⟨j, cap, h1, h2, hx.c _ _ ((Heap.set_other (by omega)).trans h3)⟩⟩
theorem keep_c {h0 h : Heap} {i : Nat} {s : Bytes} (r : Rdr h0 i s h) (hl : s.length ≤ 1000000000) : ACalls Tryz.prog 99 [ptr i] h fun u h' => RK h' u (keepS 129 s) ∧ oneB u = true ∧ ON h0.next 2 h' 79 u ((keepS 129 s).map keptR) ∧ ∃ s', Rdr h0 i s' h' := by
 refine ACalls.body Tryz.func99 rfl rfl ?_
 repeat (first | refine W.w ?_ | refine zz rfl (qaZ rfl ?_))
 refine AWp.loop (α := Bytes × List (Bytes × Int) × Heap × Value) (fun d => [(0, ptr i), (3, d.2.2.2)]) (fun d => d.2.2.1) (fun d => KpI h0 i s d.1 d.2.1 d.2.2.1 d.2.2.2) (fun d => d.1.length) (s, [], h, .slice none 0 0) ⟨r, rfl, Nat.zero_le _, ON.nil _ _ _ _, Nat.le_refl _⟩
  (Weak.same (EW.cons rfl (EW.cons rfl EW.nil))) ?_
 rintro ⟨rest, acc, H, u⟩ k
 replace k : KpI h0 i s rest acc H u := k
 show AWp _ _ _ _ [(0, ptr i), (3, u)] H
 obtain ⟨kr, ke, kl, ko, kn⟩ := k
 have hb := kr.box
 obtain ⟨ua, uc, hu⟩ := ko.rn.slice
 have hml : (acc.map keptR).length = acc.length := List.length_map _
 have fin : ∀ l, keepS 129 s = l → l = acc → RK H u (keepS 129 s) ∧ oneB u = true ∧ ON h0.next 2 H 79 u ((keepS 129 s).map keptR) ∧ ∃ s', Rdr h0 i s' H := fun l e1 e2 => by
  rw [e1, e2]
  exact ⟨⟨ko.rn, by omega⟩, ko.one, ko, _, kr⟩
 by_cases h1 : rest = []
 ·
  repeat (first | refine AL.nil ?_ | refine AL.skip rfl rfl ?_ | refine AWp.seq ?_ | refine AWp.r9 ?_ | refine AWp.c9 rfl ?_ | refine AWp.ret ?_ | refine AWp.exit ?_ | (refine zz rfl ?_; first | refine qae rfl ?_ | refine qay rfl ?_ | refine qaC rfl ?_ | refine qao rfl ?_ | refine qaf rfl rfl hb rfl ?_ | refine qbY (a := rest) (b := []) rfl rfl h1 ?_ | refine qah (v := .bool _) rfl rfl ?_ | refine qal (v := u) rfl ?_ | refine qaq (v := u) rfl ?_))
  refine ⟨_, ResV.tmp rfl, fin _ rfl ?_⟩
  rw [ke, h1]
  cases 129 - acc.length <;> simp [keepS]
 ·
  by_cases h2 : acc.length ≤ 128
  ·
   have hi := kr.lt
   repeat (first | refine W.w ?_ | refine AWp.c8 rfl ?_ | (refine zz rfl ?_; first | refine qae rfl ?_ | refine qay rfl ?_ | refine qaC rfl ?_ | refine qao rfl ?_ | refine qaf rfl rfl hb rfl ?_ | refine qbv (a := rest) (b := []) rfl rfl h1 ?_ | refine qah (v := .bool _) rfl rfl ?_ | refine qal (v := u) rfl ?_ | refine qaB ko.rn rfl ?_ | refine qam rfl rfl rfl (by omega) ?_))
   refine zz rfl (qar (evs := [ptr i]) rfl rfl ((qcV kr (by omega)).mono ?_))
   rintro _ H1 ⟨rfl, hH1⟩
   have r1 : Rdr h0 i (cutS rest).2 H1 := hH1 ▸ kr.set _
   have x1 : Ext (H.set i (rdB (cutS rest).2)) H1 := hH1 ▸ Ext.refl _
   have o1 := ON.over ko kr.lt x1
   have hc := (qbw rest).2
   have hlt := cutS_lt h1
   have hc2 := qcf (cutS rest).2
   clear hH1
   repeat (first | refine zz rfl (qay rfl ?_))
   refine zz rfl (qar (evs := [ptr i]) rfl rfl ((qbl r1 (by omega)).mono ?_))
   rintro _ H2 ⟨rfl, hH2⟩
   have r2 : Rdr h0 i (numS (cutS rest).2).2 H2 := hH2 ▸ r1.set _
   have x2 : Ext (H1.set i (rdB (numS (cutS rest).2).2)) H2 := hH2 ▸ Ext.refl _
   have o2 := ON.over o1 kr.lt x2
   clear hH2
   repeat (first | refine zz rfl (qax (out := keptR ((cutS rest).1, (numS (cutS rest).2).1)) rfl rfl ?_) | refine zz rfl (qe7 (sz := 2) (row := keptR ((cutS rest).1, (numS (cutS rest).2).1)) (by decide) (by decide) rfl rfl ?_))
   obtain ⟨H3, hQ, gr, xr, wr, _⟩ := aq r2.wf ⟨keptR ((cutS rest).1, (numS (cutS rest).2).1), 79, true⟩
   rw [hQ]
   have r3 := r2.grow xr wr (by have := wr.lt gr; omega)
   have o3 := o2.ext xr
   have rn : RN 2 H3 (.slice (some ⟨H2.next, 0, some 2⟩) 1 1) [keptR ((cutS rest).1, (numS (cutS rest).2).1)] := RN.row1 rfl gr
   refine zz rfl (qdh (m := 1) (by_ := 24) (z := .agg #[.string ⟨#[]⟩, .int .i64 0]) (B := h0.next) (e := 79) (news := [keptR ((cutS rest).1, (numS (cutS rest).2).1)]) rfl wr (by have := r3.nx; omega) o3 rfl rfl rn.src rfl (by intro x hx; rw [List.mem_singleton.1 hx]; rfl) rfl (by rw [hml]; simp only [maxLen]; omega) (by rw [hml]; omega) ?_)
   intro u' H4 o4 _ k4 wf4 n4
   have r4 : Rdr h0 i (numS (cutS rest).2).2 H4 := ⟨k4.extN o3 (r2.wf0.set r2.lt _) (Nat.le_refl _) r3.ext, wf4, r3.wf0, r3.lt, r3.ge, by have := r3.nx; omega, r3.tab⟩
   repeat (first | refine AL.nil ?_ | refine zz rfl (qaq (v := u') rfl ?_))
   refine ⟨((numS (cutS rest).2).2, acc ++ [((cutS rest).1, (numS (cutS rest).2).1)], H4, u'), ⟨r4, ?_, by simp only [List.length_append, List.length_cons, List.length_nil]; omega, by rw [List.map_append]; exact o4, by show (numS (cutS rest).2).2.length ≤ s.length; omega⟩, by show (numS (cutS rest).2).2.length < rest.length; omega, Weak.same (EW.cons rfl (EW.cons rfl EW.nil))⟩
   show keepS 129 s = (acc ++ [((cutS rest).1, (numS (cutS rest).2).1)]) ++ keepS (129 - (acc ++ [((cutS rest).1, (numS (cutS rest).2).1)]).length) (numS (cutS rest).2).2
   rw [ke, List.length_append, show 129 - acc.length = (129 - (acc.length + [((cutS rest).1, (numS (cutS rest).2).1)].length)) + 1 by simp only [List.length_cons, List.length_nil]; omega, keepS, if_neg h1]
   simp
  ·
   repeat (first | refine AL.nil ?_ | refine AWp.seq ?_ | refine AWp.r9 ?_ | refine AWp.c9 rfl ?_ | refine AWp.ret ?_ | refine AWp.exit ?_ | (refine zz rfl ?_; first | refine qae rfl ?_ | refine qay rfl ?_ | refine qaC rfl ?_ | refine qao rfl ?_ | refine qaf rfl rfl hb rfl ?_ | refine qbv (a := rest) (b := []) rfl rfl h1 ?_ | refine qah (v := .bool _) rfl rfl ?_ | refine qal (v := u) rfl ?_ | refine qaq (v := u) rfl ?_ | refine qaB ko.rn rfl ?_ | refine qak rfl rfl rfl (by omega) ?_))
   refine ⟨_, ResV.tmp rfl, fin _ rfl ?_⟩
   rw [ke, show 129 - acc.length = 0 by omega, keepS, List.append_nil]
instance i_read : FnC Tryz.prog 48 := ⟨Tryz.f48, Tryz.func48, by kernel_rfl, by kernel_rfl⟩
theorem qdC {h : Heap} {i : Nat} {b : Blk} (hb : h.get i = some b) : h.set i b = h := by
 have e : (h.set i b).get = h.get := by
  funext j
  simp only [Heap.set]
  split
  ·
   rename_i e; rw [e]; exact hb.symm
  ·
   rfl
 show (⟨(h.set i b).get, h.next, h.obj⟩ : Heap) = h
 rw [e]
theorem Rdr.self {h0 h : Heap} {i : Nat} {s : Bytes} (r : Rdr h0 i s h) : Rdr h i s h := ⟨by rw [qdC r.box]; exact Ext.refl h, r.wf, r.wf, r.wf.lt r.box, r.ge, Nat.le_refl _, r.tabs⟩
theorem Rdr.trans {h0 h1 h2 : Heap} {i : Nat} {s s' : Bytes} (a : Rdr h0 i s h1) (b : Rdr h1 i s' h2) : Rdr h0 i s' h2 := a.next b.ext b.wf b.nx
structure RdA (h0 : Heap) (i : Nat) (s : Bytes) (H : Heap) (b4 b5 : Nat) (q : ActV) (a : ActM) : Prop where
 rd : Rdr h0 i s H
 g4 : H.get b4 = some ⟨actC actV0 act0, 40, true⟩
 g5 : H.get b5 = some ⟨actC q a, 40, true⟩
 n4 : h0.next ≤ b4
 n5 : h0.next ≤ b5
 ne : b4 ≠ b5
theorem RdA.over {h0 H H' : Heap} {i : Nat} {s s' : Bytes} {b4 b5 : Nat} {q : ActV} {a : ActM} (r : RdA h0 i s H b4 b5 q a) (k : Rdr H i s' H') : RdA h0 i s' H' b4 b5 q a := by
 have h1 := r.rd.lt
 have h4 := r.n4
 have h5 := r.n5
 exact ⟨r.rd.trans k, k.ext.c _ _ ((Heap.set_other (by omega)).trans r.g4), k.ext.c _ _ ((Heap.set_other (by omega)).trans r.g5), h4, h5, r.ne⟩
theorem RdA.num {h0 H : Heap} {i : Nat} {s : Bytes} {b4 b5 : Nat} {q : ActV} {a : ActM} (r : RdA h0 i s H b4 b5 q a) (s' : Bytes) : RdA h0 i s' (H.set i (rdB s')) b4 b5 q a := r.over (r.rd.self.set s')
theorem RdA.put {h0 H : Heap} {i : Nat} {s : Bytes} {b4 b5 : Nat} {q : ActV} {a : ActM} (r : RdA h0 i s H b4 b5 q a) (q' : ActV) (a' : ActM) : RdA h0 i s (H.set b5 ⟨actC q' a', 40, true⟩) b4 b5 q' a' :=
 ⟨r.rd.put r.n5 (r.rd.wf.lt r.g5) _, (Heap.set_other r.ne).trans r.g4, Heap.set_at _ _ _, r.n4, r.n5, r.ne⟩
structure ActO (B : Nat) (h : Heap) (q : ActV) (a : ActM) : Prop where
 oa : AskO B h q.q a.ask
 oc : CmdO B h q.c a.cmd
 ok : ON B 2 h 79 q.k (a.keep.map keptR)
theorem OS.elem {B : Nat} {h h' : Heap} {e : TypeId} {u : Value} {vs : List Value} (o : OS B h e u vs) (hx : ∀ j b, h.get j = some b → b.elem = e → h'.get j = some b) : OS B h' e u vs := o.imp id fun ⟨j, c, h1, h2, h3⟩ => ⟨j, c, h1, h2, hx _ _ h3 rfl⟩
theorem AskO.r {B : Nat} {h : Heap} {q : AskV} {a : AskM} (o : AskO B h q a) : AskR h q a := ⟨o.k.rb, o.t.rb, o.v.rb, o.w.rb⟩
theorem CmdO.r {B : Nat} {h : Heap} {q : CmdV} {c : CmdM} (o : CmdO B h q c) : CmdR h q c := by
 rw [o.hq]
 exact cmdR_k o.hc o.hk.rb
theorem AskO.nil (B : Nat) (h : Heap) : AskO B h askV0 ask0 := ⟨OS.nil _ _ _, OS.nil _ _ _, OS.nil _ _ _, OS.nil _ _ _⟩
theorem CmdO.nil (B : Nat) (h : Heap) : CmdO B h cmdV0 cmd0 := ⟨rfl, OS.nil _ _ _, rfl⟩
theorem ActO.nil (B : Nat) (h : Heap) (a : ActM) (h1 : a.ask = ask0) (h2 : a.cmd = cmd0) (h3 : a.keep = []) : ActO B h actV0 a := by
 refine ⟨?_, ?_, ?_⟩
 ·
  rw [h1]; exact AskO.nil _ _
 ·
  rw [h2]; exact CmdO.nil _ _
 ·
  rw [h3]; exact ON.nil _ _ _ _
theorem ActO.r {B : Nat} {h : Heap} {q : ActV} {a : ActM} (o : ActO B h q a) (hl : a.keep.length ≤ 140737488351232) : ActR h q a := ⟨o.oa.r, o.oc.r, ⟨o.ok.rn, hl⟩⟩
theorem ActO.elem {B : Nat} {h h' : Heap} {q : ActV} {a : ActM} (o : ActO B h q a) (h1 : ∀ j b, h.get j = some b → b.elem = 5 → h'.get j = some b) (h2 : ∀ j b, h.get j = some b → b.elem = 79 → h'.get j = some b) : ActO B h' q a :=
 ⟨⟨OS.elem o.oa.k h1, OS.elem o.oa.t h1, OS.elem o.oa.v h1, OS.elem o.oa.w h1⟩, ⟨o.oc.hq, OS.elem o.oc.hk h1, o.oc.hc⟩, ⟨o.ok.len, o.ok.at_.imp id fun ⟨j, c, h3, h4, h5⟩ => ⟨j, c, h3, h4, h2 _ _ h5 rfl⟩⟩⟩
theorem qh3 {h : Heap} {j : Nat} {b x : Blk} {e : TypeId} (hb : h.get j = some b) (he : b.elem ≠ e) : ∀ k y, h.get k = some y → y.elem = e → (h.set j x).get k = some y := by
 intro k y hk hy
 by_cases hkj : k = j
 ·
  subst hkj
  rw [hb] at hk
  cases hk
  exact absurd hy he
 ·
  exact (Heap.set_other hkj).trans hk
theorem ActO.put {B : Nat} {h : Heap} {j : Nat} {b x : Blk} {q : ActV} {a : ActM} (o : ActO B h q a) (hb : h.get j = some b) (h1 : b.elem ≠ 5) (h2 : b.elem ≠ 79) : ActO B (h.set j x) q a := o.elem (qh3 hb h1) (qh3 hb h2)
end Go.Proofs.YtigmojilaadbhaaGreatDoor
