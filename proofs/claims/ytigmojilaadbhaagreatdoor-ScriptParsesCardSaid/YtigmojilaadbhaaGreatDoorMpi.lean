/-
  Texts of one claim, merged: 6 parts.
-/
import Derived.Test.YtigmojilaadbhaaGreatDoorMph
set_option maxHeartbeats 16000000
/- . -/
namespace Go.Proofs.YtigmojilaadbhaaGreatDoor
open Go Go.Eng Go.Pln Go.Lib Go.Proofs.Tryz
attribute [local irreducible] AWp AL DAL AOp
instance i_copyCheck : FnC prog 115 := ⟨Tryz.f115, func115, by kernel_rfl, by kernel_rfl⟩
instance i_writeByte : FnC prog 125 := ⟨Tryz.f125, func125, by kernel_rfl, by kernel_rfl⟩
instance i_writeString : FnC prog 82 := ⟨Tryz.f82, func82, by kernel_rfl, by kernel_rfl⟩
instance i_bString : FnC prog 84 := ⟨Tryz.f84, func84, by kernel_rfl, by kernel_rfl⟩
instance qeE : XtC prog 147 Extern.AbiNoEscape.same := ⟨Tryz.f147, by kernel_rfl, by kernel_rfl, by kernel_rfl, by kernel_rfl, by kernel_rfl⟩
instance qfE : TyD prog 127 (.pointer 129) := ⟨underlying127⟩
instance qfM : TyI prog 127 1 8 (.pointer none) := ⟨qaV (by kernel_rfl), rfl, rfl⟩
instance qhb : TyD prog 193 .unsafePointer := ⟨underlying193⟩
instance i_TyD_P_uint8 : TyD prog 168 (.pointer 5) := ⟨underlying168⟩
instance qgG : TyI prog 129 2 32 (.agg #[.pointer none, .slice none 0 0]) := ⟨qaV (by kernel_rfl), rfl, rfl⟩
instance qeU : FAd prog 129 0 0 := bA (ft := 127) underlying129 rfl rfl rfl rfl
instance qe0 : FAd prog 129 1 1 := bA (ft := 27) underlying129 rfl rfl rfl rfl
abbrev bldB (ap sv : Value) : Blk := ⟨[ap, sv], 129, true⟩
structure Bd (h0 h : Heap) (b : Nat) (l : Bytes) : Prop where
 ex : ∃ ap sv, h.get b = some (bldB ap sv) ∧ (ap = .pointer none ∨ ap = ptr b) ∧ OS h0.next h 5 sv (bv l) ∧ (∀ s n c, sv ≠ .slice (some ⟨b, 0, s⟩) n c) ∧ (l = [] → sv = .slice none 0 0)
 hx : Ext h0 h
 wf : WF h
 wf0 : WF h0
 lo : h0.next ≤ b
theorem Bd.new {h : Heap} (wf : WF h) : Bd h (h.alloc (bldB (.pointer none) (.slice none 0 0))) h.next [] :=
 ⟨⟨_, _, aB _ _, .inl rfl, bP _ _ _, (fun s n c e => by cases e), fun _ => rfl⟩, wf.ext _, wf.alloc _, wf, Aa _⟩
theorem qet {h0 h : Heap} {b : Nat} {l : Bytes} (d : Bd h0 h b l) : ACalls prog 115 [ptr b] h fun _ h' => ∃ sv, h' = h.set b (bldB (ptr b) sv) ∧ ∃ ap, h.get b = some (bldB ap sv) := by
 obtain ⟨ap, sv, hg, hap, ho, hne, hnil⟩ := d.ex
 refine aD func115 rfl rfl ?_
 rcases hap with rfl | rfl
 ·
  repeat (first | refine W.w ?_ | refine aE rfl ?_ | refine aJ rfl (qaw (v := ptr b) rfl rfl rfl hg rfl (by show 0 < 2; omega) ?_) | (refine zz rfl ?_; first | refine qaB rfl ?_ | refine qaH rfl ?_ | refine qan rfl ?_ | refine qaf rfl rfl hg rfl ?_ | refine qeb rfl rfl ?_ | refine op_toUns rfl rfl hg rfl (by show 0 < 2; omega) ?_ | refine qhH rfl rfl ?_ | refine op_fromUns rfl rfl hg rfl rfl (by show 2 ≤ 2; omega) ?_))
  exact ⟨_, ResV.none rfl, sv, rfl, _, hg⟩
 ·
  repeat (first | refine W.w ?_ | refine aG rfl ?_ | (refine zz rfl ?_; first | refine qaB rfl ?_ | refine qaH rfl ?_ | refine qan rfl ?_ | refine qaf rfl rfl hg rfl ?_ | refine qeb rfl rfl ?_ | refine qgp rfl rfl ?_))
  refine ⟨_, ResV.none rfl, sv, ?_, _, hg⟩
  have e : (h.set b (bldB (ptr b) sv)).get = h.get := by
   funext j
   simp only [Heap.set]
   split
   ·
    rename_i e; rw [e]; exact hg.symm
   ·
    rfl
  show h = ⟨(h.set b (bldB (ptr b) sv)).get, h.next, h.obj⟩
  rw [e]
theorem Bd.step {h0 h h' : Heap} {b : Nat} {l l' : Bytes} {u u' : Value} (d : Bd h0 h b l) (hu : h.get b = some (bldB (ptr b) u)) (_hne : ∀ s n c, u ≠ .slice (some ⟨b, 0, s⟩) n c) (r : OS h0.next h 5 u (bv l)) (o : OS h0.next h' 5 u' (bv l')) (k : Keeps u h h') (wf' : WF h') (hfr : ∀ s n c, u' ≠ .slice (some ⟨b, 0, s⟩) n c) (hnl : l' ≠ []) (hn : h.next ≤ h'.next) :
  Bd h0 (h'.set b (bldB (ptr b) u')) b l' := by
 have lb := d.wf.lt hu
 refine ⟨⟨ptr b, u', aF _ _ _, .inr rfl, ?_, hfr, fun e => absurd e hnl⟩, ?_, wf'.set (by omega) _, d.wf0, d.lo⟩
 ·
  rcases o with ⟨rfl, e⟩ | ⟨i, c, h1, rfl, h2⟩
  ·
   exact .inl ⟨rfl, e⟩
  ·
   exact .inr ⟨i, c, h1, rfl, (aH fun e => hfr (some 1) _ c (by rw [e])).trans h2⟩
 ·
  exact d.wf0.ext_set (k.ext r d.wf0 (Aa _) d.hx) d.lo _
theorem bs_src (h : Heap) (s : Bytes) : Src h 1 (str s) s.length (bv s) := by
 have := Src.str (h := h) (sz := 1) (bstr s) rfl
 rw [Go.Eng.bstr_size, qir] at this
 exact this
theorem Bd.mark {h0 h : Heap} {b : Nat} {l : Bytes} (d : Bd h0 h b l) {sv ap : Value} (hg : h.get b = some (bldB ap sv)) : Bd h0 (h.set b (bldB (ptr b) sv)) b l ∧ OS h0.next (h.set b (bldB (ptr b) sv)) 5 sv (bv l) ∧ (∀ s n c, sv ≠ .slice (some ⟨b, 0, s⟩) n c) ∧ (l = [] → sv = .slice none 0 0) := by
 obtain ⟨ap', sv', hg', hap, ho, hne, hnil⟩ := d.ex
 rw [hg] at hg'
 cases hg'
 have o2 : OS h0.next (h.set b (bldB (ptr b) sv)) 5 sv (bv l) := by
  rcases ho with ⟨rfl, e⟩ | ⟨i, c, h1, rfl, h2⟩
  ·
   exact .inl ⟨rfl, e⟩
  ·
   exact .inr ⟨i, c, h1, rfl, (aH fun e => hne (some 1) _ c (by rw [e])).trans h2⟩
 have lb := d.wf.lt hg
 exact ⟨⟨⟨ptr b, sv, aF _ _ _, .inr rfl, o2, hne, hnil⟩, d.wf0.ext_set d.hx d.lo _, d.wf.set lb _, d.wf0, d.lo⟩, o2, hne, hnil⟩
theorem OS.free {B : Nat} {h h' : Heap} {e : TypeId} {u u' : Value} {vs' : List Value} {b : Nat} {x : Blk} (k : Keeps u h h') (o : OS B h' e u' vs') (hb : h.get b = some x) (hne : ∀ s n c, u ≠ .slice (some ⟨b, 0, s⟩) n c) (hx : x.elem ≠ e) : ∀ s n c, u' ≠ .slice (some ⟨b, 0, s⟩) n c := by
 intro s n c e1
 rcases o with ⟨rfl, _⟩ | ⟨i, c', _, rfl, h2⟩
 ·
  cases e1
 ·
  cases e1
  rw [k.c b x hb hne] at h2
  cases h2
  exact hx rfl
theorem writeStr_c {h0 h : Heap} {b : Nat} {l : Bytes} (d : Bd h0 h b l) (s : Bytes) (hs0 : ¬ s = []) (hl : l.length + s.length ≤ 140737488351232) : ACalls prog 82 [ptr b, str s] h fun u h' => u = .tuple #[.int .i64 (s.length : Nat), .nilIface] ∧ Bd h0 h' b (l ++ s) := by
 refine aD func82 rfl rfl ?_
 repeat (first | refine W.w ?_ | (refine zz rfl ?_; first | refine qaB rfl ?_ | refine qad rfl ?_ | refine qat rfl rfl ((qet d).mono ?_) | refine qao (by conv => lhs; whnf) ?_))
 rintro _ H1 ⟨sv, rfl, ap, hg⟩
 obtain ⟨d1, o1, hne, hnil⟩ := d.mark hg
 have g1 : (h.set b (bldB (ptr b) sv)).get b = some (bldB (ptr b) sv) := aF _ _ _
 generalize h.set b (bldB (ptr b) sv) = H1 at d1 o1 g1 ⊢
 repeat (first | refine W.w ?_ | (refine zz rfl ?_; first | refine qaB rfl ?_ | refine qaj rfl ?_ | refine qaH rfl ?_ | refine qan rfl ?_ | refine qaf rfl rfl g1 rfl ?_))
 refine zz rfl (qaX (z := .int .u8 0) (B := h0.next) (e := 5) rfl d1.wf (Bi d1.lo (Dy (d1.wf.lt g1))) o1 rfl rfl (bs_src _ s) (qaE s) (qcG s) (by rw [qaE]; simp only [maxLen]; omega) (by rw [qaE]; omega) ?_)
 intro u' H2 o2 k2 wf2 n2
 rw [← qbQ] at o2
 have g2 := k2.c b _ g1 hne
 have hfr := OS.free k2 o2 g1 hne (Aj rfl)
 have d2 := d1.step g1 hne o1 o2 k2 wf2 hfr (by simp [hs0]) n2
 repeat (first | refine W.w ?_ | refine aJ rfl (qaw (v := u') rfl rfl (bW o2).one.1 g2 rfl (by show 1 < 2; omega) ?_) | (refine zz rfl ?_; first | refine qaj rfl ?_ | refine qad rfl ?_ | refine qaH rfl ?_ | refine qan rfl ?_ | refine qaG rfl ?_ | refine qao (by conv => lhs; whnf) ?_))
 exact ⟨_, bG rfl, rfl, d2⟩
theorem qhV {h0 h : Heap} {b : Nat} {l : Bytes} (d : Bd h0 h b l) (s : UInt8) (hl : l.length + 1 ≤ 140737488351232) : ACalls prog 125 [ptr b, .int .u8 (s.toNat : Int)] h fun u h' => u = .nilIface ∧ Bd h0 h' b (l ++ [s]) := by
 refine aD func125 rfl rfl ?_
 repeat (first | refine W.w ?_ | (refine zz rfl ?_; first | refine qaB rfl ?_ | refine qat rfl rfl ((qet d).mono ?_) | refine qao (by conv => lhs; whnf) ?_))
 rintro _ H1 ⟨sv, rfl, ap, hg⟩
 obtain ⟨d1, o1, hne, hnil⟩ := d.mark hg
 have g1 : (h.set b (bldB (ptr b) sv)).get b = some (bldB (ptr b) sv) := aF _ _ _
 generalize h.set b (bldB (ptr b) sv) = H1 at d1 o1 g1 ⊢
 repeat (first | refine W.w ?_ | (refine zz rfl ?_; first | refine qac rfl ?_ | refine qaB rfl ?_ | refine qaH rfl ?_ | refine qan rfl ?_ | refine qaf rfl rfl g1 rfl ?_ | refine qaN (bv [s]) rfl rfl rfl rfl (qcr _) ?_))
 obtain ⟨H3, hQ, gr, xr, wr, _⟩ := aq d1.wf ⟨bv [s], 5, true⟩
 rw [hQ]
 have d3 : Bd h0 H3 b l := ⟨⟨ptr b, sv, xr.c _ _ g1, .inr rfl, o1.ext xr, hne, hnil⟩, d1.hx.trans xr, wr, d1.wf0, d1.lo⟩
 have g3 := xr.c _ _ g1
 have o3 := o1.ext xr
 have rb : RB H3 (.slice (some ⟨H1.next, 0, some 1⟩) 1 1) [s] := bK gr rfl
 refine zz rfl (qaX (z := .int .u8 0) (B := h0.next) (e := 5) rfl wr (Bi d3.lo (Dy (wr.lt g3))) o3 rfl rfl rb.src (qaE _) (qcG _) (by rw [qaE]; simp only [maxLen, Ad, Ag]; omega) (by rw [qaE]; simp only [Ad, Ag]; omega) ?_)
 intro u' H2 o2 k2 wf2 n2
 rw [← qbQ] at o2
 have g2 := k2.c b _ g3 hne
 have hfr := OS.free k2 o2 g3 hne (Aj rfl)
 have d2 := d3.step g3 hne o3 o2 k2 wf2 hfr (by simp) n2
 repeat (first | refine W.w ?_ | refine aJ rfl (qaw (v := u') rfl rfl (bW o2).one.1 g2 rfl (by show 1 < 2; omega) ?_) | (refine zz rfl ?_; first | refine qaH rfl ?_ | refine qan rfl ?_ | refine qao (by conv => lhs; whnf) ?_))
 exact ⟨_, aC rfl, rfl, d2⟩
theorem bString_c {h0 h : Heap} {b : Nat} {l : Bytes} (d : Bd h0 h b l) (hl : l.length ≤ 140737488351232) : ACalls prog 84 [ptr b] h fun u h' => u = str l ∧ Ext h0 h' := by
 obtain ⟨ap, sv, hg, hap, ho, hne, hnil⟩ := d.ex
 refine aD func84 rfl rfl ?_
 have hx0 := d.hx
 rcases ho with ⟨rfl, e⟩ | ⟨i, c, h1, rfl, h2⟩
 ·
  have hl0 : l = [] := by simpa [bv] using e
  subst hl0
  repeat (first | refine W.w ?_ | refine zz rfl (qah rfl ?_))
  refine bJ (σ := [(0, .R), (1, .R), (2, .R), (3, .R), (4, .R), (5, .R), (6, .R), (7, .R), (8, .R), (9, .R), (10, .R), (11, .R)]) mixed (by kernel_rfl) ?_
  repeat (first | refine dr rfl rfl (fun _ hx _ => qaB rfl ⟨rfl, rfl⟩) ?_ | refine dr rfl rfl (fun _ hx _ => qah rfl ⟨rfl, rfl⟩) ?_ | refine dr rfl rfl (fun _ hx _ => qaH rfl ⟨rfl, rfl⟩) ?_ | refine dr rfl rfl (fun _ hx _ => qan rfl ⟨rfl, rfl⟩) ?_ | refine dr rfl rfl (fun _ hx _ => qaf rfl rfl (hx.c _ _ hg) rfl ⟨rfl, rfl⟩) ?_ | refine dr rfl rfl (fun _ hx _ => qhY rfl ⟨rfl, rfl⟩) ?_ | refine dr rfl rfl (fun _ hx _ => op_unsStr0 rfl rfl ⟨rfl, rfl⟩) ?_ | refine dr rfl rfl (fun _ hx _ => qch rfl ⟨rfl, rfl⟩) ?_)
  refine aX ?_
  repeat (first | refine aM ?_)
  exact ⟨_, aC rfl, rfl, hx0⟩
 ·
  have hl0 : ¬ l = [] := fun e => by have := hnil e; cases this
  have hp : 0 < l.length := Ea.2 hl0
  have rb : RB h (.slice (some ⟨i, 0, some 1⟩) (bv l).length c) l := bK h2 rfl
  repeat (first | refine W.w ?_ | refine zz rfl (qah rfl ?_))
  refine bJ (σ := [(0, .R), (1, .R), (2, .R), (3, .R), (4, .R), (5, .R), (6, .R), (7, .R), (8, .R), (9, .R), (10, .W), (11, .R)]) mixed (by kernel_rfl) ?_
  repeat (first | refine dr rfl rfl (fun _ hx _ => qaB rfl ⟨rfl, rfl⟩) ?_ | refine dr rfl rfl (fun _ hx _ => qaH rfl ⟨rfl, rfl⟩) ?_ | refine dr rfl rfl (fun _ hx _ => qan rfl ⟨rfl, rfl⟩) ?_ | refine dr rfl rfl (fun _ hx _ => qaf rfl rfl (hx.c _ _ hg) rfl ⟨rfl, rfl⟩) ?_ | refine dr rfl rfl (fun _ hx _ => op_unsData rfl (by rw [qaE]; exact hp) ⟨rfl, rfl⟩) ?_ | refine dr rfl rfl (fun _ hx _ => qaJ (rb.ext hx) rfl ⟨rfl, rfl⟩) ?_)
  refine DAL.w rfl rfl rfl (qgz (l := l) rfl rfl hl0 (by omega) h2 ?_)
  repeat (first | refine dr rfl rfl (fun _ hx _ => qah rfl ⟨rfl, rfl⟩) ?_)
  refine aX ?_
  repeat (first | refine aM ?_)
  refine ⟨_, aC rfl, rfl, ⟨fun j x hj => ?_, hx0.o⟩⟩
  have hlt := d.wf0.lt hj
  simp only [Heap.kill]
  rw [Ac (by omega)]
  exact hx0.c j x hj
def wordHex : Bytes := [48, 49, 50, 51, 52, 53, 54, 55, 56, 57, 65, 66, 67, 68, 69, 70]
instance i_word : FnC prog 93 := ⟨Tryz.f93, func93, by kernel_rfl, by kernel_rfl⟩
theorem op_shr4 {ρ : Operand → Value} {h : Heap} {K : Value → Heap → Prop} {dst : Option Tmp} {ty : TypeId} {pos : String} {aft : Array Edge} {g : Option (Nat × Bool)} {t t' : TypeId} {x y : Operand} {c : UInt8} (hx : ρ x = .int .u8 (c.toNat : Int)) (hy : ρ y = .int .u64 4) (kk : K (.int .u8 ((c.toNat / 16 : Nat) : Int)) h) :
  AOp prog ⟨dst, .binOp .shr t x y t', ty, pos, aft, g⟩ ρ h K := by
 refine qaZ hx hy (v := .int .u8 ((c.toNat / 16 : Nat) : Int)) ?_ kk
 show some (Value.int .u8 (Int.fdiv (c.toNat : Int) 16)) = _
 refine congrArg some (congrArg (Value.int .u8) ?_)
 rw [Int.fdiv_eq_ediv_of_nonneg _ (by omega)]
 omega
theorem and15 : ∀ n : Fin 256, (BitVec.ofInt 8 (n.val : Int) &&& BitVec.ofInt 8 15).toNat = n.val % 16 := by decide +kernel
theorem qig {ρ : Operand → Value} {h : Heap} {K : Value → Heap → Prop} {dst : Option Tmp} {ty : TypeId} {pos : String} {aft : Array Edge} {g : Option (Nat × Bool)} {t t' : TypeId} {x y : Operand} {c : UInt8} (hx : ρ x = .int .u8 (c.toNat : Int)) (hy : ρ y = .int .u8 15) (kk : K (.int .u8 ((c.toNat % 16 : Nat) : Int)) h) :
  AOp prog ⟨dst, .binOp .and t x y t', ty, pos, aft, g⟩ ρ h K := by
 refine qaZ hx hy (v := .int .u8 ((c.toNat % 16 : Nat) : Int)) ?_ kk
 have e := and15 ⟨c.toNat, c.toNat_lt⟩
 show some (Value.int .u8 (IntKind.u8.wrap ((BitVec.ofInt 8 (c.toNat : Int) &&& BitVec.ofInt 8 15).toNat : Int))) = _
 rw [e]
 refine congrArg some (congrArg (Value.int .u8) ?_)
 have e2 : ∀ z : Int, IntKind.u8.wrap z = z % 256 := fun _ => rfl
 rw [e2]
 show (((c.toNat % 16 : Nat) : Int)) % 256 = _
 omega
theorem hex_at : ∀ n : Fin 16, (((wordHex.take (16 : Int).toNat).drop ((n.val : Nat) : Int).toNat).take (1 : Int).toNat).drop (0 : Int).toNat = [hexC n.val] := by decide +kernel
theorem enc_len (c : UInt8) : (encB c).length ≤ 3 := by unfold encB; split <;> simp
theorem qcT (l : Bytes) : (l.flatMap encB).length ≤ 3 * l.length := by
 induction l with
 | nil => simp
 | cons c l ih =>
  have := enc_len c
  simp only [Cn, An, Ad]
  omega
theorem qc6 {α β : Type} {f : α → List β} {l : List α} {k : Nat} {x : α} (hx : l[k]? = some x) : (l.take (k + 1)).flatMap f = (l.take k).flatMap f ++ f x := by
 rw [Bf, hx]
 simp
theorem bvAt {l : Bytes} {k : Nat} {c : UInt8} (hc : l[k]? = some c) {a : Int} (ha : a = (k : Nat)) : (bv l)[a.toNat]? = some (.int .u8 (c.toNat : Int)) := by
 subst ha
 exact qgJ l k c hc
theorem word_c (v : Value) (l : Bytes) (h : Heap) (r : RB h v l) (hl : l.length ≤ 100000000) : ACalls prog 93 [v] h fun u h' => u = str (wordM l) ∧ h' = h := by
 refine aL fun wf => aO ?_
 refine aD func93 rfl rfl ?_
 obtain ⟨va, vc, hv⟩ := bC r
 by_cases h0 : l.length = 0
 ·
  have hl0 : l = [] := Ce.1 h0
  repeat (first | refine W.w ?_ | refine aE rfl ?_ | (refine zz rfl ?_; first | refine qah rfl ?_ | refine qaJ r rfl ?_ | refine qak rfl rfl rfl (by omega) ?_ | refine qal (by conv => lhs; whnf) ?_))
  refine ⟨_, aC rfl, rfl, aU h, ?_, rfl⟩
  rw [hl0]
  rfl
 ·
  have hne : ¬ l = [] := fun e => h0 (by rw [e]; rfl)
  repeat (first | refine W.w ?_ | refine aG rfl ?_ | (refine zz rfl ?_; first | refine qah rfl ?_ | refine qaJ r rfl ?_ | refine qai rfl rfl rfl (by omega) ?_ | refine qax ?_ | refine qal (v := v) rfl ?_))
  have d0 : Bd h (h.alloc (bldB (.pointer none) (.slice none 0 0))) h.next [] := Bd.new wf
  have rx := wf.ext (bldB (.pointer none) (.slice none 0 0))
  refine aS (h := h.alloc (bldB (.pointer none) (.slice none 0 0))) rfl ?_
  generalize h.alloc (bldB (.pointer none) (.slice none 0 0)) = H0 at d0 rx ⊢
  repeat (first | refine W.w ?_ | refine zz rfl (qac rfl ?_) | refine zz rfl (qaJ (r.ext rx) rfl ?_))
  refine bB (α := Nat × Heap) (fun d => [(3, ptr h.next), (9, v), (10, .int .i64 (l.length : Nat)), (11, .int .i64 (d.1 : Nat))]) (fun d => d.2) (fun d => d.1 ≤ l.length ∧ Bd h d.2 h.next ((l.take d.1).flatMap encB)) (fun d => l.length - d.1) (0, H0) ⟨Ao _, d0⟩
   (aI (aA rfl (aA rfl (aA rfl (aA rfl aN))))) ?_
  rintro ⟨k, H⟩ ⟨hk, d⟩
  replace hk : k ≤ l.length := hk
  replace d : Bd h H h.next ((l.take k).flatMap encB) := d
  show AWp _ _ _ _ [(3, ptr h.next), (9, v), (10, .int .i64 (l.length : Nat)), (11, .int .i64 (k : Nat))] H
  have hlen := qcT (l.take k)
  rw [Bb] at hlen
  by_cases hlt : k < l.length
  ·
   obtain ⟨ch, hc⟩ := gX (l := l) (k := k) hlt
   have hft := qc6 (f := encB) hc
   repeat (first | refine W.w ?_ | refine aE rfl ?_ | refine zz rfl (qak rfl rfl rfl (by omega) ?_) | refine zz rfl (qba (r.ext d.hx) rfl rfl (by omega) (bvAt hc rfl) ?_))
   intro p hp
   by_cases hp1 : plainC ch = true
   ·
    have he := qct hp1
    obtain ⟨q1, q2, q3⟩ : 32 < ch.toNat ∧ ch.toNat < 127 ∧ ch.toNat ≠ 37 := of_decide_eq_true hp1
    have cw := qhV d ch (by omega)
    rw [← he] at cw
    repeat (first | refine W.w ?_ | refine aE rfl ?_ | (refine zz rfl ?_; first | refine qac rfl ?_ | refine qae rfl ?_ | refine qad rfl ?_ | refine qar hp rfl rfl ?_ | refine qak rfl rfl rfl (by omega) ?_ | refine qag (v := .bool _) rfl rfl ?_ | refine qat rfl rfl (cw.mono ?_)))
    rintro _ H' ⟨rfl, d'⟩
    repeat (first | refine W.w ?_ | refine zz rfl (qac rfl ?_) | refine zz rfl (qau rfl rfl (by omega) ?_))
    exact ⟨(k + 1, H'), ⟨hlt, by show Bd h H' h.next ((l.take (k + 1)).flatMap encB); rw [hft]; exact d'⟩, by show l.length - (k + 1) < l.length - k; omega, aI (aA rfl (aA rfl (aA rfl (aA rfl aN))))⟩
   ·
    have he := qeq hp1
    have hp2 : ¬ (32 < ch.toNat ∧ ch.toNat < 127 ∧ ch.toNat ≠ 37) := fun e => hp1 (Al e)
    have lc := ch.toNat_lt
    have hA := hex_at ⟨ch.toNat / 16, by omega⟩
    have hB := hex_at ⟨ch.toNat % 16, by omega⟩
    have cw := writeStr_c d (encB ch) (by rw [he]; simp) (by have := enc_len ch; omega)
    rw [he] at cw
    have hstr : str ([37] ++ (((wordHex.take (16 : Int).toNat).drop ((ch.toNat / 16 : Nat) : Int).toNat).take (1 : Int).toNat).drop (0 : Int).toNat ++ (((wordHex.take (16 : Int).toNat).drop ((ch.toNat % 16 : Nat) : Int).toNat).take (1 : Int).toNat).drop (0 : Int).toNat) = str [37, hexC (ch.toNat / 16), hexC (ch.toNat % 16)] := by
     have hA' : (((wordHex.take (16 : Int).toNat).drop ((ch.toNat / 16 : Nat) : Int).toNat).take (1 : Int).toNat).drop (0 : Int).toNat = [hexC (ch.toNat / 16)] := hA
     have hB' : (((wordHex.take (16 : Int).toNat).drop ((ch.toNat % 16 : Nat) : Int).toNat).take (1 : Int).toNat).drop (0 : Int).toNat = [hexC (ch.toNat % 16)] := hB
     rw [hA', hB']
     rfl
    repeat' (first | refine W.w ?_ | refine aK rfl rfl ?_ | refine aG rfl ?_ | (refine zz rfl ?_; first | refine qac rfl ?_ | refine qae rfl ?_ | refine qad rfl ?_ | refine qar hp rfl rfl ?_ | refine qai rfl rfl rfl (by omega) ?_ | refine qaT rfl rfl rfl (fun c => ?_) (fun c => ?_) | refine qag (v := .bool _) rfl rfl ?_))
    all_goals first | (exfalso; omega) | skip
    all_goals (
     refine bJ (σ := [(0, .R), (1, .R), (2, .R), (3, .R), (4, .R), (5, .R), (6, .R), (7, .R), (8, .R), (9, .R), (10, .W)]) mixed (by kernel_rfl) ?_
     repeat (first | refine dr rfl rfl (fun _ hx _ => qac rfl ⟨rfl, rfl⟩) ?_ | refine dr rfl rfl (fun _ hx _ => op_shr4 rfl rfl ⟨rfl, rfl⟩) ?_ | refine dr rfl rfl (fun _ hx _ => qig rfl rfl ⟨rfl, rfl⟩) ?_ | refine dr rfl rfl (fun _ hx _ => qa8 (s := wordHex) (l := ((ch.toNat / 16 : Nat) : Int)) (m := 16) rfl rfl rfl (by omega) (by omega) (by show (16 : Int) ≤ ((16 : Nat) : Int); omega) ⟨rfl, rfl⟩) ?_ | refine dr rfl rfl (fun _ hx _ => qa8 (s := wordHex) (l := ((ch.toNat % 16 : Nat) : Int)) (m := 16) rfl rfl rfl (by omega) (by omega) (by show (16 : Int) ≤ ((16 : Nat) : Int); omega) ⟨rfl, rfl⟩) ?_ | refine dr rfl rfl (fun _ hx _ => qa8 (l := 0) (m := 1) rfl rfl rfl (by omega) (by omega) (by rw [Dj, Bb]; show (1 : Int) ≤ ((min 16 16 - _ : Nat) : Int); omega) ⟨rfl, rfl⟩) ?_ | refine dr rfl rfl (fun _ hx _ => qbZ rfl rfl (by simp only [maxLen, An, Dj, Bb, Ad, Ag]; omega) ⟨rfl, rfl⟩) ?_)
     refine DAL.w rfl rfl rfl ?_
     refine qat (evs := [ptr h.next, str [37, hexC (ch.toNat / 16), hexC (ch.toNat % 16)]]) rfl (by rw [← hstr]; rfl) (cw.mono ?_)
     rintro _ H' ⟨rfl, d'⟩
     refine aX ?_
     repeat (first | refine W.w ?_ | refine zz rfl (qac rfl ?_) | refine zz rfl (qau rfl rfl (by omega) ?_))
     exact ⟨(k + 1, H'), ⟨hlt, by show Bd h H' h.next ((l.take (k + 1)).flatMap encB); rw [hft, he]; exact d'⟩, by show l.length - (k + 1) < l.length - k; omega, aI (aA rfl (aA rfl (aA rfl (aA rfl aN))))⟩)
  ·
   obtain rfl : k = l.length := by omega
   rw [Au] at d hlen
   repeat (first | refine aW ?_ | refine aR ?_ | refine aY ?_ | refine aG rfl ?_ | refine aP ?_ | refine zz rfl (qai rfl rfl rfl (by omega) ?_))
   refine zz rfl (qat rfl rfl ((bString_c d (by have := qcT l; omega)).mono ?_))
   rintro _ H' ⟨rfl, x'⟩
   repeat (first | refine W.w ?_ | refine zz rfl (qah rfl ?_))
   have e : wordM l = l.flatMap encB := by unfold wordM; rw [Ac hne]
   rw [e]
   exact ⟨_, aC rfl, rfl, x', rfl, rfl⟩
end Go.Proofs.YtigmojilaadbhaaGreatDoor
/- . -/
namespace Go.Eng
open Go
section
variable {P : Program} {ρ : Operand → Value} {h : Heap} {K : Value → Heap → Prop} {dst : Option Tmp} {ty : TypeId} {pos : String} {aft : Array Edge} {g : Option (Nat × Bool)}
theorem op_eqIfI {t t' u : TypeId} {k k0 : IntKind} {a b : Int} {x y : Operand} {ms : Array (String × TypeId)} [td : TyD P t (.interface ms)] [tu : TyD P u (.int k0)] (hc : (P.info? u).map (fun i => i.comparable) = some true) (hx : ρ x = .iface u (.int k a)) (hy : ρ y = .iface u (.int k b))
  (kk : K (.bool (a == b)) h) : AOp P ⟨dst, .binOp .eql t x y t', ty, pos, aft, g⟩ ρ h K :=
 .of_pure kk fun φ ac w r => by
  obtain ⟨v1, e1, r1⟩ := (hx ▸ r.ev x (by simp [Op.operands])).iface_inv
  obtain ⟨v2, e2, r2⟩ := (hy ▸ r.ev y (by simp [Op.operands])).iface_inv
  rw [r1.int_inv] at e1
  rw [r2.int_inv] at e2
  obtain ⟨i, hi, hci⟩ := Option.map_eq_some_iff.1 hc
  have hti : (typeInfo u).run P w = .ok i w := by simp [typeInfo, hi]
  have e4 : ∀ d, (Op.equalIn (d + 2) t (.iface u (.int k a)) (.iface u (.int k b))).run P w = .ok (a == b) w := fun d => by
   simp [Op.equalIn, td.run, hti, hci, tu.run]
  have e5 : (Op.equal t (.iface u (.int k a)) (.iface u (.int k b))).run P w = .ok (a == b) w := e4 9998
  exact ⟨.bool (a == b), by simp [execOp, e1, e2, eqGuard, binOp, e5], .bool _⟩
theorem qfB {k : IntKind} {t t' : TypeId} {x y : Operand} {a b c : Int} (hx : ρ x = .int k a) (hy : ρ y = .int k b) (hw : k.wrap (a + b) = c) (kk : K (.int k c) h) : AOp P ⟨dst, .binOp .add t x y t', ty, pos, aft, g⟩ ρ h K :=
 qaZ hx hy (v := .int k c) (by simp [binI, hw]) kk
theorem qhM {k : IntKind} {t t' : TypeId} {x y : Operand} {a b c : Int} (hx : ρ x = .int k a) (hy : ρ y = .int k b) (hw : k.wrap (a - b) = c) (kk : K (.int k c) h) : AOp P ⟨dst, .binOp .sub t x y t', ty, pos, aft, g⟩ ρ h K :=
 qaZ hx hy (v := .int k c) (by simp [binI, hw]) kk
theorem op_mulK {k : IntKind} {t t' : TypeId} {x y : Operand} {a b c : Int} (hx : ρ x = .int k a) (hy : ρ y = .int k b) (hw : k.wrap (a * b) = c) (kk : K (.int k c) h) : AOp P ⟨dst, .binOp .mul t x y t', ty, pos, aft, g⟩ ρ h K :=
 qaZ hx hy (v := .int k c) (by simp [binI, hw]) kk
theorem qck {s d : TypeId} {x : Operand} {k k' ks : IntKind} {a c : Int} [ts : TyD P s (.int ks)] [td : TyD P d (.int k')] (hx : ρ x = .int k a) (hw : k'.wrap a = c) (kk : K (.int k' c) h) : AOp P ⟨dst, .convert s d x, ty, pos, aft, g⟩ ρ h K :=
 qiB hx (hw ▸ kk)
end
end Go.Eng
/- . -/
namespace Go.Proofs.YtigmojilaadbhaaGreatDoor
open Go Go.Eng Go.Pln Go.Lib Go.Proofs.Tryz
attribute [local irreducible] AWp AL DAL AOp
instance i_lower : FnC prog 210 := ⟨Tryz.f210, func210, by kernel_rfl, by kernel_rfl⟩
instance i_puI : FnC prog 202 := ⟨Tryz.f202, func202, by kernel_rfl, by kernel_rfl⟩
instance i_TyD_uint64 : TyD prog 221 (.int .u64) := ⟨underlying221⟩
instance i_TyD_uint : TyD prog 182 (.int .u64) := ⟨underlying182⟩
instance qd3 : TyD prog 238 (.int .i64) := ⟨underlying238⟩
def lowN (n : Nat) : Nat := (BitVec.ofInt 8 (n : Int) ||| BitVec.ofInt 8 32).toNat
theorem low_lt : ∀ n : Fin 256, lowN n.val < 256 := by decide +kernel
theorem lower_c (c : UInt8) (h : Heap) : ACalls prog 210 [.int .u8 (c.toNat : Int)] h fun u h' => u = .int .u8 (lowN c.toNat : Nat) ∧ h' = h := by
 refine aD func210 rfl rfl ?_
 have hl := low_lt ⟨c.toNat, c.toNat_lt⟩
 have e : binI .or .u8 (c.toNat : Int) .u8 32 = some (.int .u8 (lowN c.toNat : Nat)) := by
  show some (Value.int .u8 (IntKind.u8.wrap ((BitVec.ofInt 8 (c.toNat : Int) ||| BitVec.ofInt 8 32).toNat : Int))) = _
  have e2 : ∀ z : Int, IntKind.u8.wrap z = z % 256 := fun _ => rfl
  rw [e2]
  refine congrArg some (congrArg (Value.int .u8) ?_)
  show ((lowN c.toNat : Nat) : Int) % 256 = _
  simp only at hl
  omega
 repeat (first | refine W.w ?_ | (refine zz rfl ?_; first | refine qac rfl ?_ | refine qad rfl ?_ | refine qaZ rfl rfl e ?_))
 exact ⟨_, aC rfl, rfl, rfl⟩
theorem dig_class : ∀ n : Fin 256, (48 ≤ n.val ∧ n.val ≤ 57 → digP (UInt8.ofNat n.val) = n.val - 48) ∧
  (¬ (48 ≤ n.val ∧ n.val ≤ 57) → 97 ≤ lowN n.val ∧ lowN n.val ≤ 122 → if lowN n.val - 87 < 16 then digP (UInt8.ofNat n.val) = lowN n.val - 87 else ¬ digP (UInt8.ofNat n.val) < 16) ∧
  (¬ (48 ≤ n.val ∧ n.val ≤ 57) → ¬ (97 ≤ lowN n.val ∧ lowN n.val ≤ 122) → ¬ digP (UInt8.ofNat n.val) < 16) := by decide +kernel
def hexV (l : Bytes) : Nat := l.foldl (fun a c => a * 16 + digP c) 0
theorem hexV_add {s : Bytes} {k : Nat} {c : UInt8} (hc : s[k]? = some c) : hexV (s.take (k + 1)) = hexV (s.take k) * 16 + digP c := by
 rw [Bf, hc]
 simp [hexV, List.foldl_append]
theorem hexV_ok {s : Bytes} (h0 : 1 ≤ s.length) (h2 : s.length ≤ 2) (h : s.all (fun c => decide (digP c < 16)) = true) : hexV s = hex2 s := by
 match s, h0, h2, h with
 | [a], _, _, h =>
  simp only [Bc, Eh, Df, Aq] at h
  simp [hexV, hex2, h]
 | [a, b], _, _, h =>
  simp only [Bc, Eh, Df, Ae, Aq] at h
  simp [hexV, hex2, h]
 | _ :: _ :: _ :: _, _, h2, _ => simp at h2
theorem hex2_bad {s : Bytes} (h2 : s.length ≤ 2) {k : Nat} {c : UInt8} (hc : s[k]? = some c) (hd : ¬ digP c < 16) : hex2 s = 0 := by
 match s, h2 with
 | [], _ => rfl
 | [a], _ =>
  match k with
  | 0 => cases hc; simp [hex2, hd]
  | k + 1 => simp at hc
 | [a, b], _ =>
  match k with
  | 0 => cases hc; simp [hex2, hd]
  | 1 => cases hc; simp [hex2, hd]
  | k + 2 => simp at hc
 | _ :: _ :: _ :: _, h2 => simp at h2
theorem hexV_lt {l : Bytes} (h : l.all (fun c => decide (digP c < 16)) = true) (hl : l.length ≤ 1) : hexV l < 16 := by
 match l, hl, h with
 | [], _, _ => decide
 | [a], _, h =>
  simp only [Bc, Eh, Df, Aq] at h
  simp [hexV, h]
 | _ :: _ :: _, hl, _ => simp at hl
theorem ofNat_self (c : UInt8) : UInt8.ofNat c.toNat = c := by simp
theorem allTake2 {α : Type} {p : α → Bool} {l : List α} {k : Nat} {x : α} (hx : l[k]? = some x) : (l.take (k + 1)).all p = ((l.take k).all p && p x) := by
 rw [Bf, hx, Dn]
 simp
def puE (e : Value) : Prop := e = .nilIface ∨ e = .iface 238 (.int .i64 2)
theorem puI_c (s : Bytes) (h : Heap) (hs : s.length ≤ 2) : ACalls prog 202 [str s, .int .i64 16, .int .i64 8] h fun u h' => h' = h ∧ ∃ e, u = .tuple #[.int .u64 (hex2 s : Nat), e] ∧ puE e := by
 refine aL fun wf => ?_
 refine ACalls.mono (Q := fun u h' => (∃ e, u = .tuple #[.int .u64 (hex2 s : Nat), e] ∧ puE e) ∧ h' = h) ?_ fun u h' ⟨a, b⟩ => ⟨b, a⟩
 refine ACalls.resetB ?_
 have hb : ∀ e, puE e → Bdd h.next (.tuple #[.int .u64 (hex2 s : Nat), e]) := by
  rintro e (rfl | rfl)
  ·
   exact Bdd.plain (by simp [plainV, scalar])
  ·
   refine ⟨fun _ => ⟨0, 0, 0⟩, _, VRel.tuple2 (.int _ _) (.iface _ _ _ (.int _ _))⟩
 refine aD func202 rfl rfl ?_
 by_cases h0 : s = []
 ·
  subst h0
  repeat (first | refine W.w ?_ | refine aE rfl ?_ | (refine zz rfl ?_; first | refine qaj rfl ?_ | refine qad rfl ?_ | refine qaP (a := []) (b := []) rfl rfl rfl ?_ | refine qa5 rfl rfl ?_ | refine qao (by conv => lhs; whnf) ?_))
  exact ⟨_, bG rfl, hb _ (.inr rfl), aU h, ⟨_, rfl, .inr rfl⟩, rfl⟩
 ·
  have hpos : 1 ≤ s.length := Ea.2 h0
  have gp := aB h ⟨bv s, 5, true⟩
  have xp := wf.ext ⟨bv s, 5, true⟩
  repeat (first | refine W.w ?_ | refine aE rfl ?_ | refine aG rfl ?_ | (refine zz rfl ?_; first | refine qac rfl ?_ | refine qae rfl ?_ | refine qaj rfl ?_ | refine qad rfl ?_ | refine qaa rfl ?_ | refine qah rfl ?_ | refine qaM (a := s) (b := []) rfl rfl h0 ?_ | refine qak rfl rfl rfl (by omega) ?_ | refine qai rfl rfl rfl (by omega) ?_ | refine qag (v := .bool _) rfl rfl ?_ | refine qck (c := 8) rfl rfl ?_ | refine qaZ (v := .int .u64 256) rfl rfl rfl ?_ | refine qaZ (v := .int .u64 255) rfl rfl rfl ?_ | refine qiu rfl (by simp only [maxLen]; omega) ?_ | refine qch rfl ?_ | refine qao (by conv => lhs; whnf) ?_))
  generalize h.alloc ⟨bv s, 5, true⟩ = H at gp xp ⊢
  have rb : RB H (.slice (some ⟨h.next, 0, some 1⟩) s.length (s.length + 1)) s := bK gp (qaE s)
  skip
  refine bB (α := Nat) (fun k => [(0, str s), (1, .int .i64 16), (8, .bool false), (10, .int .u64 1152921504606846976), (11, .int .u64 255), (12, .bool false), (13, .int .u64 (hexV (s.take k) : Nat)), (99, .slice (some ⟨h.next, 0, some 1⟩) s.length (s.length + 1)), (100, .int .i64 (s.length : Nat)), (101, .int .i64 (k : Nat))]) (fun _ => H) (fun k => k ≤ s.length ∧ (s.take k).all (fun c => decide (digP c < 16)) = true) (fun k => s.length - k) 0 ⟨Ao _, rfl⟩
   (aI (aA rfl (aA rfl (aA rfl (aA rfl (aA rfl (aA rfl (aA rfl (aA rfl (aA rfl (aA rfl aN))))))))))) ?_
  rintro k ⟨hk, ha⟩
  by_cases hlt : k < s.length
  ·
   obtain ⟨ch, hc⟩ := gX (l := s) (k := k) hlt
   have hadd := hexV_add hc
   have hn := hexV_lt ha (by rw [Bb]; omega)
   have h256 := ch.toNat_lt
   obtain ⟨c1, c2, c3⟩ := dig_class ⟨ch.toNat, h256⟩
   simp only [ofNat_self] at c1 c2 c3
   have hlow := low_lt ⟨ch.toNat, h256⟩
   simp only at hlow
   have hst := allTake2 (p := fun c => decide (digP c < 16)) hc
   rw [ha, Cp] at hst
   have bad : ¬ digP ch < 16 → (hex2 s : Nat) = 0 := fun hd => hex2_bad hs hc hd
   generalize hexV (s.take k) = n at hadd hn ⊢
   have cl := lower_c ch H
   generalize lowN ch.toNat = lw at c2 c3 hlow cl
   have fin : ∀ d : Nat, d = digP ch → d < 16 → n * 16 + d = hexV (s.take (k + 1)) ∧ (k + 1 ≤ s.length ∧ (s.take (k + 1)).all (fun c => decide (digP c < 16)) = true) := fun d e e2 => ⟨by rw [hadd, e], hlt, by rw [hst]; exact Al (e ▸ e2)⟩
   repeat (first | refine W.w ?_ | refine aE rfl ?_ | refine zz rfl (qak rfl rfl rfl (by omega) ?_) | refine zz rfl (qba rb rfl rfl (by omega) (bvAt hc rfl) ?_))
   intro p hp
   by_cases hdg : 48 ≤ ch.toNat ∧ ch.toNat ≤ 57
   ·
    have hd : digP ch = ch.toNat - 48 := c1 hdg
    obtain ⟨f1, f2⟩ := fin (ch.toNat - 48) hd.symm (by omega)
    repeat' (first | refine W.w ?_ | refine aK rfl rfl ?_ | refine aE rfl ?_ | refine aG rfl ?_ | (refine zz rfl ?_; first | refine qac rfl ?_ | refine qae rfl ?_ | refine qad rfl ?_ | refine qaa rfl ?_ | refine qar hp rfl rfl ?_ | refine qhM (k := .u8) (c := ((ch.toNat - 48 : Nat) : Int)) rfl rfl (by show ((ch.toNat : Int) - 48) % 256 = _; omega) ?_ | refine qck (c := 16) rfl rfl ?_ | refine op_mulK (c := ((n * 16 : Nat) : Int)) rfl rfl (by show ((n : Int) * 16) % 18446744073709551616 = _; omega) ?_ | refine qck (c := ((ch.toNat - 48 : Nat) : Int)) rfl (by show _ % (18446744073709551616 : Int) = _; omega) ?_ | refine qfB (k := .u64) (c := ((n * 16 + (ch.toNat - 48) : Nat) : Int)) rfl rfl (by show _ % (18446744073709551616 : Int) = _; omega) ?_ | refine qau rfl rfl (by omega) ?_ | refine qak rfl rfl rfl (by omega) ?_ | refine qai rfl rfl rfl (by omega) ?_ | refine qag (v := .bool _) rfl rfl ?_))
    all_goals refine ⟨k + 1, f2, by omega, aI (aA rfl (aA rfl (aA rfl (aA rfl (aA rfl (aA rfl (aA (congrArg (fun z : Nat => Value.int .u64 (z : Int)) f1) (aA rfl (aA rfl (aA rfl aN))))))))))⟩
   ·
    by_cases hlr : 97 ≤ lw ∧ lw ≤ 122
    ·
     have c2' := c2 hdg hlr
     by_cases h16 : lw - 87 < 16
     ·
      rw [Ah h16] at c2'
      obtain ⟨f1, f2⟩ := fin (lw - 87) c2'.symm h16
      repeat' (first | refine W.w ?_ | refine aK rfl rfl ?_ | refine aE rfl ?_ | refine aG rfl ?_ | (refine zz rfl ?_; first | refine qac rfl ?_ | refine qae rfl ?_ | refine qad rfl ?_ | refine qaa rfl ?_ | refine qar hp rfl rfl ?_ | refine qab rfl rfl cl ?_ | refine qhM (k := .u8) (c := ((lw - 97 : Nat) : Int)) rfl rfl (by show ((lw : Int) - 97) % 256 = _; omega) ?_ | refine qfB (k := .u8) (c := ((lw - 87 : Nat) : Int)) rfl rfl (by show _ % (256 : Int) = _; omega) ?_ | refine qck (c := 16) rfl rfl ?_ | refine op_mulK (c := ((n * 16 : Nat) : Int)) rfl rfl (by show ((n : Int) * 16) % 18446744073709551616 = _; omega) ?_ | refine qck (c := ((lw - 87 : Nat) : Int)) rfl (by show _ % (18446744073709551616 : Int) = _; omega) ?_ | refine qfB (k := .u64) (c := ((n * 16 + (lw - 87) : Nat) : Int)) rfl rfl (by show _ % (18446744073709551616 : Int) = _; omega) ?_ | refine qau rfl rfl (by omega) ?_ | refine qak rfl rfl rfl (by omega) ?_ | refine qai rfl rfl rfl (by omega) ?_ | refine qaT rfl rfl rfl (fun c => ?_) (fun c => ?_) | refine qag (v := .bool _) rfl rfl ?_))
      all_goals refine ⟨k + 1, f2, by omega, aI (aA rfl (aA rfl (aA rfl (aA rfl (aA rfl (aA rfl (aA (congrArg (fun z : Nat => Value.int .u64 (z : Int)) f1) (aA rfl (aA rfl (aA rfl aN))))))))))⟩
     ·
      rw [Ac h16] at c2'
      have hz := bad c2'
      repeat' (first | refine W.w ?_ | refine aK rfl rfl ?_ | refine aE rfl ?_ | refine aG rfl ?_ | (refine zz rfl ?_; first | refine qac rfl ?_ | refine qae rfl ?_ | refine qad rfl ?_ | refine qaa rfl ?_ | refine qar hp rfl rfl ?_ | refine qab rfl rfl cl ?_ | refine qhM (k := .u8) (c := ((lw - 97 : Nat) : Int)) rfl rfl (by show ((lw : Int) - 97) % 256 = _; omega) ?_ | refine qfB (k := .u8) (c := ((lw - 87 : Nat) : Int)) rfl rfl (by show _ % (256 : Int) = _; omega) ?_ | refine qck (c := 16) rfl rfl ?_ | refine qa5 rfl rfl ?_ | refine qak rfl rfl rfl (by omega) ?_ | refine qai rfl rfl rfl (by omega) ?_ | refine qaT rfl rfl rfl (fun c => ?_) (fun c => ?_) | refine qag (v := .bool _) rfl rfl ?_ | refine qao (by conv => lhs; whnf) ?_))
      all_goals exact ⟨_, bG rfl, (by rw [hz] at hb; exact hb _ (.inr rfl)), xp, ⟨_, by rw [hz]; rfl, .inr rfl⟩, rfl⟩
    ·
     have hz := bad (c3 hdg hlr)
     repeat' (first | refine W.w ?_ | refine aK rfl rfl ?_ | refine aG rfl ?_ | (refine zz rfl ?_; first | refine qac rfl ?_ | refine qae rfl ?_ | refine qad rfl ?_ | refine qaa rfl ?_ | refine qar hp rfl rfl ?_ | refine qab rfl rfl cl ?_ | refine qa5 rfl rfl ?_ | refine qak rfl rfl rfl (by omega) ?_ | refine qai rfl rfl rfl (by omega) ?_ | refine qaT rfl rfl rfl (fun c => ?_) (fun c => ?_) | refine qag (v := .bool _) rfl rfl ?_ | refine qao (by conv => lhs; whnf) ?_))
     all_goals exact ⟨_, bG rfl, (by rw [hz] at hb; exact hb _ (.inr rfl)), xp, ⟨_, by rw [hz]; rfl, .inr rfl⟩, rfl⟩
  ·
   obtain rfl : k = s.length := by omega
   rw [Au] at ha ⊢
   rw [hexV_ok hpos hs ha]
   repeat (first | refine aW ?_ | refine aK rfl rfl ?_ | refine aR ?_ | refine aY ?_ | refine aG rfl ?_ | refine aM ?_ | refine aP ?_ | refine dD ?_ | (refine zz rfl ?_; first | refine qac rfl ?_ | refine qae rfl ?_ | refine qad rfl ?_ | refine qai rfl rfl rfl (by omega) ?_ | refine qag (v := .bool _) rfl rfl ?_ | refine qao (by conv => lhs; whnf) ?_))
   exact ⟨_, bG rfl, hb _ (.inl rfl), xp, ⟨_, rfl, .inl rfl⟩, rfl⟩
instance i_clone : FnC prog 203 := ⟨Tryz.f203, func203, by kernel_rfl, by kernel_rfl⟩
instance i_synErr : FnC prog 185 := ⟨Tryz.f185, func185, by kernel_rfl, by kernel_rfl⟩
instance i_toErr : FnC prog 162 := ⟨Tryz.f162, func162, by kernel_rfl, by kernel_rfl⟩
instance i_pu : FnC prog 189 := ⟨Tryz.f189, func189, by kernel_rfl, by kernel_rfl⟩
instance qfe : TyD prog 241 (.pointer 259) := ⟨underlying241⟩
instance qf6 : TyI prog 259 3 48 (.agg #[.string ⟨#[]⟩, .string ⟨#[]⟩, .nilIface]) := ⟨qaV (by kernel_rfl), rfl, rfl⟩
instance qf5 : StD prog 259 [(0, 1), (1, 1), (2, 1)] := ⟨_, underlying259, by kernel_rfl⟩
theorem set_full (h : Heap) (s : Bytes) (e : TypeId) : (h.alloc ⟨List.replicate ((s.length : Nat) : Int).toNat (.int .u8 0), e, true⟩).set h.next ⟨splice (List.replicate ((s.length : Nat) : Int).toNat (Value.int .u8 0)) 0 ((bv s).take (min s.length ((s.length : Nat) : Int).toNat)), e, true⟩ = h.alloc ⟨bv s, e, true⟩ := by
 rw [cU]
 have e1 : ((s.length : Nat) : Int).toNat = s.length := Dq _
 rw [e1, Nat.min_self, Cr (by rw [qaE]; exact Aa _)]
 have e2 : splice (List.replicate s.length (Value.int .u8 0)) 0 (bv s) = bv s := by
  unfold splice
  rw [Dl (by rw [List.length_replicate, qaE]; omega)]
  simp
 rw [e2]
theorem clone_c (s : Bytes) (h : Heap) (hl : s.length ≤ 1000000000) : ACalls prog 203 [str s] h fun u h' => u = str s ∧ Ext h h' := by
 refine aL fun wf => ?_
 refine aD func203 rfl rfl ?_
 by_cases h0 : s = []
 ·
  subst h0
  repeat (first | refine W.w ?_ | refine aE rfl ?_ | (refine zz rfl ?_; first | refine qaj rfl ?_ | refine qah rfl ?_ | refine qaG (l := []) rfl ?_ | refine qak rfl rfl rfl (by decide) ?_))
  exact ⟨_, aC rfl, rfl, aU h⟩
 ·
  have hpos : 1 ≤ s.length := Ea.2 h0
  have hg := aB h ⟨List.replicate ((s.length : Nat) : Int).toNat (.int .u8 0), 5, true⟩
  repeat (first | refine W.w ?_ | refine aG rfl ?_ | (refine zz rfl ?_; first | refine qdZ rfl ?_ | refine qaj rfl ?_ | refine qaR rfl ?_ | refine qah rfl ?_ | refine qaG rfl ?_ | refine qai rfl rfl rfl (by omega) ?_ | refine op_make (z := .int .u8 0) rfl rfl (by omega) (by omega) (by omega) (by omega) rfl ?_))
  refine zz rfl (op_copy (z := .int .u8 0) rfl rfl (bs_src _ s) hg rfl (by show 0 + min s.length _ ≤ (List.replicate _ _).length; rw [List.length_replicate]; omega) (qcG s) ?_)
  refine aS (set_full h s _) ?_
  have gp := aB h ⟨bv s, 5, true⟩
  have xp := wf.ext ⟨bv s, 5, true⟩
  generalize hH : h.alloc ⟨bv s, 5, true⟩ = H at gp xp ⊢
  have rb : RB H (.slice (some ⟨h.next, 0, some 1⟩) s.length s.length) s := bK gp (qaE s)
  repeat (first | refine W.w ?_ | (refine zz rfl ?_; first | refine qdZ rfl ?_ | refine qah rfl ?_ | refine qeI rfl rfl (by omega) (by omega) ?_ | refine qaJ rb rfl ?_ | refine qgz (l := s) rfl rfl h0 (by omega) gp ?_))
  refine ⟨_, aC rfl, rfl, ⟨fun j x hj => ?_, fun j x hj => xp.o j x hj⟩⟩
  have hlt := wf.lt hj
  simp only [Heap.kill]
  rw [Ac (by omega)]
  exact xp.c j x hj
abbrev numE (f s : Bytes) (e : Value) : List Value := [str f, str s, e]
theorem synErr_c (f s : Bytes) (h : Heap) (t : Tabs h) (hl : s.length ≤ 1000000000) : ACalls prog 185 [str f, str s] h fun u h' => (∃ i, u = ptr i) ∧ Ext h h' := by
 refine aL fun wf => ?_
 refine aD func185 rfl rfl ?_
 repeat (first | refine W.w ?_ | refine zz rfl (qcE rfl ?_))
 refine bJ (σ := [(0, .R), (1, .R), (3, .R), (2, .X), (4, .R), (5, .X), (6, .R)]) mixed (by kernel_rfl) ?_
 repeat (first | refine dr rfl rfl (fun _ hx _ => qaj rfl ⟨rfl, rfl⟩) ?_ | refine dr rfl rfl (fun _ hx _ => qaf rfl rfl (hx.c _ _ t.syn) rfl ⟨rfl, rfl⟩) ?_)
 refine DAL.x rfl rfl rfl ?_
 refine qat (evs := [str s]) rfl rfl ((clone_c s h hl).wf_post.mono ?_)
 rintro _ H1 ⟨⟨rfl, x1⟩, wf1, _⟩
 refine ⟨x1, ?_⟩
 repeat (first | refine dr rfl rfl (fun _ hx _ => qay (out := numE f s (.iface 262 undef)) rfl rfl ⟨rfl, rfl⟩) ?_)
 refine DAL.x rfl rfl rfl (qaS (v := .agg (numE f s (.iface 262 undef)).toArray) rfl (by intro e; cases e) ⟨wf1.ext _, ?_⟩)
 repeat (first | refine dr rfl rfl (fun _ hx _ => qcE rfl ⟨rfl, rfl⟩) ?_)
 refine aX ?_
 repeat (first | refine aM ?_)
 exact ⟨_, aC rfl, ⟨_, rfl⟩, x1.trans (wf1.ext _)⟩
theorem toErr_c (f s : Bytes) (h : Heap) (t : Tabs h) (hl : s.length ≤ 1000000000) : ACalls prog 162 [str f, str s, .int .i64 16, .int .i64 8, .iface 238 (.int .i64 2)] h fun u h' => (∃ e, u = .iface 241 e) ∧ Ext h h' := by
 refine aD func162 rfl rfl ?_
 repeat (first | refine W.w ?_ | refine aE rfl ?_ | (refine zz rfl ?_; first | refine qaj rfl ?_ | refine qaa rfl ?_ | refine qal (v := .iface 238 (.int .i64 2)) rfl ?_ | refine qa5 rfl rfl ?_ | refine op_eqIfI (by kernel_rfl) rfl rfl ?_ | refine qao (by conv => lhs; whnf) ?_))
 refine zz rfl (qat (evs := [str f, str s]) rfl rfl ((synErr_c f s h t hl).mono ?_))
 rintro _ H1 ⟨⟨i, rfl⟩, x1⟩
 repeat (first | refine W.w ?_ | refine zz rfl (qa5 rfl rfl ?_) | refine zz rfl (qao (by conv => lhs; whnf) ?_))
 exact ⟨_, aC rfl, ⟨_, rfl⟩, x1⟩
theorem pu_c (s : Bytes) (h : Heap) (t : Tabs h) (hs : s.length ≤ 2) : ACalls prog 189 [str s, .int .i64 16, .int .i64 8] h fun u h' => (∃ e, u = .tuple #[.int .u64 (hex2 s : Nat), e]) ∧ Ext h h' := by
 refine aD func189 rfl rfl ?_
 repeat (first | refine W.w ?_ | (refine zz rfl ?_; first | refine qac rfl ?_ | refine qaj rfl ?_ | refine qad rfl ?_ | refine qao (by conv => lhs; whnf) ?_))
 refine zz rfl (qat (evs := [str s, .int .i64 16, .int .i64 8]) rfl rfl ((puI_c s h hs).mono ?_))
 rintro _ H1 ⟨hH, e, rfl, he⟩
 cases hH.symm
 rcases he with rfl | rfl
 ·
  repeat (first | refine W.w ?_ | refine aG rfl ?_ | (refine zz rfl ?_; first | refine qac rfl ?_ | refine qaC rfl ?_ | refine qad rfl ?_ | refine qav rfl rfl ?_ | refine qal (v := .nilIface) rfl ?_ | refine qao (v := .nilIface) rfl ?_ | refine qfY rfl ?_))
  exact ⟨_, bG rfl, ⟨_, rfl⟩, aU h⟩
 ·
  repeat (first | refine W.w ?_ | refine aE rfl ?_ | (refine zz rfl ?_; first | refine qac rfl ?_ | refine qaj rfl ?_ | refine qaC rfl ?_ | refine qad rfl ?_ | refine qav rfl rfl ?_ | refine qal (v := .iface 238 (.int .i64 2)) rfl ?_ | refine qao (v := .iface 238 (.int .i64 2)) rfl ?_ | refine qim rfl ?_))
  refine zz rfl (qat (evs := [str [80, 97, 114, 115, 101, 85, 105, 110, 116], str s, .int .i64 16, .int .i64 8, .iface 238 (.int .i64 2)]) rfl rfl ((toErr_c _ s h t (by omega)).mono ?_))
  rintro _ H1 ⟨⟨e, rfl⟩, x1⟩
  repeat (first | refine W.w ?_ | refine zz rfl (qad rfl ?_) | refine zz rfl (qao (by conv => lhs; whnf) ?_))
  exact ⟨_, bG rfl, ⟨_, rfl⟩, x1⟩
theorem op_dig {ρ : Operand → Value} {h : Heap} {K : Value → Heap → Prop} {dst : Option Tmp} {ty : TypeId} {pos : String} {aft : Array Edge} {g : Option (Nat × Bool)} {t t' : TypeId} {x y : Operand} {a : Nat} (h0 : 48 ≤ a) (h1 : a < 256) (hx : ρ x = .int .u8 (a : Nat)) (hy : ρ y = .int .u8 48) (kk : K (.int .u8 ((a - 48 : Nat) : Int)) h) :
  AOp prog ⟨dst, .binOp .sub t x y t', ty, pos, aft, g⟩ ρ h K := by
 refine qaZ hx hy (v := .int .u8 ((a - 48 : Nat) : Int)) ?_ kk
 show some (Value.int .u8 (IntKind.u8.wrap ((a : Int) - 48))) = _
 have e : IntKind.u8.wrap ((a : Int) - 48) = ((a : Int) - 48) % 256 := rfl
 rw [e]
 refine congrArg some (congrArg (Value.int .u8) ?_)
 omega
theorem qcv (s : Bytes) (k : Nat) : (bstr s)[((k : Nat) : Int).toNat]? = s[k]? := by
 show (bstr s).data[k]? = _
 simp [bstr]
theorem qiN : ∀ {l : Bytes}, l.all digB = true → ∀ acc : Nat, Pln.valOf acc l < (acc + 1) * 10 ^ l.length
 | [], _, acc => by
  show acc < (acc + 1) * 10 ^ 0
  omega
 | c :: l, h, acc => by
  simp only [Bc, Ae] at h
  have h1 : 48 ≤ c.toNat ∧ c.toNat ≤ 57 := of_decide_eq_true h.1
  have h2 := qiN h.2 (acc * 10 + (c.toNat - 48))
  show Pln.valOf (acc * 10 + (c.toNat - 48)) l < _
  rw [Ad, Nat.pow_succ]
  have h3 : (acc * 10 + (c.toNat - 48) + 1) * 10 ^ l.length ≤ (acc + 1) * 10 * 10 ^ l.length := Bo _ (by omega)
  have h4 : (acc + 1) * (10 ^ l.length * 10) = (acc + 1) * 10 * 10 ^ l.length := by rw [Nat.mul_comm (10 ^ l.length), Nat.mul_assoc]
  omega
theorem valOf_ten {l : Bytes} (h : l.all digB = true) (hl : l.length ≤ 10) : Pln.valOf 0 l < 10000000000 := by
 have h1 := qiN h 0
 have h2 : 10 ^ l.length ≤ 10 ^ 10 := Dv (by omega) hl
 omega
theorem all_take {s : Bytes} {k : Nat} {b : UInt8} (hb : s[k]? = some b) : (s.take (k + 1)).all digB = ((s.take k).all digB && digB b) := by
 rw [Bf, hb, Dn]
 simp
theorem val_take {s : Bytes} {k : Nat} {b : UInt8} (hb : s[k]? = some b) : Pln.valOf 0 (s.take (k + 1)) = Pln.valOf 0 (s.take k) * 10 + (b.toNat - 48) := by
 rw [Bf, hb]
 exact Pln.valOf_app 0 _ b
theorem all_no {s : Bytes} {k : Nat} {b : UInt8} (hb : s[k]? = some b) (h : digB b = false) : s.all digB = false := by
 cases ha : s.all digB with
 | false => rfl
 | true =>
  have := Ai.1 ha b (Aw hb)
  rw [h] at this
  cases this
instance qdF : FnC prog 105 := ⟨Tryz.f105, func105, by kernel_rfl, by kernel_rfl⟩
theorem qfx (s : Bytes) (h : Heap) (hl : s.length ≤ 1000000000) (t : Tabs h) : ACalls prog 105 [str s] h fun u h' => u = .int .i64 (numR s) ∧ h' = h := by
 refine aD func105 rfl rfl ?_
 by_cases h1 : 1 ≤ s.length
 ·
  by_cases h2 : s.length ≤ 10
  ·
   repeat (first | refine W.w ?_ | refine aG rfl ?_ | (refine zz rfl ?_; first | refine qae rfl ?_ | refine qaj rfl ?_ | refine qad rfl ?_ | refine qaG rfl ?_ | refine qai rfl rfl rfl (by omega) ?_ | refine qag (v := .bool _) rfl rfl ?_))
   refine bB (α := Nat) (fun k => [(0, str s), (3, .int .i64 (Pln.valOf 0 (s.take k) : Nat)), (4, .int .i64 (k : Nat))]) (fun _ => h) (fun k => k ≤ s.length ∧ (s.take k).all digB = true) (fun k => s.length - k) 0 ⟨Ao _, rfl⟩ (aI (aA rfl (aA rfl (aA rfl aN)))) ?_
   rintro k ⟨hk, ha⟩
   have hv := valOf_ten ha (by rw [Bb]; omega)
   by_cases hlt : k < s.length
   ·
    obtain ⟨b, hb⟩ := gX (l := s) (k := k) hlt
    have hbb : (bstr s)[((k : Nat) : Int).toNat]? = some b := (qcv s k).trans hb
    have hst := all_take hb
    have hvt := val_take hb
    have h256 := b.toNat_lt
    rw [ha, Cp] at hst
    by_cases q1 : 48 ≤ b.toNat
    ·
     by_cases q2 : b.toNat ≤ 57
     ·
      have e1 : digB b = true := Al ⟨q1, q2⟩
      repeat (first | refine W.w ?_ | refine aE rfl ?_ | refine aG rfl ?_ | (refine zz rfl ?_; first | refine qac rfl ?_ | refine qae rfl ?_ | refine qaj rfl ?_ | refine qad rfl ?_ | refine op_dig q1 h256 rfl rfl ?_ | refine qaG rfl ?_ | refine qak rfl rfl rfl (by omega) ?_ | refine qai rfl rfl rfl (by omega) ?_ | refine qag (v := .bool _) rfl rfl ?_ | refine qaK rfl rfl (by omega) hbb ?_ | refine qau rfl rfl (by omega) ?_ | refine op_mul64 rfl rfl (by omega) ?_ | refine op_conv64 rfl (by omega) ?_))
      exact ⟨k + 1, ⟨hlt, hst.trans e1⟩, by omega, aI (aA rfl (aA (congrArg (Value.int .i64) (by rw [hvt]; omega)) (aA rfl aN)))⟩
     ·
      have e1 : digB b = false := Af (by omega)
      repeat (first | refine W.w ?_ | refine aE rfl ?_ | (refine zz rfl ?_; first | refine qac rfl ?_ | refine qae rfl ?_ | refine qaj rfl ?_ | refine qad rfl ?_ | refine qaG rfl ?_ | refine qak rfl rfl rfl (by omega) ?_ | refine qai rfl rfl rfl (by omega) ?_ | refine qag (v := .bool _) rfl rfl ?_ | refine qaK rfl rfl (by omega) hbb ?_))
      refine ⟨_, aC rfl, ?_, rfl⟩
      unfold numR
      rw [Ac (by omega), all_no hb e1]
      rfl
    ·
     have e1 : digB b = false := Af (by omega)
     repeat (first | refine W.w ?_ | refine aK rfl rfl ?_ | refine aE rfl ?_ | (refine zz rfl ?_; first | refine qac rfl ?_ | refine qae rfl ?_ | refine qaj rfl ?_ | refine qad rfl ?_ | refine qaG rfl ?_ | refine qak rfl rfl rfl (by omega) ?_ | refine qag (v := .bool _) rfl rfl ?_ | refine qaK rfl rfl (by omega) hbb ?_))
     refine ⟨_, aC rfl, ?_, rfl⟩
     unfold numR
     rw [Ac (by omega), all_no hb e1]
     rfl
   ·
    obtain rfl : k = s.length := by omega
    rw [Au] at ha hv ⊢
    have ci := qis ((Pln.valOf 0 s : Nat) : Int) h t (by omega) (by omega)
    have hr : numR s = if 2147483647 < Pln.valOf 0 s ∨ itoa ((Pln.valOf 0 s : Nat) : Int) ≠ s then -1 else ((Pln.valOf 0 s : Nat) : Int) := by
     unfold numR
     rw [Ac (by omega), Ah ha]
    rw [hr]
    by_cases q1 : 2147483647 < Pln.valOf 0 s
    ·
     repeat (first | refine aW ?_ | refine aK rfl rfl ?_ | refine aR ?_ | refine aY ?_ | refine aE rfl ?_ | refine aG rfl ?_ | refine aM ?_ | refine aP ?_ | (refine zz rfl ?_; first | refine qac rfl ?_ | refine qae rfl ?_ | refine qaj rfl ?_ | refine qad rfl ?_ | refine qaG rfl ?_ | refine qak rfl rfl rfl (by omega) ?_ | refine qai rfl rfl rfl (by omega) ?_ | refine qag (v := .bool _) rfl rfl ?_))
     refine ⟨_, aC rfl, ?_, rfl⟩
     rw [Ah (.inl q1)]
     rfl
    ·
     by_cases q2 : itoa ((Pln.valOf 0 s : Nat) : Int) = s
     ·
      repeat (first | refine aW ?_ | refine aR ?_ | refine aY ?_ | refine aG rfl ?_ | refine aM ?_ | refine aP ?_ | refine dD ?_ | (refine zz rfl ?_; first | refine qac rfl ?_ | refine qae rfl ?_ | refine qaj rfl ?_ | refine qad rfl ?_ | refine qaG rfl ?_ | refine qai rfl rfl rfl (by omega) ?_ | refine qab rfl rfl ci ?_ | refine qbi rfl rfl q2 ?_ | refine qag (v := .bool _) rfl rfl ?_))
      refine ⟨_, aC rfl, ?_, rfl⟩
      rw [Ac fun e => e.elim q1 fun e2 => e2 q2]
      rfl
     ·
      repeat (first | refine aW ?_ | refine aR ?_ | refine aY ?_ | refine aE rfl ?_ | refine aG rfl ?_ | refine aM ?_ | refine aP ?_ | (refine zz rfl ?_; first | refine qac rfl ?_ | refine qae rfl ?_ | refine qaj rfl ?_ | refine qad rfl ?_ | refine qaG rfl ?_ | refine qai rfl rfl rfl (by omega) ?_ | refine qab rfl rfl ci ?_ | refine qbg rfl rfl q2 ?_ | refine qag (v := .bool _) rfl rfl ?_))
      refine ⟨_, aC rfl, ?_, rfl⟩
      rw [Ah (.inr q2)]
      rfl
  ·
   repeat (first | refine W.w ?_ | refine aE rfl ?_ | (refine zz rfl ?_; first | refine qae rfl ?_ | refine qaj rfl ?_ | refine qad rfl ?_ | refine qaG rfl ?_ | refine qak rfl rfl rfl (by omega) ?_ | refine qai rfl rfl rfl (by omega) ?_ | refine qag (v := .bool _) rfl rfl ?_))
   refine ⟨_, aC rfl, ?_, rfl⟩
   unfold numR
   rw [Ah (by omega)]
   rfl
 ·
  repeat (first | refine W.w ?_ | refine aK rfl rfl ?_ | refine aE rfl ?_ | (refine zz rfl ?_; first | refine qae rfl ?_ | refine qaj rfl ?_ | refine qad rfl ?_ | refine qaG rfl ?_ | refine qak rfl rfl rfl (by omega) ?_ | refine qag (v := .bool _) rfl rfl ?_))
  refine ⟨_, aC rfl, ?_, rfl⟩
  unfold numR
  rw [Ah (by omega)]
  rfl
end Go.Proofs.YtigmojilaadbhaaGreatDoor
