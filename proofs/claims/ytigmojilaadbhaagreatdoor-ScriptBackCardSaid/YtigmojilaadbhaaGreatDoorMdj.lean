/-
  Texts of one claim, merged: 7 parts.
-/
import Derived.Test.YtigmojilaadbhaaGreatDoorMdf
import Derived.Test.YtigmojilaadbhaaGreatDoorMdi
set_option maxHeartbeats 16000000
/- . -/
namespace Go.Eng
open Go
section
variable {P : Program} {ρ : Operand → Value} {h : Heap} {K : Value → Heap → Prop} {dst : Option Tmp} {ty : TypeId} {pos : String} {aft : Array Edge} {g : Option (Nat × Bool)}
theorem qhO (s : List UInt8) : (bstr s).data.toList = s := by simp [bstr]
theorem qh3 {sT dT e : TypeId} {x : Operand} {s : List UInt8} [ts : TyD P sT .string] [te : TyD P e (.int .u8)] [td : TyD P dT (.slice e)] (hx : ρ x = .string (bstr s)) (hs : s.length ≤ maxLen)
  (kk : K (.slice (some ⟨h.next, 0, some 1⟩) s.length (s.length + 1)) (h.alloc ⟨bv s, e, true⟩)) : AOp P ⟨dst, .convert sT dT x, ty, pos, aft, g⟩ ρ h K := by
 refine qhC hx (by rw [bstr_size]; exact hs) ?_
 rw [bstr_size, qhO]
 exact kk
theorem qaX {t kt et : TypeId} {x y : Operand} {i esz eb clock : Nat} {z u : Value} {s : List UInt8} {l : KV} [td : TyD P t (.map kt et)] [tk : TyD P kt .string] [te : TyI P et esz eb z] (hx : ρ x = .map (some i)) (hy : ρ y = .string (bstr s)) (hi : h.obj i = some (.map (ents l) clock)) (hz : plainV z = true)
  (he : (getS l s).getD z = u) (kk : K u h) : AOp P ⟨dst, .lookup t x y false, ty, pos, aft, g⟩ ρ h K := op_lookup hx hy hi hz (he ▸ kk)
end
end Go.Eng
/- . -/
namespace Go.Proofs.YtigmojilaadbhaaGreatDoor
open Go Go.Eng Go.Pln Go.Lib
attribute [local irreducible] AWp AL DAL AOp
instance i_copyCheck : FnC Tryz.prog 115 := ⟨Tryz.f115, Tryz.func115, by kernel_rfl, by kernel_rfl⟩
instance i_writeByte : FnC Tryz.prog 125 := ⟨Tryz.f125, Tryz.func125, by kernel_rfl, by kernel_rfl⟩
instance i_writeString : FnC Tryz.prog 82 := ⟨Tryz.f82, Tryz.func82, by kernel_rfl, by kernel_rfl⟩
instance i_bString : FnC Tryz.prog 84 := ⟨Tryz.f84, Tryz.func84, by kernel_rfl, by kernel_rfl⟩
instance i_bLen : FnC Tryz.prog 83 := ⟨Tryz.f83, Tryz.func83, by kernel_rfl, by kernel_rfl⟩
instance qej : XtC Tryz.prog 147 Extern.AbiNoEscape.same := ⟨Tryz.f147, by kernel_rfl, by kernel_rfl, by kernel_rfl, by kernel_rfl, by kernel_rfl⟩
instance qfn : TyD Tryz.prog 127 (.pointer 129) := ⟨Tryz.underlying127⟩
instance qfg : TyI Tryz.prog 127 1 8 (.pointer none) := ⟨qaK (by kernel_rfl), rfl, rfl⟩
instance qgU : TyD Tryz.prog 193 .unsafePointer := ⟨Tryz.underlying193⟩
instance i_TyD_P_uint8 : TyD Tryz.prog 168 (.pointer 5) := ⟨Tryz.underlying168⟩
instance qgB : TyI Tryz.prog 129 2 32 (.agg #[.pointer none, .slice none 0 0]) := ⟨qaK (by kernel_rfl), rfl, rfl⟩
instance qez : FAd Tryz.prog 129 0 0 := FAd.mk' (ft := 127) Tryz.underlying129 rfl rfl rfl rfl
instance qeK : FAd Tryz.prog 129 1 1 := FAd.mk' (ft := 27) Tryz.underlying129 rfl rfl rfl rfl
abbrev bldB (ap sv : Value) : Blk := ⟨[ap, sv], 129, true⟩
structure Bd (h0 h : Heap) (b : Nat) (l : Bytes) : Prop where
 ex : ∃ ap sv, h.get b = some (bldB ap sv) ∧ (ap = .pointer none ∨ ap = ptr b) ∧ OS h0.next h 5 sv (bv l) ∧ (∀ s n c, sv ≠ .slice (some ⟨b, 0, s⟩) n c) ∧ (l = [] → sv = .slice none 0 0)
 hx : Ext h0 h
 wf : WF h
 wf0 : WF h0
 lo : h0.next ≤ b
theorem Bd.new {h : Heap} (wf : WF h) : Bd h (h.alloc (bldB (.pointer none) (.slice none 0 0))) h.next [] :=
 ⟨⟨_, _, Heap.alloc_new _ _, .inl rfl, OS.nil _ _ _, (fun s n c e => by cases e), fun _ => rfl⟩, wf.ext _, wf.alloc _, wf, Nat.le_refl _⟩
theorem qd4 {h0 h : Heap} {b : Nat} {l : Bytes} (d : Bd h0 h b l) : ACalls Tryz.prog 115 [ptr b] h fun _ h' => ∃ sv, h' = h.set b (bldB (ptr b) sv) ∧ ∃ ap, h.get b = some (bldB ap sv) := by
 obtain ⟨ap, sv, hg, hap, ho, hne, hnil⟩ := d.ex
 refine ACalls.body Tryz.func115 rfl rfl ?_
 rcases hap with rfl | rfl
 ·
  repeat (first | refine W.w ?_ | refine AWp.c8 rfl ?_ | refine AL.eff rfl (qaP (v := ptr b) rfl rfl rfl hg rfl (by show 0 < 2; omega) ?_) | (refine zz rfl ?_; first | refine qaw rfl ?_ | refine qaA rfl ?_ | refine qap rfl ?_ | refine qae rfl rfl hg rfl ?_ | refine qen rfl rfl ?_ | refine op_toUns rfl rfl hg rfl (by show 0 < 2; omega) ?_ | refine qg6 rfl rfl ?_ | refine op_fromUns rfl rfl hg rfl rfl (by show 2 ≤ 2; omega) ?_))
  exact ⟨_, ResV.none rfl, sv, rfl, _, hg⟩
 ·
  repeat (first | refine W.w ?_ | refine AWp.c9 rfl ?_ | (refine zz rfl ?_; first | refine qaw rfl ?_ | refine qaA rfl ?_ | refine qap rfl ?_ | refine qae rfl rfl hg rfl ?_ | refine qen rfl rfl ?_ | refine qgJ rfl rfl ?_))
  refine ⟨_, ResV.none rfl, sv, ?_, _, hg⟩
  have e : (h.set b (bldB (ptr b) sv)).get = h.get := by
   funext j
   simp only [Heap.set]
   split
   ·
    rename_i e; rw [e]; exact hg.symm
   ·
    rfl
  show h = ⟨(h.set b (bldB (ptr b) sv)).get, h.next, h.obj⟩
  rw [e]
theorem Bd.step {h0 h h' : Heap} {b : Nat} {l l' : Bytes} {u u' : Value} (d : Bd h0 h b l) (hu : h.get b = some (bldB (ptr b) u)) (_hne : ∀ s n c, u ≠ .slice (some ⟨b, 0, s⟩) n c) (r : OS h0.next h 5 u (bv l)) (o : OS h0.next h' 5 u' (bv l')) (k : Keeps u h h') (wf' : WF h') (hfr : ∀ s n c, u' ≠ .slice (some ⟨b, 0, s⟩) n c) (hnl : l' ≠ []) (hn : h.next ≤ h'.next) :
  Bd h0 (h'.set b (bldB (ptr b) u')) b l' := by
 have lb := d.wf.lt hu
 refine ⟨⟨ptr b, u', Heap.set_at _ _ _, .inr rfl, ?_, hfr, fun e => absurd e hnl⟩, ?_, wf'.set (by omega) _, d.wf0, d.lo⟩
 ·
  rcases o with ⟨rfl, e⟩ | ⟨i, c, h1, rfl, h2⟩
  ·
   exact .inl ⟨rfl, e⟩
  ·
   exact .inr ⟨i, c, h1, rfl, (Heap.set_other fun e => hfr (some 1) _ c (by rw [e])).trans h2⟩
 ·
  exact d.wf0.ext_set (k.ext r d.wf0 (Nat.le_refl _) d.hx) d.lo _
theorem bs_src (h : Heap) (s : Bytes) : Src h 1 (str s) s.length (bv s) := by
 have := Src.str (h := h) (sz := 1) (bstr s) rfl
 rw [Go.Eng.bstr_size, qhO] at this
 exact this
theorem Bd.mark {h0 h : Heap} {b : Nat} {l : Bytes} (d : Bd h0 h b l) {sv ap : Value} (hg : h.get b = some (bldB ap sv)) : Bd h0 (h.set b (bldB (ptr b) sv)) b l ∧ OS h0.next (h.set b (bldB (ptr b) sv)) 5 sv (bv l) ∧ (∀ s n c, sv ≠ .slice (some ⟨b, 0, s⟩) n c) ∧ (l = [] → sv = .slice none 0 0) := by
 obtain ⟨ap', sv', hg', hap, ho, hne, hnil⟩ := d.ex
 rw [hg] at hg'
 cases hg'
 have o2 : OS h0.next (h.set b (bldB (ptr b) sv)) 5 sv (bv l) := by
  rcases ho with ⟨rfl, e⟩ | ⟨i, c, h1, rfl, h2⟩
  ·
   exact .inl ⟨rfl, e⟩
  ·
   exact .inr ⟨i, c, h1, rfl, (Heap.set_other fun e => hne (some 1) _ c (by rw [e])).trans h2⟩
 have lb := d.wf.lt hg
 exact ⟨⟨⟨ptr b, sv, Heap.set_at _ _ _, .inr rfl, o2, hne, hnil⟩, d.wf0.ext_set d.hx d.lo _, d.wf.set lb _, d.wf0, d.lo⟩, o2, hne, hnil⟩
theorem OS.free {B : Nat} {h h' : Heap} {e : TypeId} {u u' : Value} {vs' : List Value} {b : Nat} {x : Blk} (k : Keeps u h h') (o : OS B h' e u' vs') (hb : h.get b = some x) (hne : ∀ s n c, u ≠ .slice (some ⟨b, 0, s⟩) n c) (hx : x.elem ≠ e) : ∀ s n c, u' ≠ .slice (some ⟨b, 0, s⟩) n c := by
 intro s n c e1
 rcases o with ⟨rfl, _⟩ | ⟨i, c', _, rfl, h2⟩
 ·
  cases e1
 ·
  cases e1
  rw [k.c b x hb hne] at h2
  cases h2
  exact hx rfl
theorem qde {h0 h : Heap} {b : Nat} {l : Bytes} (d : Bd h0 h b l) (s : Bytes) (hs0 : ¬ s = []) (hl : l.length + s.length ≤ 140737488351232) : ACalls Tryz.prog 82 [ptr b, str s] h fun u h' => u = .tuple #[.int .i64 (s.length : Nat), .nilIface] ∧ Bd h0 h' b (l ++ s) := by
 refine ACalls.body Tryz.func82 rfl rfl ?_
 repeat (first | refine W.w ?_ | (refine zz rfl ?_; first | refine qaw rfl ?_ | refine qac rfl ?_ | refine qao rfl rfl ((qd4 d).mono ?_) | refine qaq (by conv => lhs; whnf) ?_))
 rintro _ H1 ⟨sv, rfl, ap, hg⟩
 obtain ⟨d1, o1, hne, hnil⟩ := d.mark hg
 have g1 : (h.set b (bldB (ptr b) sv)).get b = some (bldB (ptr b) sv) := Heap.set_at _ _ _
 generalize h.set b (bldB (ptr b) sv) = H1 at d1 o1 g1 ⊢
 repeat (first | refine W.w ?_ | (refine zz rfl ?_; first | refine qaw rfl ?_ | refine qal rfl ?_ | refine qaA rfl ?_ | refine qap rfl ?_ | refine qae rfl rfl g1 rfl ?_))
 refine zz rfl (qbj (z := .int .u8 0) (B := h0.next) (e := 5) rfl d1.wf (Nat.le_trans d1.lo (Nat.le_of_lt (d1.wf.lt g1))) o1 rfl rfl (bs_src _ s) (qaH s) (qdS s) (by rw [qaH]; simp only [maxLen]; omega) (by rw [qaH]; omega) ?_)
 intro u' H2 o2 k2 wf2 n2
 rw [← qc4] at o2
 have g2 := k2.c b _ g1 hne
 have hfr := OS.free k2 o2 g1 hne (Nat.ne_of_beq_eq_false rfl)
 have d2 := d1.step g1 hne o1 o2 k2 wf2 hfr (by simp [hs0]) n2
 repeat (first | refine W.w ?_ | refine AL.eff rfl (qaP (v := u') rfl rfl (OS.rs o2).one.1 g2 rfl (by show 1 < 2; omega) ?_) | (refine zz rfl ?_; first | refine qal rfl ?_ | refine qac rfl ?_ | refine qaA rfl ?_ | refine qap rfl ?_ | refine qbA rfl ?_ | refine qaq (by conv => lhs; whnf) ?_))
 exact ⟨_, ResV.tmp2 rfl, rfl, d2⟩
theorem qgV {h0 h : Heap} {b : Nat} {l : Bytes} (d : Bd h0 h b l) (s : UInt8) (hl : l.length + 1 ≤ 140737488351232) : ACalls Tryz.prog 125 [ptr b, .int .u8 (s.toNat : Int)] h fun u h' => u = .nilIface ∧ Bd h0 h' b (l ++ [s]) := by
 refine ACalls.body Tryz.func125 rfl rfl ?_
 repeat (first | refine W.w ?_ | (refine zz rfl ?_; first | refine qaw rfl ?_ | refine qao rfl rfl ((qd4 d).mono ?_) | refine qaq (by conv => lhs; whnf) ?_))
 rintro _ H1 ⟨sv, rfl, ap, hg⟩
 obtain ⟨d1, o1, hne, hnil⟩ := d.mark hg
 have g1 : (h.set b (bldB (ptr b) sv)).get b = some (bldB (ptr b) sv) := Heap.set_at _ _ _
 generalize h.set b (bldB (ptr b) sv) = H1 at d1 o1 g1 ⊢
 repeat (first | refine W.w ?_ | (refine zz rfl ?_; first | refine qad rfl ?_ | refine qaw rfl ?_ | refine qaA rfl ?_ | refine qap rfl ?_ | refine qae rfl rfl g1 rfl ?_ | refine qa0 (bv [s]) rfl rfl rfl rfl (qeh _) ?_))
 obtain ⟨H3, hQ, gr, xr, wr, _⟩ := aq d1.wf ⟨bv [s], 5, true⟩
 rw [hQ]
 have d3 : Bd h0 H3 b l := ⟨⟨ptr b, sv, xr.c _ _ g1, .inr rfl, o1.ext xr, hne, hnil⟩, d1.hx.trans xr, wr, d1.wf0, d1.lo⟩
 have g3 := xr.c _ _ g1
 have o3 := o1.ext xr
 have rb : RB H3 (.slice (some ⟨H1.next, 0, some 1⟩) 1 1) [s] := RS.own gr rfl
 refine zz rfl (qbj (z := .int .u8 0) (B := h0.next) (e := 5) rfl wr (Nat.le_trans d3.lo (Nat.le_of_lt (wr.lt g3))) o3 rfl rfl rb.src (qaH _) (qdS _) (by rw [qaH]; simp only [maxLen, List.length_cons, List.length_nil]; omega) (by rw [qaH]; simp only [List.length_cons, List.length_nil]; omega) ?_)
 intro u' H2 o2 k2 wf2 n2
 rw [← qc4] at o2
 have g2 := k2.c b _ g3 hne
 have hfr := OS.free k2 o2 g3 hne (Nat.ne_of_beq_eq_false rfl)
 have d2 := d3.step g3 hne o3 o2 k2 wf2 hfr (by simp) n2
 repeat (first | refine W.w ?_ | refine AL.eff rfl (qaP (v := u') rfl rfl (OS.rs o2).one.1 g2 rfl (by show 1 < 2; omega) ?_) | (refine zz rfl ?_; first | refine qaA rfl ?_ | refine qap rfl ?_ | refine qaq (by conv => lhs; whnf) ?_))
 exact ⟨_, ResV.tmp rfl, rfl, d2⟩
theorem bLen_c {h0 h : Heap} {b : Nat} {l : Bytes} (d : Bd h0 h b l) : ACalls Tryz.prog 83 [ptr b] h fun u h' => u = .int .i64 (l.length : Nat) ∧ h' = h := by
 obtain ⟨ap, sv, hg, hap, ho, hne, hnil⟩ := d.ex
 refine ACalls.body Tryz.func83 rfl rfl ?_
 repeat (first | refine W.w ?_ | (refine zz rfl ?_; first | refine qaw rfl ?_ | refine qac rfl ?_ | refine qaA rfl ?_ | refine qap rfl ?_ | refine qae rfl rfl hg rfl ?_ | refine qaZ ho.rb rfl ?_))
 exact ⟨_, ResV.tmp rfl, rfl, rfl⟩
theorem qfW {h0 h : Heap} {b : Nat} {l : Bytes} (d : Bd h0 h b l) (hl : l.length ≤ 140737488351232) : ACalls Tryz.prog 84 [ptr b] h fun u h' => u = str l ∧ Ext h0 h' := by
 obtain ⟨ap, sv, hg, hap, ho, hne, hnil⟩ := d.ex
 refine ACalls.body Tryz.func84 rfl rfl ?_
 have hx0 := d.hx
 rcases ho with ⟨rfl, e⟩ | ⟨i, c, h1, rfl, h2⟩
 ·
  have hl0 : l = [] := by simpa [bv] using e
  subst hl0
  repeat (first | refine W.w ?_ | refine zz rfl (qah rfl ?_))
  refine AWp.draw (σ := [(0, .R), (1, .R), (2, .R), (3, .R), (4, .R), (5, .R), (6, .R), (7, .R), (8, .R), (9, .R), (10, .R), (11, .R)]) mixed (by kernel_rfl) ?_
  repeat (first | refine DAL.r rfl rfl rfl (fun h' hx hn => qaw rfl ⟨rfl, rfl⟩) ?_ | refine DAL.r rfl rfl rfl (fun h' hx hn => qah rfl ⟨rfl, rfl⟩) ?_ | refine DAL.r rfl rfl rfl (fun h' hx hn => qaA rfl ⟨rfl, rfl⟩) ?_ | refine DAL.r rfl rfl rfl (fun h' hx hn => qap rfl ⟨rfl, rfl⟩) ?_ | refine DAL.r rfl rfl rfl (fun h' hx hn => qae rfl rfl (hx.c _ _ hg) rfl ⟨rfl, rfl⟩) ?_ | refine DAL.r rfl rfl rfl (fun h' hx hn => qgZ rfl ⟨rfl, rfl⟩) ?_ | refine DAL.r rfl rfl rfl (fun h' hx hn => op_unsStr0 rfl rfl ⟨rfl, rfl⟩) ?_ | refine DAL.r rfl rfl rfl (fun h' hx hn => qb2 rfl ⟨rfl, rfl⟩) ?_)
  refine DAL.nil ?_
  repeat (first | refine AWp.ret ?_)
  exact ⟨_, ResV.tmp rfl, rfl, hx0⟩
 ·
  have hl0 : ¬ l = [] := fun e => by have := hnil e; cases this
  have hp : 0 < l.length := List.length_pos_iff.2 hl0
  have rb : RB h (.slice (some ⟨i, 0, some 1⟩) (bv l).length c) l := RS.own h2 rfl
  repeat (first | refine W.w ?_ | refine zz rfl (qah rfl ?_))
  refine AWp.draw (σ := [(0, .R), (1, .R), (2, .R), (3, .R), (4, .R), (5, .R), (6, .R), (7, .R), (8, .R), (9, .R), (10, .W), (11, .R)]) mixed (by kernel_rfl) ?_
  repeat (first | refine DAL.r rfl rfl rfl (fun h' hx hn => qaw rfl ⟨rfl, rfl⟩) ?_ | refine DAL.r rfl rfl rfl (fun h' hx hn => qaA rfl ⟨rfl, rfl⟩) ?_ | refine DAL.r rfl rfl rfl (fun h' hx hn => qap rfl ⟨rfl, rfl⟩) ?_ | refine DAL.r rfl rfl rfl (fun h' hx hn => qae rfl rfl (hx.c _ _ hg) rfl ⟨rfl, rfl⟩) ?_ | refine DAL.r rfl rfl rfl (fun h' hx hn => op_unsData rfl (by rw [qaH]; exact hp) ⟨rfl, rfl⟩) ?_ | refine DAL.r rfl rfl rfl (fun h' hx hn => qaZ (rb.ext hx) rfl ⟨rfl, rfl⟩) ?_)
  refine DAL.w rfl rfl rfl (qgL (l := l) rfl rfl hl0 (by omega) h2 ?_)
  repeat (first | refine DAL.r rfl rfl rfl (fun h' hx hn => qah rfl ⟨rfl, rfl⟩) ?_)
  refine DAL.nil ?_
  repeat (first | refine AWp.ret ?_)
  refine ⟨_, ResV.tmp rfl, rfl, ⟨fun j x hj => ?_, hx0.o⟩⟩
  have hlt := d.wf0.lt hj
  simp only [Heap.kill]
  rw [if_neg (by omega)]
  exact hx0.c j x hj
def wordHex : Bytes := [48, 49, 50, 51, 52, 53, 54, 55, 56, 57, 65, 66, 67, 68, 69, 70]
instance i_word : FnC Tryz.prog 93 := ⟨Tryz.f93, Tryz.func93, by kernel_rfl, by kernel_rfl⟩
theorem op_shr4 {ρ : Operand → Value} {h : Heap} {K : Value → Heap → Prop} {dst : Option Tmp} {ty : TypeId} {pos : String} {aft : Array Edge} {g : Option (Nat × Bool)} {t t' : TypeId} {x y : Operand} {c : UInt8} (hx : ρ x = .int .u8 (c.toNat : Int)) (hy : ρ y = .int .u64 4) (kk : K (.int .u8 ((c.toNat / 16 : Nat) : Int)) h) :
  AOp Tryz.prog ⟨dst, .binOp .shr t x y t', ty, pos, aft, g⟩ ρ h K := by
 refine qbe hx hy (v := .int .u8 ((c.toNat / 16 : Nat) : Int)) ?_ kk
 show some (Value.int .u8 (Int.fdiv (c.toNat : Int) 16)) = _
 refine congrArg some (congrArg (Value.int .u8) ?_)
 rw [Int.fdiv_eq_ediv_of_nonneg _ (by omega)]
 omega
theorem and15 : ∀ n : Fin 256, (BitVec.ofInt 8 (n.val : Int) &&& BitVec.ofInt 8 15).toNat = n.val % 16 := by decide +kernel
theorem op_and15 {ρ : Operand → Value} {h : Heap} {K : Value → Heap → Prop} {dst : Option Tmp} {ty : TypeId} {pos : String} {aft : Array Edge} {g : Option (Nat × Bool)} {t t' : TypeId} {x y : Operand} {c : UInt8} (hx : ρ x = .int .u8 (c.toNat : Int)) (hy : ρ y = .int .u8 15) (kk : K (.int .u8 ((c.toNat % 16 : Nat) : Int)) h) :
  AOp Tryz.prog ⟨dst, .binOp .and t x y t', ty, pos, aft, g⟩ ρ h K := by
 refine qbe hx hy (v := .int .u8 ((c.toNat % 16 : Nat) : Int)) ?_ kk
 have e := and15 ⟨c.toNat, c.toNat_lt⟩
 show some (Value.int .u8 (IntKind.u8.wrap ((BitVec.ofInt 8 (c.toNat : Int) &&& BitVec.ofInt 8 15).toNat : Int))) = _
 rw [e]
 refine congrArg some (congrArg (Value.int .u8) ?_)
 have e2 : ∀ z : Int, IntKind.u8.wrap z = z % 256 := fun _ => rfl
 rw [e2]
 show (((c.toNat % 16 : Nat) : Int)) % 256 = _
 omega
theorem hex_at : ∀ n : Fin 16, (((wordHex.take (16 : Int).toNat).drop ((n.val : Nat) : Int).toNat).take (1 : Int).toNat).drop (0 : Int).toNat = [hexC n.val] := by decide +kernel
theorem enc_len (c : UInt8) : (encB c).length ≤ 3 := by unfold encB; split <;> simp
theorem qfh (l : Bytes) : (l.flatMap encB).length ≤ 3 * l.length := by
 induction l with
 | nil => simp
 | cons c l ih =>
  have := enc_len c
  simp only [List.flatMap_cons, List.length_append, List.length_cons]
  omega
theorem qgG {α β : Type} {f : α → List β} {l : List α} {k : Nat} {x : α} (hx : l[k]? = some x) : (l.take (k + 1)).flatMap f = (l.take k).flatMap f ++ f x := by
 rw [List.take_add_one, hx]
 simp
theorem bvAt {l : Bytes} {k : Nat} {c : UInt8} (hc : l[k]? = some c) {a : Int} (ha : a = (k : Nat)) : (bv l)[a.toNat]? = some (.int .u8 (c.toNat : Int)) := by
 subst ha
 exact qgz l k c hc
theorem word_c (v : Value) (l : Bytes) (h : Heap) (r : RB h v l) (hl : l.length ≤ 100000000) : ACalls Tryz.prog 93 [v] h fun u h' => u = str (wordM l) ∧ h' = h := by
 refine ACalls.wf fun wf => ACalls.reset ?_
 refine ACalls.body Tryz.func93 rfl rfl ?_
 obtain ⟨va, vc, hv⟩ := RS.slice r
 by_cases h0 : l.length = 0
 ·
  have hl0 : l = [] := List.length_eq_zero_iff.1 h0
  repeat (first | refine W.w ?_ | refine AWp.c8 rfl ?_ | (refine zz rfl ?_; first | refine qah rfl ?_ | refine qaZ r rfl ?_ | refine qaj rfl rfl rfl (by omega) ?_ | refine qan (by conv => lhs; whnf) ?_))
  refine ⟨_, ResV.tmp rfl, rfl, Ext.refl h, ?_, rfl⟩
  rw [hl0]
  rfl
 ·
  have hne : ¬ l = [] := fun e => h0 (by rw [e]; rfl)
  repeat (first | refine W.w ?_ | refine AWp.c9 rfl ?_ | (refine zz rfl ?_; first | refine qah rfl ?_ | refine qaZ r rfl ?_ | refine qak rfl rfl rfl (by omega) ?_ | refine qat ?_ | refine qan (v := v) rfl ?_))
  have d0 : Bd h (h.alloc (bldB (.pointer none) (.slice none 0 0))) h.next [] := Bd.new wf
  have rx := wf.ext (bldB (.pointer none) (.slice none 0 0))
  refine AL.heap (h := h.alloc (bldB (.pointer none) (.slice none 0 0))) rfl ?_
  generalize h.alloc (bldB (.pointer none) (.slice none 0 0)) = H0 at d0 rx ⊢
  repeat (first | refine W.w ?_ | refine zz rfl (qad rfl ?_) | refine zz rfl (qaZ (r.ext rx) rfl ?_))
  refine AWp.loop (α := Nat × Heap) (fun d => [(3, ptr h.next), (9, v), (10, .int .i64 (l.length : Nat)), (11, .int .i64 (d.1 : Nat))]) (fun d => d.2) (fun d => d.1 ≤ l.length ∧ Bd h d.2 h.next ((l.take d.1).flatMap encB)) (fun d => l.length - d.1) (0, H0) ⟨Nat.zero_le _, d0⟩
   (Weak.same (EW.cons rfl (EW.cons rfl (EW.cons rfl (EW.cons rfl EW.nil))))) ?_
  rintro ⟨k, H⟩ ⟨hk, d⟩
  replace hk : k ≤ l.length := hk
  replace d : Bd h H h.next ((l.take k).flatMap encB) := d
  show AWp _ _ _ _ [(3, ptr h.next), (9, v), (10, .int .i64 (l.length : Nat)), (11, .int .i64 (k : Nat))] H
  have hlen := qfh (l.take k)
  rw [List.length_take] at hlen
  by_cases hlt : k < l.length
  ·
   obtain ⟨ch, hc⟩ : ∃ ch, l[k]? = some ch := ⟨_, List.getElem?_eq_getElem hlt⟩
   have hft := qgG (f := encB) hc
   repeat (first | refine W.w ?_ | refine AWp.c8 rfl ?_ | refine zz rfl (qaj rfl rfl rfl (by omega) ?_) | refine zz rfl (qa7 (r.ext d.hx) rfl rfl (by omega) (bvAt hc rfl) ?_))
   intro p hp
   by_cases hp1 : plainC ch = true
   ·
    have he := qd6 hp1
    obtain ⟨q1, q2, q3⟩ : 32 < ch.toNat ∧ ch.toNat < 127 ∧ ch.toNat ≠ 37 := of_decide_eq_true hp1
    have cw := qgV d ch (by omega)
    rw [← he] at cw
    repeat (first | refine W.w ?_ | refine AWp.c8 rfl ?_ | (refine zz rfl ?_; first | refine qad rfl ?_ | refine qag rfl ?_ | refine qac rfl ?_ | refine qaB hp rfl rfl ?_ | refine qaj rfl rfl rfl (by omega) ?_ | refine qai (v := .bool _) rfl rfl ?_ | refine qao rfl rfl (cw.mono ?_)))
    rintro _ H' ⟨rfl, d'⟩
    repeat (first | refine W.w ?_ | refine zz rfl (qad rfl ?_) | refine zz rfl (qav rfl rfl (by omega) ?_))
    exact ⟨(k + 1, H'), ⟨hlt, by show Bd h H' h.next ((l.take (k + 1)).flatMap encB); rw [hft]; exact d'⟩, by show l.length - (k + 1) < l.length - k; omega, Weak.same (EW.cons rfl (EW.cons rfl (EW.cons rfl (EW.cons rfl EW.nil))))⟩
   ·
    have he := qg0 hp1
    have hp2 : ¬ (32 < ch.toNat ∧ ch.toNat < 127 ∧ ch.toNat ≠ 37) := fun e => hp1 (decide_eq_true e)
    have lc := ch.toNat_lt
    have hA := hex_at ⟨ch.toNat / 16, by omega⟩
    have hB := hex_at ⟨ch.toNat % 16, by omega⟩
    have cw := qde d (encB ch) (by rw [he]; simp) (by have := enc_len ch; omega)
    rw [he] at cw
    have hstr : str ([37] ++ (((wordHex.take (16 : Int).toNat).drop ((ch.toNat / 16 : Nat) : Int).toNat).take (1 : Int).toNat).drop (0 : Int).toNat ++ (((wordHex.take (16 : Int).toNat).drop ((ch.toNat % 16 : Nat) : Int).toNat).take (1 : Int).toNat).drop (0 : Int).toNat) = str [37, hexC (ch.toNat / 16), hexC (ch.toNat % 16)] := by
     have hA' : (((wordHex.take (16 : Int).toNat).drop ((ch.toNat / 16 : Nat) : Int).toNat).take (1 : Int).toNat).drop (0 : Int).toNat = [hexC (ch.toNat / 16)] := hA
     have hB' : (((wordHex.take (16 : Int).toNat).drop ((ch.toNat % 16 : Nat) : Int).toNat).take (1 : Int).toNat).drop (0 : Int).toNat = [hexC (ch.toNat % 16)] := hB
     rw [hA', hB']
     rfl
    repeat' (first | refine W.w ?_ | refine AL.skip rfl rfl ?_ | refine AWp.c9 rfl ?_ | (refine zz rfl ?_; first | refine qad rfl ?_ | refine qag rfl ?_ | refine qac rfl ?_ | refine qaB hp rfl rfl ?_ | refine qak rfl rfl rfl (by omega) ?_ | refine qaU rfl rfl rfl (fun c => ?_) (fun c => ?_) | refine qai (v := .bool _) rfl rfl ?_))
    all_goals first | (exfalso; omega) | skip
    all_goals (
     refine AWp.draw (σ := [(0, .R), (1, .R), (2, .R), (3, .R), (4, .R), (5, .R), (6, .R), (7, .R), (8, .R), (9, .R), (10, .W)]) mixed (by kernel_rfl) ?_
     repeat (first | refine DAL.r rfl rfl rfl (fun h' hx hn => qad rfl ⟨rfl, rfl⟩) ?_ | refine DAL.r rfl rfl rfl (fun h' hx hn => op_shr4 rfl rfl ⟨rfl, rfl⟩) ?_ | refine DAL.r rfl rfl rfl (fun h' hx hn => op_and15 rfl rfl ⟨rfl, rfl⟩) ?_ | refine DAL.r rfl rfl rfl (fun h' hx hn => qbw (s := wordHex) (l := ((ch.toNat / 16 : Nat) : Int)) (m := 16) rfl rfl rfl (by omega) (by omega) (by show (16 : Int) ≤ ((16 : Nat) : Int); omega) ⟨rfl, rfl⟩) ?_ | refine DAL.r rfl rfl rfl (fun h' hx hn => qbw (s := wordHex) (l := ((ch.toNat % 16 : Nat) : Int)) (m := 16) rfl rfl rfl (by omega) (by omega) (by show (16 : Int) ≤ ((16 : Nat) : Int); omega) ⟨rfl, rfl⟩) ?_ | refine DAL.r rfl rfl rfl (fun h' hx hn => qbw (l := 0) (m := 1) rfl rfl rfl (by omega) (by omega) (by rw [List.length_drop, List.length_take]; show (1 : Int) ≤ ((min 16 16 - _ : Nat) : Int); omega) ⟨rfl, rfl⟩) ?_ | refine DAL.r rfl rfl rfl (fun h' hx hn => qcr rfl rfl (by simp only [maxLen, List.length_append, List.length_drop, List.length_take, List.length_cons, List.length_nil]; omega) ⟨rfl, rfl⟩) ?_)
     refine DAL.w rfl rfl rfl ?_
     refine qao (evs := [ptr h.next, str [37, hexC (ch.toNat / 16), hexC (ch.toNat % 16)]]) rfl (by rw [← hstr]; rfl) (cw.mono ?_)
     rintro _ H' ⟨rfl, d'⟩
     refine DAL.nil ?_
     repeat (first | refine W.w ?_ | refine zz rfl (qad rfl ?_) | refine zz rfl (qav rfl rfl (by omega) ?_))
     exact ⟨(k + 1, H'), ⟨hlt, by show Bd h H' h.next ((l.take (k + 1)).flatMap encB); rw [hft, he]; exact d'⟩, by show l.length - (k + 1) < l.length - k; omega, Weak.same (EW.cons rfl (EW.cons rfl (EW.cons rfl (EW.cons rfl EW.nil))))⟩)
  ·
   obtain rfl : k = l.length := by omega
   rw [List.take_length] at d hlen
   repeat (first | refine AL.nil ?_ | refine AWp.seq ?_ | refine AWp.r9 ?_ | refine AWp.c9 rfl ?_ | refine AWp.exit ?_ | refine zz rfl (qak rfl rfl rfl (by omega) ?_))
   refine zz rfl (qao rfl rfl ((qfW d (by have := qfh l; omega)).mono ?_))
   rintro _ H' ⟨rfl, x'⟩
   repeat (first | refine W.w ?_ | refine zz rfl (qah rfl ?_))
   have e : wordM l = l.flatMap encB := by unfold wordM; rw [if_neg hne]
   rw [e]
   exact ⟨_, ResV.tmp rfl, rfl, x', rfl, rfl⟩
end Go.Proofs.YtigmojilaadbhaaGreatDoor
/- . -/
namespace Go.Eng
open Go
section
variable {P : Program} {ρ : Operand → Value} {h : Heap} {K : Value → Heap → Prop} {dst : Option Tmp} {ty : TypeId} {pos : String} {aft : Array Edge} {g : Option (Nat × Bool)}
theorem op_eqIfI {t t' u : TypeId} {k k0 : IntKind} {a b : Int} {x y : Operand} {ms : Array (String × TypeId)} [td : TyD P t (.interface ms)] [tu : TyD P u (.int k0)] (hc : (P.info? u).map (fun i => i.comparable) = some true) (hx : ρ x = .iface u (.int k a)) (hy : ρ y = .iface u (.int k b))
  (kk : K (.bool (a == b)) h) : AOp P ⟨dst, .binOp .eql t x y t', ty, pos, aft, g⟩ ρ h K :=
 .of_pure kk fun φ ac w r => by
  obtain ⟨v1, e1, r1⟩ := (hx ▸ r.ev x (by simp [Op.operands])).iface_inv
  obtain ⟨v2, e2, r2⟩ := (hy ▸ r.ev y (by simp [Op.operands])).iface_inv
  rw [r1.int_inv] at e1
  rw [r2.int_inv] at e2
  obtain ⟨i, hi, hci⟩ := Option.map_eq_some_iff.1 hc
  have hti : (typeInfo u).run P w = .ok i w := by simp [typeInfo, hi]
  have e4 : ∀ d, (Op.equalIn (d + 2) t (.iface u (.int k a)) (.iface u (.int k b))).run P w = .ok (a == b) w := fun d => by
   simp [Op.equalIn, td.run, hti, hci, tu.run]
  have e5 : (Op.equal t (.iface u (.int k a)) (.iface u (.int k b))).run P w = .ok (a == b) w := e4 9998
  exact ⟨.bool (a == b), by simp [execOp, e1, e2, eqGuard, binOp, e5], .bool _⟩
theorem qfH {k : IntKind} {t t' : TypeId} {x y : Operand} {a b c : Int} (hx : ρ x = .int k a) (hy : ρ y = .int k b) (hw : k.wrap (a + b) = c) (kk : K (.int k c) h) : AOp P ⟨dst, .binOp .add t x y t', ty, pos, aft, g⟩ ρ h K :=
 qbe hx hy (v := .int k c) (by simp [binI, hw]) kk
theorem qhl {k : IntKind} {t t' : TypeId} {x y : Operand} {a b c : Int} (hx : ρ x = .int k a) (hy : ρ y = .int k b) (hw : k.wrap (a - b) = c) (kk : K (.int k c) h) : AOp P ⟨dst, .binOp .sub t x y t', ty, pos, aft, g⟩ ρ h K :=
 qbe hx hy (v := .int k c) (by simp [binI, hw]) kk
theorem op_mulK {k : IntKind} {t t' : TypeId} {x y : Operand} {a b c : Int} (hx : ρ x = .int k a) (hy : ρ y = .int k b) (hw : k.wrap (a * b) = c) (kk : K (.int k c) h) : AOp P ⟨dst, .binOp .mul t x y t', ty, pos, aft, g⟩ ρ h K :=
 qbe hx hy (v := .int k c) (by simp [binI, hw]) kk
theorem qci {s d : TypeId} {x : Operand} {k k' ks : IntKind} {a c : Int} [ts : TyD P s (.int ks)] [td : TyD P d (.int k')] (hx : ρ x = .int k a) (hw : k'.wrap a = c) (kk : K (.int k' c) h) : AOp P ⟨dst, .convert s d x, ty, pos, aft, g⟩ ρ h K :=
 op_convI hx (hw ▸ kk)
end
end Go.Eng
/- . -/
namespace Go.Proofs.YtigmojilaadbhaaGreatDoor
open Go Go.Eng Go.Pln Go.Lib
attribute [local irreducible] AWp AL DAL AOp
instance i_lower : FnC Tryz.prog 210 := ⟨Tryz.f210, Tryz.func210, by kernel_rfl, by kernel_rfl⟩
instance i_puI : FnC Tryz.prog 202 := ⟨Tryz.f202, Tryz.func202, by kernel_rfl, by kernel_rfl⟩
instance i_TyD_uint64 : TyD Tryz.prog 221 (.int .u64) := ⟨Tryz.underlying221⟩
instance i_TyD_uint : TyD Tryz.prog 182 (.int .u64) := ⟨Tryz.underlying182⟩
instance qdG : TyD Tryz.prog 238 (.int .i64) := ⟨Tryz.underlying238⟩
def lowN (n : Nat) : Nat := (BitVec.ofInt 8 (n : Int) ||| BitVec.ofInt 8 32).toNat
theorem low_lt : ∀ n : Fin 256, lowN n.val < 256 := by decide +kernel
theorem lower_c (c : UInt8) (h : Heap) : ACalls Tryz.prog 210 [.int .u8 (c.toNat : Int)] h fun u h' => u = .int .u8 (lowN c.toNat : Nat) ∧ h' = h := by
 refine ACalls.body Tryz.func210 rfl rfl ?_
 have hl := low_lt ⟨c.toNat, c.toNat_lt⟩
 have e : binI .or .u8 (c.toNat : Int) .u8 32 = some (.int .u8 (lowN c.toNat : Nat)) := by
  show some (Value.int .u8 (IntKind.u8.wrap ((BitVec.ofInt 8 (c.toNat : Int) ||| BitVec.ofInt 8 32).toNat : Int))) = _
  have e2 : ∀ z : Int, IntKind.u8.wrap z = z % 256 := fun _ => rfl
  rw [e2]
  refine congrArg some (congrArg (Value.int .u8) ?_)
  show ((lowN c.toNat : Nat) : Int) % 256 = _
  simp only at hl
  omega
 repeat (first | refine W.w ?_ | (refine zz rfl ?_; first | refine qad rfl ?_ | refine qac rfl ?_ | refine qbe rfl rfl e ?_))
 exact ⟨_, ResV.tmp rfl, rfl, rfl⟩
theorem dig_class : ∀ n : Fin 256, (48 ≤ n.val ∧ n.val ≤ 57 → digP (UInt8.ofNat n.val) = n.val - 48) ∧
  (¬ (48 ≤ n.val ∧ n.val ≤ 57) → 97 ≤ lowN n.val ∧ lowN n.val ≤ 122 → if lowN n.val - 87 < 16 then digP (UInt8.ofNat n.val) = lowN n.val - 87 else ¬ digP (UInt8.ofNat n.val) < 16) ∧
  (¬ (48 ≤ n.val ∧ n.val ≤ 57) → ¬ (97 ≤ lowN n.val ∧ lowN n.val ≤ 122) → ¬ digP (UInt8.ofNat n.val) < 16) := by decide +kernel
def hexV (l : Bytes) : Nat := l.foldl (fun a c => a * 16 + digP c) 0
theorem hexV_add {s : Bytes} {k : Nat} {c : UInt8} (hc : s[k]? = some c) : hexV (s.take (k + 1)) = hexV (s.take k) * 16 + digP c := by
 rw [List.take_add_one, hc]
 simp [hexV, List.foldl_append]
theorem hexV_ok {s : Bytes} (h0 : 1 ≤ s.length) (h2 : s.length ≤ 2) (h : s.all (fun c => decide (digP c < 16)) = true) : hexV s = hex2 s := by
 match s, h0, h2, h with
 | [a], _, _, h =>
  simp only [List.all_cons, List.all_nil, Bool.and_true, decide_eq_true_iff] at h
  simp [hexV, hex2, h]
 | [a, b], _, _, h =>
  simp only [List.all_cons, List.all_nil, Bool.and_true, Bool.and_eq_true, decide_eq_true_iff] at h
  simp [hexV, hex2, h]
 | _ :: _ :: _ :: _, _, h2, _ => simp at h2
theorem hex2_bad {s : Bytes} (h2 : s.length ≤ 2) {k : Nat} {c : UInt8} (hc : s[k]? = some c) (hd : ¬ digP c < 16) : hex2 s = 0 := by
 match s, h2 with
 | [], _ => rfl
 | [a], _ =>
  match k with
  | 0 => cases hc; simp [hex2, hd]
  | k + 1 => simp at hc
 | [a, b], _ =>
  match k with
  | 0 => cases hc; simp [hex2, hd]
  | 1 => cases hc; simp [hex2, hd]
  | k + 2 => simp at hc
 | _ :: _ :: _ :: _, h2 => simp at h2
theorem hexV_lt {l : Bytes} (h : l.all (fun c => decide (digP c < 16)) = true) (hl : l.length ≤ 1) : hexV l < 16 := by
 match l, hl, h with
 | [], _, _ => decide
 | [a], _, h =>
  simp only [List.all_cons, List.all_nil, Bool.and_true, decide_eq_true_iff] at h
  simp [hexV, h]
 | _ :: _ :: _, hl, _ => simp at hl
theorem ofNat_self (c : UInt8) : UInt8.ofNat c.toNat = c := by simp
theorem allTake2 {α : Type} {p : α → Bool} {l : List α} {k : Nat} {x : α} (hx : l[k]? = some x) : (l.take (k + 1)).all p = ((l.take k).all p && p x) := by
 rw [List.take_add_one, hx, List.all_append]
 simp
def puE (e : Value) : Prop := e = .nilIface ∨ e = .iface 238 (.int .i64 2)
theorem puI_c (s : Bytes) (h : Heap) (hs : s.length ≤ 2) : ACalls Tryz.prog 202 [str s, .int .i64 16, .int .i64 8] h fun u h' => h' = h ∧ ∃ e, u = .tuple #[.int .u64 (hex2 s : Nat), e] ∧ puE e := by
 refine ACalls.wf fun wf => ?_
 refine ACalls.mono (Q := fun u h' => (∃ e, u = .tuple #[.int .u64 (hex2 s : Nat), e] ∧ puE e) ∧ h' = h) ?_ fun u h' ⟨a, b⟩ => ⟨b, a⟩
 refine ACalls.resetB ?_
 have hb : ∀ e, puE e → Bdd h.next (.tuple #[.int .u64 (hex2 s : Nat), e]) := by
  rintro e (rfl | rfl)
  ·
   exact Bdd.plain (by simp [plainV, scalar])
  ·
   refine ⟨fun _ => ⟨0, 0, 0⟩, _, VRel.tuple2 (.int _ _) (.iface _ _ _ (.int _ _))⟩
 refine ACalls.body Tryz.func202 rfl rfl ?_
 by_cases h0 : s = []
 ·
  subst h0
  repeat (first | refine W.w ?_ | refine AWp.c8 rfl ?_ | (refine zz rfl ?_; first | refine qal rfl ?_ | refine qac rfl ?_ | refine qaV (a := []) (b := []) rfl rfl rfl ?_ | refine qa1 rfl rfl ?_ | refine qaq (by conv => lhs; whnf) ?_))
  exact ⟨_, ResV.tmp2 rfl, hb _ (.inr rfl), Ext.refl h, ⟨_, rfl, .inr rfl⟩, rfl⟩
 ·
  have hpos : 1 ≤ s.length := List.length_pos_iff.2 h0
  have gp := Heap.alloc_new h ⟨bv s, 5, true⟩
  have xp := wf.ext ⟨bv s, 5, true⟩
  repeat (first | refine W.w ?_ | refine AWp.c8 rfl ?_ | refine AWp.c9 rfl ?_ | (refine zz rfl ?_; first | refine qad rfl ?_ | refine qag rfl ?_ | refine qal rfl ?_ | refine qac rfl ?_ | refine qaa rfl ?_ | refine qah rfl ?_ | refine qbX (a := s) (b := []) rfl rfl h0 ?_ | refine qaj rfl rfl rfl (by omega) ?_ | refine qak rfl rfl rfl (by omega) ?_ | refine qai (v := .bool _) rfl rfl ?_ | refine qci (c := 8) rfl rfl ?_ | refine qbe (v := .int .u64 256) rfl rfl rfl ?_ | refine qbe (v := .int .u64 255) rfl rfl rfl ?_ | refine qh3 rfl (by simp only [maxLen]; omega) ?_ | refine qb2 rfl ?_ | refine qaq (by conv => lhs; whnf) ?_))
  generalize h.alloc ⟨bv s, 5, true⟩ = H at gp xp ⊢
  have rb : RB H (.slice (some ⟨h.next, 0, some 1⟩) s.length (s.length + 1)) s := RS.own gp (qaH s)
  skip
  refine AWp.loop (α := Nat) (fun k => [(0, str s), (1, .int .i64 16), (8, .bool false), (10, .int .u64 1152921504606846976), (11, .int .u64 255), (12, .bool false), (13, .int .u64 (hexV (s.take k) : Nat)), (99, .slice (some ⟨h.next, 0, some 1⟩) s.length (s.length + 1)), (100, .int .i64 (s.length : Nat)), (101, .int .i64 (k : Nat))]) (fun _ => H) (fun k => k ≤ s.length ∧ (s.take k).all (fun c => decide (digP c < 16)) = true) (fun k => s.length - k) 0 ⟨Nat.zero_le _, rfl⟩
   (Weak.same (EW.cons rfl (EW.cons rfl (EW.cons rfl (EW.cons rfl (EW.cons rfl (EW.cons rfl (EW.cons rfl (EW.cons rfl (EW.cons rfl (EW.cons rfl EW.nil))))))))))) ?_
  rintro k ⟨hk, ha⟩
  by_cases hlt : k < s.length
  ·
   obtain ⟨ch, hc⟩ : ∃ ch, s[k]? = some ch := ⟨_, List.getElem?_eq_getElem hlt⟩
   have hadd := hexV_add hc
   have hn := hexV_lt ha (by rw [List.length_take]; omega)
   have h256 := ch.toNat_lt
   obtain ⟨c1, c2, c3⟩ := dig_class ⟨ch.toNat, h256⟩
   simp only [ofNat_self] at c1 c2 c3
   have hlow := low_lt ⟨ch.toNat, h256⟩
   simp only at hlow
   have hst := allTake2 (p := fun c => decide (digP c < 16)) hc
   rw [ha, Bool.true_and] at hst
   have bad : ¬ digP ch < 16 → (hex2 s : Nat) = 0 := fun hd => hex2_bad hs hc hd
   generalize hexV (s.take k) = n at hadd hn ⊢
   have cl := lower_c ch H
   generalize lowN ch.toNat = lw at c2 c3 hlow cl
   have fin : ∀ d : Nat, d = digP ch → d < 16 → n * 16 + d = hexV (s.take (k + 1)) ∧ (k + 1 ≤ s.length ∧ (s.take (k + 1)).all (fun c => decide (digP c < 16)) = true) := fun d e e2 => ⟨by rw [hadd, e], hlt, by rw [hst]; exact decide_eq_true (e ▸ e2)⟩
   repeat (first | refine W.w ?_ | refine AWp.c8 rfl ?_ | refine zz rfl (qaj rfl rfl rfl (by omega) ?_) | refine zz rfl (qa7 rb rfl rfl (by omega) (bvAt hc rfl) ?_))
   intro p hp
   by_cases hdg : 48 ≤ ch.toNat ∧ ch.toNat ≤ 57
   ·
    have hd : digP ch = ch.toNat - 48 := c1 hdg
    obtain ⟨f1, f2⟩ := fin (ch.toNat - 48) hd.symm (by omega)
    repeat' (first | refine W.w ?_ | refine AL.skip rfl rfl ?_ | refine AWp.c8 rfl ?_ | refine AWp.c9 rfl ?_ | (refine zz rfl ?_; first | refine qad rfl ?_ | refine qag rfl ?_ | refine qac rfl ?_ | refine qaa rfl ?_ | refine qaB hp rfl rfl ?_ | refine qhl (k := .u8) (c := ((ch.toNat - 48 : Nat) : Int)) rfl rfl (by show ((ch.toNat : Int) - 48) % 256 = _; omega) ?_ | refine qci (c := 16) rfl rfl ?_ | refine op_mulK (c := ((n * 16 : Nat) : Int)) rfl rfl (by show ((n : Int) * 16) % 18446744073709551616 = _; omega) ?_ | refine qci (c := ((ch.toNat - 48 : Nat) : Int)) rfl (by show _ % (18446744073709551616 : Int) = _; omega) ?_ | refine qfH (k := .u64) (c := ((n * 16 + (ch.toNat - 48) : Nat) : Int)) rfl rfl (by show _ % (18446744073709551616 : Int) = _; omega) ?_ | refine qav rfl rfl (by omega) ?_ | refine qaj rfl rfl rfl (by omega) ?_ | refine qak rfl rfl rfl (by omega) ?_ | refine qai (v := .bool _) rfl rfl ?_))
    all_goals refine ⟨k + 1, f2, by omega, Weak.same (EW.cons rfl (EW.cons rfl (EW.cons rfl (EW.cons rfl (EW.cons rfl (EW.cons rfl (EW.cons (congrArg (fun z : Nat => Value.int .u64 (z : Int)) f1) (EW.cons rfl (EW.cons rfl (EW.cons rfl EW.nil))))))))))⟩
   ·
    by_cases hlr : 97 ≤ lw ∧ lw ≤ 122
    ·
     have c2' := c2 hdg hlr
     by_cases h16 : lw - 87 < 16
     ·
      rw [if_pos h16] at c2'
      obtain ⟨f1, f2⟩ := fin (lw - 87) c2'.symm h16
      repeat' (first | refine W.w ?_ | refine AL.skip rfl rfl ?_ | refine AWp.c8 rfl ?_ | refine AWp.c9 rfl ?_ | (refine zz rfl ?_; first | refine qad rfl ?_ | refine qag rfl ?_ | refine qac rfl ?_ | refine qaa rfl ?_ | refine qaB hp rfl rfl ?_ | refine qab rfl rfl cl ?_ | refine qhl (k := .u8) (c := ((lw - 97 : Nat) : Int)) rfl rfl (by show ((lw : Int) - 97) % 256 = _; omega) ?_ | refine qfH (k := .u8) (c := ((lw - 87 : Nat) : Int)) rfl rfl (by show _ % (256 : Int) = _; omega) ?_ | refine qci (c := 16) rfl rfl ?_ | refine op_mulK (c := ((n * 16 : Nat) : Int)) rfl rfl (by show ((n : Int) * 16) % 18446744073709551616 = _; omega) ?_ | refine qci (c := ((lw - 87 : Nat) : Int)) rfl (by show _ % (18446744073709551616 : Int) = _; omega) ?_ | refine qfH (k := .u64) (c := ((n * 16 + (lw - 87) : Nat) : Int)) rfl rfl (by show _ % (18446744073709551616 : Int) = _; omega) ?_ | refine qav rfl rfl (by omega) ?_ | refine qaj rfl rfl rfl (by omega) ?_ | refine qak rfl rfl rfl (by omega) ?_ | refine qaU rfl rfl rfl (fun c => ?_) (fun c => ?_) | refine qai (v := .bool _) rfl rfl ?_))
      all_goals refine ⟨k + 1, f2, by omega, Weak.same (EW.cons rfl (EW.cons rfl (EW.cons rfl (EW.cons rfl (EW.cons rfl (EW.cons rfl (EW.cons (congrArg (fun z : Nat => Value.int .u64 (z : Int)) f1) (EW.cons rfl (EW.cons rfl (EW.cons rfl EW.nil))))))))))⟩
     ·
      rw [if_neg h16] at c2'
      have hz := bad c2'
      repeat' (first | refine W.w ?_ | refine AL.skip rfl rfl ?_ | refine AWp.c8 rfl ?_ | refine AWp.c9 rfl ?_ | (refine zz rfl ?_; first | refine qad rfl ?_ | refine qag rfl ?_ | refine qac rfl ?_ | refine qaa rfl ?_ | refine qaB hp rfl rfl ?_ | refine qab rfl rfl cl ?_ | refine qhl (k := .u8) (c := ((lw - 97 : Nat) : Int)) rfl rfl (by show ((lw : Int) - 97) % 256 = _; omega) ?_ | refine qfH (k := .u8) (c := ((lw - 87 : Nat) : Int)) rfl rfl (by show _ % (256 : Int) = _; omega) ?_ | refine qci (c := 16) rfl rfl ?_ | refine qa1 rfl rfl ?_ | refine qaj rfl rfl rfl (by omega) ?_ | refine qak rfl rfl rfl (by omega) ?_ | refine qaU rfl rfl rfl (fun c => ?_) (fun c => ?_) | refine qai (v := .bool _) rfl rfl ?_ | refine qaq (by conv => lhs; whnf) ?_))
      all_goals exact ⟨_, ResV.tmp2 rfl, (by rw [hz] at hb; exact hb _ (.inr rfl)), xp, ⟨_, by rw [hz]; rfl, .inr rfl⟩, rfl⟩
    ·
     have hz := bad (c3 hdg hlr)
     repeat' (first | refine W.w ?_ | refine AL.skip rfl rfl ?_ | refine AWp.c9 rfl ?_ | (refine zz rfl ?_; first | refine qad rfl ?_ | refine qag rfl ?_ | refine qac rfl ?_ | refine qaa rfl ?_ | refine qaB hp rfl rfl ?_ | refine qab rfl rfl cl ?_ | refine qa1 rfl rfl ?_ | refine qaj rfl rfl rfl (by omega) ?_ | refine qak rfl rfl rfl (by omega) ?_ | refine qaU rfl rfl rfl (fun c => ?_) (fun c => ?_) | refine qai (v := .bool _) rfl rfl ?_ | refine qaq (by conv => lhs; whnf) ?_))
     all_goals exact ⟨_, ResV.tmp2 rfl, (by rw [hz] at hb; exact hb _ (.inr rfl)), xp, ⟨_, by rw [hz]; rfl, .inr rfl⟩, rfl⟩
  ·
   obtain rfl : k = s.length := by omega
   rw [List.take_length] at ha ⊢
   rw [hexV_ok hpos hs ha]
   repeat (first | refine AL.nil ?_ | refine AL.skip rfl rfl ?_ | refine AWp.seq ?_ | refine AWp.r9 ?_ | refine AWp.c9 rfl ?_ | refine AWp.ret ?_ | refine AWp.exit ?_ | refine AWp.k9 ?_ | (refine zz rfl ?_; first | refine qad rfl ?_ | refine qag rfl ?_ | refine qac rfl ?_ | refine qak rfl rfl rfl (by omega) ?_ | refine qai (v := .bool _) rfl rfl ?_ | refine qaq (by conv => lhs; whnf) ?_))
   exact ⟨_, ResV.tmp2 rfl, hb _ (.inl rfl), xp, ⟨_, rfl, .inl rfl⟩, rfl⟩
instance i_clone : FnC Tryz.prog 203 := ⟨Tryz.f203, Tryz.func203, by kernel_rfl, by kernel_rfl⟩
instance i_synErr : FnC Tryz.prog 185 := ⟨Tryz.f185, Tryz.func185, by kernel_rfl, by kernel_rfl⟩
instance i_toErr : FnC Tryz.prog 162 := ⟨Tryz.f162, Tryz.func162, by kernel_rfl, by kernel_rfl⟩
instance i_pu : FnC Tryz.prog 189 := ⟨Tryz.f189, Tryz.func189, by kernel_rfl, by kernel_rfl⟩
instance qeQ : TyD Tryz.prog 241 (.pointer 259) := ⟨Tryz.underlying241⟩
instance qfJ : TyI Tryz.prog 259 3 48 (.agg #[.string ⟨#[]⟩, .string ⟨#[]⟩, .nilIface]) := ⟨qaK (by kernel_rfl), rfl, rfl⟩
instance qfP : StD Tryz.prog 259 [(0, 1), (1, 1), (2, 1)] := ⟨_, Tryz.underlying259, by kernel_rfl⟩
theorem set_full (h : Heap) (s : Bytes) (e : TypeId) : (h.alloc ⟨List.replicate ((s.length : Nat) : Int).toNat (.int .u8 0), e, true⟩).set h.next ⟨splice (List.replicate ((s.length : Nat) : Int).toNat (Value.int .u8 0)) 0 ((bv s).take (min s.length ((s.length : Nat) : Int).toNat)), e, true⟩ = h.alloc ⟨bv s, e, true⟩ := by
 rw [Heap.set_alloc]
 have e1 : ((s.length : Nat) : Int).toNat = s.length := Int.toNat_natCast _
 rw [e1, Nat.min_self, List.take_of_length_le (by rw [qaH]; exact Nat.le_refl _)]
 have e2 : splice (List.replicate s.length (Value.int .u8 0)) 0 (bv s) = bv s := by
  unfold splice
  rw [List.drop_of_length_le (by rw [List.length_replicate, qaH]; omega)]
  simp
 rw [e2]
theorem clone_c (s : Bytes) (h : Heap) (hl : s.length ≤ 1000000000) : ACalls Tryz.prog 203 [str s] h fun u h' => u = str s ∧ Ext h h' := by
 refine ACalls.wf fun wf => ?_
 refine ACalls.body Tryz.func203 rfl rfl ?_
 by_cases h0 : s = []
 ·
  subst h0
  repeat (first | refine W.w ?_ | refine AWp.c8 rfl ?_ | (refine zz rfl ?_; first | refine qal rfl ?_ | refine qah rfl ?_ | refine qbA (l := []) rfl ?_ | refine qaj rfl rfl rfl (by decide) ?_))
  exact ⟨_, ResV.tmp rfl, rfl, Ext.refl h⟩
 ·
  have hpos : 1 ≤ s.length := List.length_pos_iff.2 h0
  have hg := Heap.alloc_new h ⟨List.replicate ((s.length : Nat) : Int).toNat (.int .u8 0), 5, true⟩
  repeat (first | refine W.w ?_ | refine AWp.c9 rfl ?_ | (refine zz rfl ?_; first | refine qcd rfl ?_ | refine qal rfl ?_ | refine qbl rfl ?_ | refine qah rfl ?_ | refine qbA rfl ?_ | refine qak rfl rfl rfl (by omega) ?_ | refine op_make (z := .int .u8 0) rfl rfl (by omega) (by omega) (by omega) (by omega) rfl ?_))
  refine zz rfl (op_copy (z := .int .u8 0) rfl rfl (bs_src _ s) hg rfl (by show 0 + min s.length _ ≤ (List.replicate _ _).length; rw [List.length_replicate]; omega) (qdS s) ?_)
  refine AL.heap (set_full h s _) ?_
  have gp := Heap.alloc_new h ⟨bv s, 5, true⟩
  have xp := wf.ext ⟨bv s, 5, true⟩
  generalize hH : h.alloc ⟨bv s, 5, true⟩ = H at gp xp ⊢
  have rb : RB H (.slice (some ⟨h.next, 0, some 1⟩) s.length s.length) s := RS.own gp (qaH s)
  repeat (first | refine W.w ?_ | (refine zz rfl ?_; first | refine qcd rfl ?_ | refine qah rfl ?_ | refine qdW rfl rfl (by omega) (by omega) ?_ | refine qaZ rb rfl ?_ | refine qgL (l := s) rfl rfl h0 (by omega) gp ?_))
  refine ⟨_, ResV.tmp rfl, rfl, ⟨fun j x hj => ?_, fun j x hj => xp.o j x hj⟩⟩
  have hlt := wf.lt hj
  simp only [Heap.kill]
  rw [if_neg (by omega)]
  exact xp.c j x hj
abbrev numE (f s : Bytes) (e : Value) : List Value := [str f, str s, e]
theorem synErr_c (f s : Bytes) (h : Heap) (t : Tabs h) (hl : s.length ≤ 1000000000) : ACalls Tryz.prog 185 [str f, str s] h fun u h' => (∃ i, u = ptr i) ∧ Ext h h' := by
 refine ACalls.wf fun wf => ?_
 refine ACalls.body Tryz.func185 rfl rfl ?_
 repeat (first | refine W.w ?_ | refine zz rfl (qcD rfl ?_))
 refine AWp.draw (σ := [(0, .R), (1, .R), (3, .R), (2, .X), (4, .R), (5, .X), (6, .R)]) mixed (by kernel_rfl) ?_
 repeat (first | refine DAL.r rfl rfl rfl (fun h' hx hn => qal rfl ⟨rfl, rfl⟩) ?_ | refine DAL.r rfl rfl rfl (fun h' hx hn => qae rfl rfl (hx.c _ _ t.syn) rfl ⟨rfl, rfl⟩) ?_)
 refine DAL.x rfl rfl rfl ?_
 refine qao (evs := [str s]) rfl rfl ((clone_c s h hl).wf_post.mono ?_)
 rintro _ H1 ⟨⟨rfl, x1⟩, wf1, _⟩
 refine ⟨x1, ?_⟩
 repeat (first | refine DAL.r rfl rfl rfl (fun h' hx hn => qay (out := numE f s (.iface 262 undef)) rfl rfl ⟨rfl, rfl⟩) ?_)
 refine DAL.x rfl rfl rfl (qaI (v := .agg (numE f s (.iface 262 undef)).toArray) rfl (by intro e; cases e) ⟨wf1.ext _, ?_⟩)
 repeat (first | refine DAL.r rfl rfl rfl (fun h' hx hn => qcD rfl ⟨rfl, rfl⟩) ?_)
 refine DAL.nil ?_
 repeat (first | refine AWp.ret ?_)
 exact ⟨_, ResV.tmp rfl, ⟨_, rfl⟩, x1.trans (wf1.ext _)⟩
theorem toErr_c (f s : Bytes) (h : Heap) (t : Tabs h) (hl : s.length ≤ 1000000000) : ACalls Tryz.prog 162 [str f, str s, .int .i64 16, .int .i64 8, .iface 238 (.int .i64 2)] h fun u h' => (∃ e, u = .iface 241 e) ∧ Ext h h' := by
 refine ACalls.body Tryz.func162 rfl rfl ?_
 repeat (first | refine W.w ?_ | refine AWp.c8 rfl ?_ | (refine zz rfl ?_; first | refine qal rfl ?_ | refine qaa rfl ?_ | refine qan (v := .iface 238 (.int .i64 2)) rfl ?_ | refine qa1 rfl rfl ?_ | refine op_eqIfI (by kernel_rfl) rfl rfl ?_ | refine qaq (by conv => lhs; whnf) ?_))
 refine zz rfl (qao (evs := [str f, str s]) rfl rfl ((synErr_c f s h t hl).mono ?_))
 rintro _ H1 ⟨⟨i, rfl⟩, x1⟩
 repeat (first | refine W.w ?_ | refine zz rfl (qa1 rfl rfl ?_) | refine zz rfl (qaq (by conv => lhs; whnf) ?_))
 exact ⟨_, ResV.tmp rfl, ⟨_, rfl⟩, x1⟩
theorem pu_c (s : Bytes) (h : Heap) (t : Tabs h) (hs : s.length ≤ 2) : ACalls Tryz.prog 189 [str s, .int .i64 16, .int .i64 8] h fun u h' => (∃ e, u = .tuple #[.int .u64 (hex2 s : Nat), e]) ∧ Ext h h' := by
 refine ACalls.body Tryz.func189 rfl rfl ?_
 repeat (first | refine W.w ?_ | (refine zz rfl ?_; first | refine qad rfl ?_ | refine qal rfl ?_ | refine qac rfl ?_ | refine qaq (by conv => lhs; whnf) ?_))
 refine zz rfl (qao (evs := [str s, .int .i64 16, .int .i64 8]) rfl rfl ((puI_c s h hs).mono ?_))
 rintro _ H1 ⟨hH, e, rfl, he⟩
 cases hH.symm
 rcases he with rfl | rfl
 ·
  repeat (first | refine W.w ?_ | refine AWp.c9 rfl ?_ | (refine zz rfl ?_; first | refine qad rfl ?_ | refine qaz rfl ?_ | refine qac rfl ?_ | refine qar rfl rfl ?_ | refine qan (v := .nilIface) rfl ?_ | refine qaq (v := .nilIface) rfl ?_ | refine qfz rfl ?_))
  exact ⟨_, ResV.tmp2 rfl, ⟨_, rfl⟩, Ext.refl h⟩
 ·
  repeat (first | refine W.w ?_ | refine AWp.c8 rfl ?_ | (refine zz rfl ?_; first | refine qad rfl ?_ | refine qal rfl ?_ | refine qaz rfl ?_ | refine qac rfl ?_ | refine qar rfl rfl ?_ | refine qan (v := .iface 238 (.int .i64 2)) rfl ?_ | refine qaq (v := .iface 238 (.int .i64 2)) rfl ?_ | refine qhZ rfl ?_))
  refine zz rfl (qao (evs := [str [80, 97, 114, 115, 101, 85, 105, 110, 116], str s, .int .i64 16, .int .i64 8, .iface 238 (.int .i64 2)]) rfl rfl ((toErr_c _ s h t (by omega)).mono ?_))
  rintro _ H1 ⟨⟨e, rfl⟩, x1⟩
  repeat (first | refine W.w ?_ | refine zz rfl (qac rfl ?_) | refine zz rfl (qaq (by conv => lhs; whnf) ?_))
  exact ⟨_, ResV.tmp2 rfl, ⟨_, rfl⟩, x1⟩
theorem bstr_at (s : Bytes) (k : Nat) : (bstr s)[((k : Nat) : Int).toNat]? = s[k]? := by
 show (bstr s).data[k]? = _
 simp [bstr]
end Go.Proofs.YtigmojilaadbhaaGreatDoor
