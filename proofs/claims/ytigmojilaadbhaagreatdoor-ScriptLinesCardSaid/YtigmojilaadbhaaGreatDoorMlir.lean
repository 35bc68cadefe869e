/-
  Texts of one claim, merged: 9 parts.
-/
import Derived.Test.YtigmojilaadbhaaGreatDoorMliq
import Derived.Test.YtigmojilaadbhaaGreatDoorMlii
import Derived.Test.YtigmojilaadbhaaGreatDoorMlig
import Derived.Test.YtigmojilaadbhaaGreatDoorMlip
import Derived.Test.YtigmojilaadbhaaGreatDoorMlio
import Derived.Test.YtigmojilaadbhaaGreatDoorMlif
import GoSem.Extern.BytealgCompare
import GoSem.Op.String
/-
 Scripts: the document's own: bytes avs a word, and back.
-/
namespace Go.Proofs.YtigmojilaadbhaaGreatDoor
open Go Go.Eng Go.Pln Go.Lib
attribute [local irreducible] AWp AL DAL AOp TAL

instance i_rword : FnC Tryz.prog 102 := ⟨Tryz.f102, Tryz.func102, by kernel_rfl, by kernel_rfl⟩
structure Gr (h : Heap) (e : TypeId) (vs : List Value) (H : Heap) (u : Value) : Prop where
 os : OS h.next H e u vs
 ext : Ext h H
 wf : WF H
 nx : h.next ≤ H.next
theorem Gr.nil {h : Heap} (wf : WF h) (e : TypeId) : Gr h e [] h (.slice none 0 0) := ⟨OS.nil _ _ _, Ext.refl h, wf, Nat.le_refl _⟩
theorem Gr.more {h H H' : Heap} {e : TypeId} {vs : List Value} {u : Value} (g : Gr h e vs H u) (hx : Ext H H') (wf : WF H') (hn : H.next ≤ H'.next) : Gr h e vs H' u := ⟨g.os.ext hx, g.ext.trans hx, wf, Nat.le_trans g.nx hn⟩
section
variable {ρ : Operand → Value} {h : Heap} {K : Value → Heap → Prop} {dst : Option Tmp} {ty : TypeId} {pos : String} {aft : Array Edge} {g : Option (Nat × Bool)} {t t' : TypeId} {x y : Operand}
end
theorem hex_ix : ∀ n : Fin 16, (bstr wordHex)[((n.val : Nat) : Int).toNat]? = some (hexC n.val) := by decide +kernel
set_option maxHeartbeats 4000000 in
theorem rword_c (v : Value) (l : Bytes) (h : Heap) (r : RB h v l) (hl : l.length ≤ 100000000) : ACalls Tryz.prog 102 [v] h fun u h' => u = str (wordM l) ∧ h' = h := by
 refine ACalls.wf fun wf => ACalls.reset ?_
 refine ACalls.body Tryz.func102 rfl rfl ?_
 obtain ⟨va, vc, hv⟩ := RS.slice r
 by_cases h0 : l.length = 0
 ·
  have hl0 : l = [] := List.length_eq_zero_iff.1 h0
  repeat (first | refine AL.nil ?_ | refine AWp.seq ?_ | refine AWp.r9 ?_ | refine AWp.c8 rfl ?_ | refine AWp.ret ?_ | refine AL.set rfl rfl (qaf rfl ?_) | refine AL.set rfl rfl (qam (v := v) rfl ?_) | refine AL.set rfl rfl (qaD r rfl ?_) | refine AL.set rfl rfl (qaj rfl rfl rfl (by omega) ?_))
  refine ⟨_, ResV.tmp rfl, rfl, Ext.refl h, ?_, rfl⟩
  rw [hl0]
  rfl
 ·
  have hne : ¬ l = [] := fun e => h0 (by rw [e]; rfl)
  repeat (first | refine AL.nil ?_ | refine AWp.seq ?_ | refine AWp.r9 ?_ | refine AWp.c9 rfl ?_ | refine AWp.b9 ?_ | refine AWp.k9 ?_ | refine AL.set rfl rfl (qae rfl ?_) | refine AL.set rfl rfl (qbh rfl ?_) | refine AL.set rfl rfl (qaf rfl ?_) | refine AL.set rfl rfl (qam (v := v) rfl ?_) | refine AL.set rfl rfl (qaD r rfl ?_) | refine AL.set rfl rfl (qak rfl rfl rfl (by omega) ?_))
  refine AWp.loop (α := Nat × Heap × Value) (fun d => [(0, v), (3, d.2.2), (4, .int .i64 (d.1 : Nat))]) (fun d => d.2.1) (fun d => d.1 ≤ l.length ∧ Gr h 5 (bv ((l.take d.1).flatMap encB)) d.2.1 d.2.2) (fun d => l.length - d.1) (0, h, .slice none 0 0) ⟨Nat.zero_le _, Gr.nil wf _⟩
   (Weak.same (EW.cons rfl (EW.cons rfl (EW.cons rfl EW.nil)))) ?_
  rintro ⟨k, H, u⟩ ⟨hk, gg⟩
  replace hk : k ≤ l.length := hk
  replace gg : Gr h 5 (bv ((l.take k).flatMap encB)) H u := gg
  show AWp _ _ _ _ [(0, v), (3, u), (4, .int .i64 (k : Nat))] H
  have rH := r.ext gg.ext
  have ru := RS.slice gg.os.rs
  obtain ⟨ua, uc, hu⟩ := ru
  have hlen := qcJ (l.take k)
  rw [List.length_take] at hlen
  by_cases hlt : k < l.length
  ·
   obtain ⟨ch, hc⟩ : ∃ ch, l[k]? = some ch := ⟨_, List.getElem?_eq_getElem hlt⟩
   have hft := qcR (f := encB) hc
   have lc := ch.toNat_lt
   by_cases hp1 : plainC ch = true
   ·
    have he := qcS hp1
    obtain ⟨q1, q2, q3⟩ : 32 < ch.toNat ∧ ch.toNat < 127 ∧ ch.toNat ≠ 37 := of_decide_eq_true hp1
    repeat (first | refine AL.nil ?_ | refine AWp.seq ?_ | refine AWp.r9 ?_ | refine AWp.c8 rfl ?_ | refine AWp.b9 ?_ | refine AWp.k9 ?_ | refine AL.set rfl rfl (qac rfl ?_) | refine AL.set rfl rfl (qag rfl ?_) | refine AL.set rfl rfl (qam (v := v) rfl ?_) | refine AL.set rfl rfl (qam (v := u) rfl ?_) | refine AL.set rfl rfl (qaD rH rfl ?_) | refine AL.set rfl rfl (qaj rfl rfl rfl (by omega) ?_) | refine AL.set rfl rfl (qai (v := .bool _) rfl rfl ?_) | refine AL.set rfl rfl (qaZ rH rfl rfl (by omega) (bvAt hc rfl) fun _ => ?_) | refine AL.set rfl rfl (qaz (PT.of rH (bvAt hc rfl)) rfl rfl ?_) | refine AL.set rfl rfl (qaI (bv [ch]) rfl rfl rfl rfl (qc8 _) ?_))
    have gr := Heap.alloc_new H ⟨bv [ch], 5, true⟩
    have xr := gg.wf.ext ⟨bv [ch], 5, true⟩
    have wr := gg.wf.alloc ⟨bv [ch], 5, true⟩
    generalize H.alloc ⟨bv [ch], 5, true⟩ = H3 at gr xr wr ⊢
    have rb : RB H3 (.slice (some ⟨H.next, 0, some 1⟩) 1 1) [ch] := RS.own gr rfl
    have n3 := wr.lt gr
    have g3 := gg.more xr wr (by omega)
    refine AL.set rfl rfl (qbg (z := .int .u8 0) (B := h.next) (e := 5) rfl wr g3.nx g3.os rfl rfl rb.src (qaE _) (qdf _) (by rw [qaE]; simp only [maxLen, List.length_cons, List.length_nil]; omega) (by rw [qaE]; simp only [List.length_cons, List.length_nil]; omega) ?_)
    intro u' H4 o4 k4 wf4 n4
    rw [← qb4] at o4
    have g4 : Gr h 5 _ H4 u' := ⟨o4, k4.ext g3.os wf (Nat.le_refl _) g3.ext, wf4, Nat.le_trans g3.nx n4⟩
    repeat (first | refine AL.nil ?_ | refine AWp.r9 ?_ | refine AL.set rfl rfl (qac rfl ?_) | refine AL.set rfl rfl (qae rfl ?_) | refine AL.set rfl rfl (qar (v := u') rfl ?_) | refine AL.set rfl rfl (qax rfl rfl (by omega) ?_))
    exact ⟨(k + 1, H4, u'), ⟨hlt, by show Gr h _ (bv ((l.take (k + 1)).flatMap encB)) H4 u'; rw [hft, he]; exact g4⟩, by show l.length - (k + 1) < l.length - k; omega, Weak.same (EW.cons rfl (EW.cons rfl (EW.cons rfl EW.nil)))⟩
   ·
    have he := qe1 hp1
    have hp2 : ¬ (32 < ch.toNat ∧ ch.toNat < 127 ∧ ch.toNat ≠ 37) := fun e => hp1 (decide_eq_true e)
    have hA := hex_ix ⟨ch.toNat / 16, by omega⟩
    have hB := hex_ix ⟨ch.toNat % 16, by omega⟩
    repeat' (first | refine AL.nil ?_ | refine AL.skip rfl rfl ?_ | refine AWp.seq ?_ | refine AWp.r9 ?_ | refine AWp.c8 rfl ?_ | refine AWp.c9 rfl ?_ | refine AWp.b9 ?_ | refine AWp.k9 ?_ | refine AL.set rfl rfl (qac rfl ?_) | refine AL.set rfl rfl (qag rfl ?_) | refine AL.set rfl rfl (qam (v := v) rfl ?_) | refine AL.set rfl rfl (qaD rH rfl ?_) | refine AL.set rfl rfl (qaj rfl rfl rfl (by omega) ?_) | refine AL.set rfl rfl (qak rfl rfl rfl (by omega) ?_) | refine AL.set rfl rfl (qai (v := .bool _) rfl rfl ?_) | refine AL.set rfl rfl (qaZ rH rfl rfl (by omega) (bvAt hc rfl) fun _ => ?_) | refine AL.set rfl rfl (qaz (PT.of rH (bvAt hc rfl)) rfl rfl ?_) | refine AL.set rfl rfl (qaM rfl rfl rfl (fun c => ?_) (fun c => ?_)))
    all_goals first | (exfalso; omega) | skip
    all_goals (
     refine AWp.tree (t := OT.seq [(0, .R), (1, .R), (2, .R), (3, .R), (4, .R), (5, .R), (6, .R), (7, .R), (8, .R), (9, .R), (10, .R), (11, .R), (12, .R), (13, .X), (14, .W), (15, .R)] .nil) mixed (by kernel_rfl) ?_
     repeat (first | refine TAL.r rfl rfl rfl (fun h' hx hn => qac rfl ⟨rfl, rfl⟩) ?_ | refine TAL.r rfl rfl rfl (fun h' hx hn => qam (v := v) rfl ⟨rfl, rfl⟩) ?_ | refine TAL.r rfl rfl rfl (fun h' hx hn => qam (v := u) rfl ⟨rfl, rfl⟩) ?_ | refine TAL.r rfl rfl rfl (fun h' hx hn => qaZ (rH.ext hx) rfl rfl (by omega) (bvAt hc rfl) fun _ => ⟨rfl, rfl⟩) ?_ | refine TAL.r rfl rfl rfl (fun h' hx hn => qaz (PT.of (rH.ext hx) (bvAt hc rfl)) rfl rfl ⟨rfl, rfl⟩) ?_ | refine TAL.r rfl rfl rfl (fun h' hx hn => op_shr4 rfl rfl ⟨rfl, rfl⟩) ?_ | refine TAL.r rfl rfl rfl (fun h' hx hn => qhs rfl rfl ⟨rfl, rfl⟩) ?_ | refine TAL.r rfl rfl rfl (fun h' hx hn => qbt rfl rfl (by omega) hA ⟨rfl, rfl⟩) ?_ | refine TAL.r rfl rfl rfl (fun h' hx hn => qbt rfl rfl (by omega) hB ⟨rfl, rfl⟩) ?_)
     refine TAL.x rfl rfl rfl (qaI (bv [37, hexC (ch.toNat / 16), hexC (ch.toNat % 16)]) rfl rfl rfl rfl (qc8 _) ⟨gg.wf.ext _, ?_⟩)
     have gr := Heap.alloc_new H ⟨bv [37, hexC (ch.toNat / 16), hexC (ch.toNat % 16)], 5, true⟩
     have xr := gg.wf.ext ⟨bv [37, hexC (ch.toNat / 16), hexC (ch.toNat % 16)], 5, true⟩
     have wr := gg.wf.alloc ⟨bv [37, hexC (ch.toNat / 16), hexC (ch.toNat % 16)], 5, true⟩
     generalize H.alloc ⟨bv [37, hexC (ch.toNat / 16), hexC (ch.toNat % 16)], 5, true⟩ = H3 at gr xr wr ⊢
     have rb : RB H3 (.slice (some ⟨H.next, 0, some 1⟩) 3 3) [37, hexC (ch.toNat / 16), hexC (ch.toNat % 16)] := RS.own gr rfl
     have n3 := wr.lt gr
     have g3 := gg.more xr wr (by omega)
     refine TAL.w rfl rfl rfl (qbg (z := .int .u8 0) (B := h.next) (e := 5) rfl wr g3.nx g3.os rfl rfl rb.src (qaE _) (qdf _) (by rw [qaE]; simp only [maxLen, List.length_cons, List.length_nil]; omega) (by rw [qaE]; simp only [List.length_cons, List.length_nil]; omega) ?_)
     intro u' H4 o4 k4 wf4 n4
     rw [← qb4] at o4
     have g4 : Gr h 5 _ H4 u' := ⟨o4, k4.ext g3.os wf (Nat.le_refl _) g3.ext, wf4, Nat.le_trans g3.nx n4⟩
     repeat (first | refine TAL.r rfl rfl rfl (fun h' hx hn => qar (v := u') rfl ⟨rfl, rfl⟩) ?_)
     refine TAL.nil ?_
     repeat (first | refine AL.nil ?_ | refine AWp.r9 ?_ | refine AL.set rfl rfl (qac rfl ?_) | refine AL.set rfl rfl (qae rfl ?_) | refine AL.set rfl rfl (qax rfl rfl (by omega) ?_))
     exact ⟨(k + 1, H4, u'), ⟨hlt, by show Gr h _ (bv ((l.take (k + 1)).flatMap encB)) H4 u'; rw [hft, he]; exact g4⟩, by show l.length - (k + 1) < l.length - k; omega, Weak.same (EW.cons rfl (EW.cons rfl (EW.cons rfl EW.nil)))⟩)
  ·
   obtain rfl : k = l.length := by omega
   rw [List.take_length] at gg
   have rb : RB H u (l.flatMap encB) := gg.os.rs
   repeat (first | refine AL.nil ?_ | refine AWp.seq ?_ | refine AWp.r9 ?_ | refine AWp.c9 rfl ?_ | refine AWp.ret ?_ | refine AWp.exit ?_ | refine AL.set rfl rfl (qac rfl ?_) | refine AL.set rfl rfl (qaf rfl ?_) | refine AL.set rfl rfl (qam (v := v) rfl ?_) | refine AL.set rfl rfl (qam (v := u) rfl ?_) | refine AL.set rfl rfl (qaD rH rfl ?_) | refine AL.set rfl rfl (qak rfl rfl rfl (by omega) ?_) | refine AL.set rfl rfl (qan rb rfl ?_))
   have e : wordM l = l.flatMap encB := by unfold wordM; rw [if_neg hne]
   rw [e]
   exact ⟨_, ResV.tmp rfl, rfl, gg.ext, rfl, rfl⟩
end Go.Proofs.YtigmojilaadbhaaGreatDoor

/-
 Scripts: the document's own: the bytes of a word; a line's words; words behind one.
-/
namespace Go.Proofs.YtigmojilaadbhaaGreatDoor
open Go Go.Eng Go.Pln Go.Lib
attribute [local irreducible] AWp AL DAL AOp TAL

instance i_rnames : FnC Tryz.prog 101 := ⟨Tryz.f101, Tryz.func101, by kernel_rfl, by kernel_rfl⟩
instance i_rName : FnC Tryz.prog 49 := ⟨Tryz.f49, Tryz.func49, by kernel_rfl, by kernel_rfl⟩
instance i_rB : FnC Tryz.prog 51 := ⟨Tryz.f51, Tryz.func51, by kernel_rfl, by kernel_rfl⟩
structure UrI (h : Heap) (s : Bytes) (i : Nat) (acc : Bytes) (H : Heap) (u : Value) : Prop where
 le : i ≤ s.length
 eq : unR s = (unR (s.drop i)).map (acc ++ ·)
 gr : Gr h 5 (bv acc) H u
 len : acc.length ≤ i
def UwOk (h : Heap) (s : Bytes) (u : Value) (h' : Heap) : Prop := ∃ v b, u = .tuple #[v, .bool (unwordR s).isSome] ∧ OS h.next h' 5 v (bv b) ∧ b.length ≤ s.length ∧ Ext h h' ∧ ((unwordR s).isSome = true → unwordR s = some b)
end Go.Proofs.YtigmojilaadbhaaGreatDoor

/-
 Scripts: the document's own: a line's words; the kinds' words; bytes avs words behind one.
-/
namespace Go.Proofs.YtigmojilaadbhaaGreatDoor
open Go Go.Eng Go.Pln Go.Lib
attribute [local irreducible] AWp AL DAL AOp TAL

instance i_TyD_Sl_Sl_uint8 : TyD Tryz.prog 135 (.slice 27) := ⟨Tryz.underlying135⟩
abbrev noB (s : Bytes) : Prop := ∀ c ∈ s, c ≠ 32
structure WdI (h : Heap) (s : Bytes) (i at_ : Nat) (ws : List Bytes) (H : Heap) (u : Value) : Prop where
 gr : Gr h 9 (ws.map str) H u
 len : ws.length ≤ i
 alt : (i ≤ s.length ∧ at_ ≤ i ∧ wordsS s = ws ++ wordsS (s.drop at_) ∧ noB ((s.take i).drop at_)) ∨ (i = s.length + 1 ∧ wordsS s = ws)
def namesL : List Bytes := [[], [116, 105, 109, 101, 114], [98, 101, 97, 116], [104, 101, 97, 114], [100, 114, 111, 112], [100, 111, 117, 98, 108, 101], [97, 112, 112, 108, 121], [119, 111, 114, 107], [100, 114, 105, 118, 101], [112, 108, 97, 110], [97, 115, 107], [97, 103, 97, 105, 110], [99, 114, 97, 115, 104], [115, 116, 97, 114, 116]]
theorem names_at : ∀ i : Fin 13, namesL[i.val + 1]? = some (kword (i.val + 1)) := by decide +kernel
theorem strs_ones (ws : List Bytes) : ∀ v ∈ ws.map str, oneB v = true := by
 intro v hv
 obtain ⟨w, _, rfl⟩ := List.mem_map.1 hv
 rfl
theorem rnames_c (h : Heap) : ACalls Tryz.prog 101 [] h fun u h' => u = .slice (some ⟨h.next, 0, some 1⟩) 14 14 ∧ h' = h.alloc ⟨namesL.map str, 9, true⟩ := by
 refine ACalls.body Tryz.func101 rfl rfl ?_
 repeat (first | refine AL.nil ?_ | refine AWp.seq ?_ | refine AWp.r9 ?_ | refine AWp.ret ?_ | refine AL.set rfl rfl (qbh rfl ?_) | refine AL.set rfl rfl (qaI (namesL.map str) rfl rfl rfl rfl (strs_ones _) ?_))
 exact ⟨_, ResV.tmp rfl, rfl, rfl⟩
theorem rName_c (k : Int) (hk : 1 ≤ k ∧ k ≤ 13) (h : Heap) : ACalls Tryz.prog 49 [.int .i64 k] h fun u h' => u = str (kword k) ∧ h' = h := by
 refine ACalls.wf fun wf => ACalls.reset ?_
 refine ACalls.body Tryz.func49 rfl rfl ?_
 repeat (first | refine AL.nil ?_ | refine AWp.seq ?_ | refine AWp.r9 ?_ | refine AL.set rfl rfl (qaf rfl ?_))
 refine AL.set rfl rfl (qaq rfl rfl ((rnames_c h).mono ?_))
 rintro _ H1 ⟨rfl, hH1⟩
 cases hH1.symm
 have g1 := Heap.alloc_new h ⟨namesL.map str, 9, true⟩
 have x1 := wf.ext ⟨namesL.map str, 9, true⟩
 generalize h.alloc ⟨namesL.map str, 9, true⟩ = H1 at g1 x1 ⊢
 have r1 : RS H1 (.slice (some ⟨h.next, 0, some 1⟩) 14 14) (namesL.map str) := RS.own g1 rfl
 have hn : (namesL.map str)[k.toNat]? = some (str (kword k)) := by
  have := names_at ⟨(k - 1).toNat, by omega⟩
  have e1 : (k - 1).toNat + 1 = k.toNat := by omega
  have e2 : (((k - 1).toNat : Nat) : Int) + 1 = k := by omega
  simp only [e1, e2] at this
  rw [List.getElem?_map, this]
  rfl
 repeat (first | refine AL.nil ?_ | refine AWp.ret ?_ | refine AL.set rfl rfl (qac rfl ?_) | refine AL.set rfl rfl (qaf rfl ?_) | refine AL.set rfl rfl (qaZ r1 rfl rfl (by omega) hn fun _ => ?_) | refine AL.set rfl rfl (qaz (PT.of r1 hn) rfl rfl ?_))
 exact ⟨_, ResV.tmp rfl, rfl, x1, rfl, rfl⟩
set_option maxHeartbeats 1000000 in
theorem rB_c (s : Bytes) (v : Value) (l : List Bytes) (h : Heap) (r : RBB h v l) (hs : s.length ≤ 100000) (hb : ∀ b ∈ l, b.length ≤ 1000) (hl : l.length ≤ 100) : ACalls Tryz.prog 51 [str s, v] h fun u h' => u = str (s ++ tailW (l.map wordM)) ∧ h' = h := by
 refine ACalls.body Tryz.func51 rfl rfl ?_
 obtain ⟨vs, r1, r2, r3⟩ := r
 obtain ⟨va, vc, hv⟩ := RS.slice r1
 repeat (first | refine AL.nil ?_ | refine AWp.seq ?_ | refine AWp.r9 ?_ | refine AWp.b9 ?_ | refine AL.set rfl rfl (qae rfl ?_) | refine AL.set rfl rfl (qaf rfl ?_))
 refine AWp.loop (α := Nat) (fun k => [(0, str (s ++ tailW ((l.take k).map wordM))), (1, v), (5, .int .i64 (k : Nat))]) (fun _ => h) (fun k => k ≤ l.length ∧ (tailW ((l.take k).map wordM)).length ≤ 3002 * k) (fun k => l.length - k) 0 ⟨Nat.zero_le _, Nat.le_refl _⟩ (Weak.same (EW.cons (congrArg str (List.append_nil s).symm) (EW.cons rfl (EW.cons rfl EW.nil)))) ?_
 rintro k ⟨hk, hkl⟩
 by_cases hlt : k < l.length
 ·
  obtain ⟨b, hbk⟩ : ∃ b, l[k]? = some b := ⟨_, List.getElem?_eq_getElem hlt⟩
  obtain ⟨x, hx⟩ : ∃ x, vs[k]? = some x := ⟨_, List.getElem?_eq_getElem (by omega)⟩
  have hxk : vs[((k : Nat) : Int).toNat]? = some x := hx
  have rb := r3 k x b hx hbk
  have hbl := hb b (List.mem_of_getElem? hbk)
  have cw := rword_c x b h rb (by omega)
  have hwl : (wordM b).length ≤ 3001 := by
   unfold wordM
   split
   ·
    simp
   ·
    have := qcJ b; omega
  have e : s ++ tailW ((l.take (k + 1)).map wordM) = s ++ tailW ((l.take k).map wordM) ++ [32] ++ wordM b := by
   rw [List.take_add_one, hbk, List.map_append, qb2]
   simp [tailW]
  have e2 : tailW ((l.take (k + 1)).map wordM) = tailW ((l.take k).map wordM) ++ 32 :: wordM b := by
   rw [List.take_add_one, hbk, List.map_append, qb2]
   simp [tailW]
  repeat (first | refine AL.nil ?_ | refine AWp.seq ?_ | refine AWp.r9 ?_ | refine AWp.c8 rfl ?_ | refine AWp.b9 ?_ | refine AWp.k9 ?_ | refine AL.set rfl rfl (qac rfl ?_) | refine AL.set rfl rfl (qal rfl ?_) | refine AL.set rfl rfl (qae rfl ?_) | refine AL.set rfl rfl (qaf rfl ?_) | refine AL.set rfl rfl (qam (v := v) rfl ?_) | refine AL.set rfl rfl (qa0 r1 rfl ?_) | refine AL.set rfl rfl (qaj rfl rfl rfl (by omega) ?_) | refine AL.set rfl rfl (qbY rfl rfl (by simp only [maxLen, List.length_append, List.length_cons, List.length_nil]; omega) ?_) | refine AL.set rfl rfl (qaZ r1 rfl rfl (by omega) hxk fun _ => ?_) | refine AL.set rfl rfl (qaz (PT.of r1 hxk) rfl rfl ?_) | refine AL.set rfl rfl (qab rfl rfl cw ?_) | refine AL.set rfl rfl (qax rfl rfl (by omega) ?_))
  exact ⟨k + 1, ⟨hlt, by rw [e2, List.length_append, List.length_cons]; omega⟩, by omega, Weak.same (EW.cons (congrArg str e.symm) (EW.cons rfl (EW.cons rfl EW.nil)))⟩
 ·
  obtain rfl : k = l.length := by omega
  rw [List.take_length] at hkl ⊢
  repeat (first | refine AL.nil ?_ | refine AWp.seq ?_ | refine AWp.r9 ?_ | refine AWp.c9 rfl ?_ | refine AWp.ret ?_ | refine AWp.exit ?_ | refine AL.set rfl rfl (qac rfl ?_) | refine AL.set rfl rfl (qal rfl ?_) | refine AL.set rfl rfl (qaf rfl ?_) | refine AL.set rfl rfl (qam (v := v) rfl ?_) | refine AL.set rfl rfl (qa0 r1 rfl ?_) | refine AL.set rfl rfl (qak rfl rfl rfl (by omega) ?_))
  exact ⟨_, ResV.tmp rfl, rfl, rfl⟩
end Go.Proofs.YtigmojilaadbhaaGreatDoor

/-
 Lines: what the document's words ask and plan, case by case.
-/
namespace Go.Pln
open Go Go.Lib

end Go.Pln

/-
 Scripts: the document's own: a line's words avs bytes, avs numbers; what they ask.
-/
namespace Go.Proofs.YtigmojilaadbhaaGreatDoor
open Go Go.Eng Go.Pln Go.Lib
attribute [local irreducible] AWp AL DAL AOp TAL

structure RW (B : Nat) (h : Heap) (v : Value) (ws : List Bytes) : Prop where
 os : OS B h 9 v (ws.map str)
 len : ws.length ≤ 1000000000
 all : ∀ w ∈ ws, w.length ≤ 100000000
def WiOk (B : Nat) (ws : List Bytes) (i : Nat) (u : Value) (h' : Heap) : Prop := ∃ v b, u = .tuple #[v, .bool (wordI ws i).isSome] ∧ OS B h' 5 v (bv b) ∧ ((wordI ws i).isSome = true → wordI ws i = some b)
structure UaI (h : Heap) (j4 j6 : Nat) (q : AskV) (a : AskM) (H : Heap) : Prop where
 ext : Ext h H
 wf : WF H
 nx : h.next ≤ H.next
 n4 : h.next ≤ j4
 n6 : h.next ≤ j6
 ne : j4 ≠ j6
 g4 : H.get j4 = some ⟨askC askV0 ask0, 29, true⟩
 g6 : H.get j6 = some ⟨askC q a, 29, true⟩
 o : AskO h.next H q a
end Go.Proofs.YtigmojilaadbhaaGreatDoor

/-
 Scripts: the document's own: what a line's words plan.
-/
namespace Go.Proofs.YtigmojilaadbhaaGreatDoor
open Go Go.Eng Go.Pln Go.Lib
attribute [local irreducible] AWp AL DAL AOp TAL

structure UpI (h : Heap) (j4 j6 : Nat) (q : CmdV) (a : CmdM) (H : Heap) : Prop where
 ext : Ext h H
 wf : WF H
 nx : h.next ≤ H.next
 n4 : h.next ≤ j4
 n6 : h.next ≤ j6
 ne : j4 ≠ j6
 g4 : H.get j4 = some ⟨cmdC cmdV0 cmd0, 37, true⟩
 g6 : H.get j6 = some ⟨cmdC q a, 37, true⟩
 o : CmdO h.next H q a
end Go.Proofs.YtigmojilaadbhaaGreatDoor

/-
 Scripts: the document's own: what is asked, avs words.
-/
namespace Go.Proofs.YtigmojilaadbhaaGreatDoor
open Go Go.Eng Go.Pln Go.Lib
attribute [local irreducible] AWp AL DAL AOp TAL

instance i_rAsk : FnC Tryz.prog 52 := ⟨Tryz.f52, Tryz.func52, by kernel_rfl, by kernel_rfl⟩
def RBs (h : Heap) : List Value → List Bytes → Prop
 | [], [] => True
 | v :: vs, l :: ll => RB h v l ∧ RBs h vs ll
 | _, _ => False
theorem RBs.at {h : Heap} : ∀ {vs : List Value} {ll : List Bytes}, RBs h vs ll → vs.length = ll.length ∧ ∀ (k : Nat) x l, vs[k]? = some x → ll[k]? = some l → RB h x l
 | [], [], _ => ⟨rfl, fun k x l hx _ => by simp at hx⟩
 | v :: vs, l :: ll, r => by
  obtain ⟨h1, h2⟩ := RBs.at r.2
  refine ⟨by simp [h1], fun k x m hx hm => ?_⟩
  cases k with
  | zero => simp at hx hm; subst hx hm; exact r.1
  | succ k => simp at hx hm; exact h2 k x m hx hm
theorem RBs.rbb {h : Heap} {v : Value} {vs : List Value} {ll : List Bytes} (r : RBs h vs ll) (rs : RS h v vs) : RBB h v ll := ⟨vs, rs, r.at.1, r.at.2⟩
theorem RBs.ext {h h' : Heap} (hx : Ext h h') : ∀ {vs : List Value} {ll : List Bytes}, RBs h vs ll → RBs h' vs ll
 | [], [], _ => trivial
 | _ :: _, _ :: _, r => ⟨r.1.ext hx, RBs.ext hx r.2⟩
theorem RBs.ones {h : Heap} : ∀ {vs : List Value} {ll : List Bytes}, RBs h vs ll → ∀ v ∈ vs, oneB v = true
 | [], [], _, v, hv => by cases hv
 | w :: vs, l :: ll, r, v, hv => by
  rcases List.mem_cons.1 hv with rfl | hv
  ·
   exact r.1.one.1
  ·
   exact RBs.ones r.2 v hv
theorem qbP (l : List Int) : ∀ v ∈ iv64 l, oneB v = true := by
 intro v hv
 obtain ⟨n, _, rfl⟩ := List.mem_map.1 hv
 rfl
theorem rBx_c (s : Bytes) (v : Value) (l : List Bytes) {H : Heap} (r : RBB H v l) (hs : s.length ≤ 100000) (hb : ∀ b ∈ l, b.length ≤ 1000) (hl : l.length ≤ 100) (h : Heap) (hx : Ext H h) : ACalls Tryz.prog 51 [str s, v] h fun u h' => u = str (s ++ tailW (l.map wordM)) ∧ h' = h := rB_c s v l h (r.ext hx) hs hb hl
theorem rNx_c (s : Bytes) (v : Value) (l : List Int) {H : Heap} (r : RS H v (iv64 l)) (hi : ∀ n ∈ l, I64 n) (hl : s.length + 22 * l.length ≤ 140737488351232) (t : Tabs H) (h : Heap) (hx : Ext H h) : ACalls Tryz.prog 50 [str s, v] h fun u h' => u = str (s ++ tailW (l.map itoa)) ∧ h' = h := N_c s v l h (r.ext hx) hi hl (t.ext hx)
set_option maxHeartbeats 2000000 in
theorem rAsk_c (p : AskV) (a : AskM) (h : Heap) (r : AskR h p a) (hm : mayAsk a = true) (t : Tabs h) : ACalls Tryz.prog 52 [.agg (askC p a).toArray] h fun u h' => u = str (joinW (askW a)) ∧ h' = h := by
 obtain ⟨l1, l2, l3, l4, l5, l6, l7, l8⟩ := qcw hm
 refine ACalls.wf fun wf => ACalls.reset ?_
 refine ACalls.body Tryz.func52 rfl rfl ?_
 repeat (first | refine AL.nil ?_ | refine AWp.seq ?_ | refine AWp.r9 ?_ | refine AL.set rfl rfl (qaf rfl ?_) | refine AL.set rfl rfl (qaL rfl (by intro e; cases e) ?_))
 generalize hH : h.alloc _ = H
 have hg : H.get h.next = some ⟨askC p a, 29, true⟩ := hH ▸ Heap.alloc_new _ _
 have xh : Ext h H := hH ▸ wf.ext _
 have wfH : WF H := hH ▸ wf.alloc _
 clear hH
 obtain ⟨q1, q2, q3, q4⟩ := r.ext xh
 by_cases k1 : a.kind = 1
 ·
  have he : askW a = [wGet, wordM a.key] := by unfold askW; rw [if_pos k1]
  have q : RBs H [p.k] [a.key] := ⟨q1, trivial⟩
  repeat (first | refine AL.nil ?_ | refine AWp.seq ?_ | refine AWp.r9 ?_ | refine AWp.c8 rfl ?_ | refine AWp.b9 ?_ | refine AL.set rfl rfl (qaa rfl ?_) | refine AL.set rfl rfl (qao rfl ?_) | refine AL.set rfl rfl (qad rfl rfl hg rfl ?_) | refine AL.set rfl rfl (qaj rfl rfl rfl (by omega) ?_) | refine AL.set rfl rfl (qaI [p.k] rfl rfl rfl rfl q.ones ?_))
  have gr := Heap.alloc_new H ⟨[p.k], 27, true⟩
  have xr := wfH.ext ⟨[p.k], 27, true⟩
  generalize H.alloc ⟨[p.k], 27, true⟩ = H1 at gr xr ⊢
  have rr : RBB H1 (.slice (some ⟨H.next, 0, some 1⟩) 1 1) [a.key] := (q.ext xr).rbb (RS.own gr rfl)
  have cb := rB_c wGet _ [a.key] H1 rr (by decide) (by intro b hb; simp only [List.mem_cons, List.not_mem_nil, or_false] at hb; rcases hb with rfl <;> omega) (by simp)
  repeat (first | refine AL.nil ?_ | refine AWp.ret ?_ | refine AL.set rfl rfl (qaf rfl ?_) | refine AL.set rfl rfl (qab rfl rfl cb ?_))
  refine ⟨_, ResV.tmp rfl, rfl, xh.trans xr, ?_, rfl⟩
  rw [he, qaK]
  rfl
 by_cases k3 : a.kind = 3
 ·
  have he : askW a = [wDelete, wordM a.key] := by unfold askW; rw [if_neg k1, if_pos k3]
  have q : RBs H [p.k] [a.key] := ⟨q1, trivial⟩
  repeat (first | refine AL.nil ?_ | refine AWp.seq ?_ | refine AWp.r9 ?_ | refine AWp.c8 rfl ?_ | refine AWp.c9 rfl ?_ | refine AWp.b9 ?_ | refine AL.set rfl rfl (qaa rfl ?_) | refine AL.set rfl rfl (qao rfl ?_) | refine AL.set rfl rfl (qad rfl rfl hg rfl ?_) | refine AL.set rfl rfl (qaj rfl rfl rfl (by omega) ?_) | refine AL.set rfl rfl (qak rfl rfl rfl (by omega) ?_) | refine AL.set rfl rfl (qaI [p.k] rfl rfl rfl rfl q.ones ?_))
  have gr := Heap.alloc_new H ⟨[p.k], 27, true⟩
  have xr := wfH.ext ⟨[p.k], 27, true⟩
  generalize H.alloc ⟨[p.k], 27, true⟩ = H1 at gr xr ⊢
  have rr : RBB H1 (.slice (some ⟨H.next, 0, some 1⟩) 1 1) [a.key] := (q.ext xr).rbb (RS.own gr rfl)
  have cb := rB_c wDelete _ [a.key] H1 rr (by decide) (by intro b hb; simp only [List.mem_cons, List.not_mem_nil, or_false] at hb; rcases hb with rfl <;> omega) (by simp)
  repeat (first | refine AL.nil ?_ | refine AWp.ret ?_ | refine AL.set rfl rfl (qaf rfl ?_) | refine AL.set rfl rfl (qab rfl rfl cb ?_))
  refine ⟨_, ResV.tmp rfl, rfl, xh.trans xr, ?_, rfl⟩
  rw [he, qaK]
  rfl
 by_cases k2 : a.kind = 2
 ·
  have he : askW a = [wPut, wordM a.key, wordM a.value] := by unfold askW; rw [if_neg k1, if_neg k3, if_pos k2]
  have q : RBs H [p.k, p.v] [a.key, a.value] := ⟨q1, q3, trivial⟩
  repeat (first | refine AL.nil ?_ | refine AWp.seq ?_ | refine AWp.r9 ?_ | refine AWp.c8 rfl ?_ | refine AWp.c9 rfl ?_ | refine AWp.b9 ?_ | refine AL.set rfl rfl (qaa rfl ?_) | refine AL.set rfl rfl (qao rfl ?_) | refine AL.set rfl rfl (qad rfl rfl hg rfl ?_) | refine AL.set rfl rfl (qaj rfl rfl rfl (by omega) ?_) | refine AL.set rfl rfl (qak rfl rfl rfl (by omega) ?_) | refine AL.set rfl rfl (qaI [p.k, p.v] rfl rfl rfl rfl q.ones ?_))
  have gr := Heap.alloc_new H ⟨[p.k, p.v], 27, true⟩
  have xr := wfH.ext ⟨[p.k, p.v], 27, true⟩
  generalize H.alloc ⟨[p.k, p.v], 27, true⟩ = H1 at gr xr ⊢
  have rr : RBB H1 (.slice (some ⟨H.next, 0, some 1⟩) 2 2) [a.key, a.value] := (q.ext xr).rbb (RS.own gr rfl)
  have cb := rB_c wPut _ [a.key, a.value] H1 rr (by decide) (by intro b hb; simp only [List.mem_cons, List.not_mem_nil, or_false] at hb; rcases hb with rfl | rfl <;> omega) (by simp)
  repeat (first | refine AL.nil ?_ | refine AWp.ret ?_ | refine AL.set rfl rfl (qaf rfl ?_) | refine AL.set rfl rfl (qab rfl rfl cb ?_))
  refine ⟨_, ResV.tmp rfl, rfl, xh.trans xr, ?_, rfl⟩
  rw [he, qaK]
  rfl
 by_cases k5 : a.kind = 5
 ·
  have he : askW a = [wScan, wordM a.key, wordM a.to, itoa a.most] := by unfold askW; rw [if_neg k1, if_neg k3, if_neg k2, if_pos k5]
  have q : RBs H [p.k, p.t] [a.key, a.to] := ⟨q1, q2, trivial⟩
  have hb : ∀ b ∈ [a.key, a.to], b.length ≤ 1000 := by intro b hb; simp only [List.mem_cons, List.not_mem_nil, or_false] at hb; rcases hb with rfl | rfl <;> omega
  have hi : ∀ n ∈ [a.most], I64 n := by intro n hn; rw [List.mem_singleton.1 hn]; exact ⟨by omega, by omega⟩
  have hsl : (wScan ++ tailW ([a.key, a.to].map wordM)).length + 22 * [a.most].length ≤ 140737488351232 := by
   have w1 := qbn a.key
   have w2 := qbn a.to
   simp only [tailW, List.map_cons, List.map_nil, List.flatMap_cons, List.flatMap_nil, List.length_append, List.length_cons, List.length_nil]
   have : wScan.length = 4 := rfl
   omega
  have fin : str (wScan ++ tailW ([a.key, a.to].map wordM) ++ tailW ([a.most].map itoa)) = str (joinW (askW a)) := by
   rw [he, qaK]
   simp [tailW]
  repeat (first | refine AL.nil ?_ | refine AWp.seq ?_ | refine AWp.r9 ?_ | refine AWp.c8 rfl ?_ | refine AWp.c9 rfl ?_ | refine AWp.b9 ?_ | refine AL.set rfl rfl (qaa rfl ?_) | refine AL.set rfl rfl (qao rfl ?_) | refine AL.set rfl rfl (qad rfl rfl hg rfl ?_) | refine AL.set rfl rfl (qaj rfl rfl rfl (by omega) ?_) | refine AL.set rfl rfl (qak rfl rfl rfl (by omega) ?_))
  refine AWp.tree (t := OT.seq [(0, .R), (1, .R), (2, .R), (3, .R), (6, .R), (7, .R)] (.alt (OT.seq [(4, .X), (5, .R), (8, .X), (9, .R), (10, .R)] .nil) (OT.seq [(8, .X), (4, .X), (5, .R), (9, .R), (10, .R)] .nil))) mixed (by kernel_rfl) ?_
  repeat (first | refine TAL.r rfl rfl rfl (fun h' hx hn => qao rfl ⟨rfl, rfl⟩) ?_ | refine TAL.r rfl rfl rfl (fun h' hx hn => qad rfl rfl (hx.c _ _ hg) rfl ⟨rfl, rfl⟩) ?_)
  refine TAL.two ?_ ?_
  ·
   refine TAL.x rfl rfl rfl (qaI [p.k, p.t] rfl rfl rfl rfl q.ones ⟨wfH.ext _, ?_⟩)
   have g1 := Heap.alloc_new H ⟨[p.k, p.t], 27, true⟩
   have x1 := wfH.ext ⟨[p.k, p.t], 27, true⟩
   have w1 := wfH.alloc ⟨[p.k, p.t], 27, true⟩
   generalize H.alloc ⟨[p.k, p.t], 27, true⟩ = H1 at g1 x1 w1 ⊢
   have cB := rBx_c wScan (.slice (some ⟨H.next, 0, some 1⟩) 2 2) [a.key, a.to] ((q.ext x1).rbb (RS.own g1 rfl)) (by decide) hb (by simp)
   repeat (first | refine TAL.r rfl rfl rfl (fun h' hx hn => qab rfl rfl (cB h' hx) ⟨rfl, rfl⟩) ?_)
   refine TAL.x rfl rfl rfl (qaI (iv64 [a.most]) rfl rfl rfl rfl (qbP _) ⟨w1.ext _, ?_⟩)
   have g2 := Heap.alloc_new H1 ⟨iv64 [a.most], 3, true⟩
   have x2 := w1.ext ⟨iv64 [a.most], 3, true⟩
   generalize H1.alloc ⟨iv64 [a.most], 3, true⟩ = H2 at g2 x2 ⊢
   have cN := rNx_c (wScan ++ tailW ([a.key, a.to].map wordM)) (.slice (some ⟨H1.next, 0, some 1⟩) 1 1) [a.most] (H := H2) (RS.own g2 rfl) hi hsl (t.ext (xh.trans (x1.trans x2)))
   repeat (first | refine TAL.r rfl rfl rfl (fun h' hx hn => qaf rfl ⟨rfl, rfl⟩) ?_ | refine TAL.r rfl rfl rfl (fun h' hx hn => qab rfl rfl (cN h' hx) ⟨rfl, rfl⟩) ?_)
   refine TAL.nil ?_
   repeat (first | refine AWp.ret ?_)
   exact ⟨_, ResV.tmp rfl, rfl, xh.trans (x1.trans x2), fin, rfl⟩
  ·
   refine TAL.x rfl rfl rfl (qaI (iv64 [a.most]) rfl rfl rfl rfl (qbP _) ⟨wfH.ext _, ?_⟩)
   have g1 := Heap.alloc_new H ⟨iv64 [a.most], 3, true⟩
   have x1 := wfH.ext ⟨iv64 [a.most], 3, true⟩
   have w1 := wfH.alloc ⟨iv64 [a.most], 3, true⟩
   generalize H.alloc ⟨iv64 [a.most], 3, true⟩ = H1 at g1 x1 w1 ⊢
   refine TAL.x rfl rfl rfl (qaI [p.k, p.t] rfl rfl rfl rfl q.ones ⟨w1.ext _, ?_⟩)
   have g2 := Heap.alloc_new H1 ⟨[p.k, p.t], 27, true⟩
   have x2 := w1.ext ⟨[p.k, p.t], 27, true⟩
   generalize H1.alloc ⟨[p.k, p.t], 27, true⟩ = H2 at g2 x2 ⊢
   have cB := rBx_c wScan (.slice (some ⟨H1.next, 0, some 1⟩) 2 2) [a.key, a.to] ((q.ext (x1.trans x2)).rbb (RS.own g2 rfl)) (by decide) hb (by simp)
   have cN := rNx_c (wScan ++ tailW ([a.key, a.to].map wordM)) (.slice (some ⟨H.next, 0, some 1⟩) 1 1) [a.most] (H := H2) ((RS.own g1 rfl : RS H1 _ (iv64 [a.most])).ext x2) hi hsl (t.ext (xh.trans (x1.trans x2)))
   repeat (first | refine TAL.r rfl rfl rfl (fun h' hx hn => qaf rfl ⟨rfl, rfl⟩) ?_ | refine TAL.r rfl rfl rfl (fun h' hx hn => qab rfl rfl (cB h' hx) ⟨rfl, rfl⟩) ?_ | refine TAL.r rfl rfl rfl (fun h' hx hn => qab rfl rfl (cN h' hx) ⟨rfl, rfl⟩) ?_)
   refine TAL.nil ?_
   repeat (first | refine AWp.ret ?_)
   exact ⟨_, ResV.tmp rfl, rfl, xh.trans (x1.trans x2), fin, rfl⟩
 cases hn : a.none with
 | true =>
  have he : askW a = [wFresh, wordM a.key, wordM a.value] := by unfold askW; rw [if_neg k1, if_neg k3, if_neg k2, if_neg k5, if_pos hn]
  have hnc : .bool a.none = Value.bool true := by rw [hn]
  have q : RBs H [p.k, p.v] [a.key, a.value] := ⟨q1, q3, trivial⟩
  have hg' : H.get h.next = some ⟨[.int .i64 a.kind, p.k, p.t, p.v, p.w, .bool true, .int .i64 a.most], 29, true⟩ := by rw [hg, askC, hn]
  replace hg := hg'
  have q : RBs H [p.k, p.v] [a.key, a.value] := ⟨q1, q3, trivial⟩
  repeat (first | refine AL.nil ?_ | refine AWp.seq ?_ | refine AWp.r9 ?_ | refine AWp.c8 rfl ?_ | refine AWp.c9 rfl ?_ | refine AWp.b9 ?_ | refine AWp.k9 ?_ | refine AL.set rfl rfl (qaa rfl ?_) | refine AL.set rfl rfl (qao rfl ?_) | refine AL.set rfl rfl (qad rfl rfl hg rfl ?_) | refine AL.set rfl rfl (qak rfl rfl rfl (by omega) ?_) | refine AL.set rfl rfl (qaI [p.k, p.v] rfl rfl rfl rfl q.ones ?_))
  have gr := Heap.alloc_new H ⟨[p.k, p.v], 27, true⟩
  have xr := wfH.ext ⟨[p.k, p.v], 27, true⟩
  generalize H.alloc ⟨[p.k, p.v], 27, true⟩ = H1 at gr xr ⊢
  have rr : RBB H1 (.slice (some ⟨H.next, 0, some 1⟩) 2 2) [a.key, a.value] := (q.ext xr).rbb (RS.own gr rfl)
  have cb := rB_c wFresh _ [a.key, a.value] H1 rr (by decide) (by intro b hb; simp only [List.mem_cons, List.not_mem_nil, or_false] at hb; rcases hb with rfl | rfl <;> omega) (by simp)
  repeat (first | refine AL.nil ?_ | refine AWp.ret ?_ | refine AL.set rfl rfl (qaf rfl ?_) | refine AL.set rfl rfl (qab rfl rfl cb ?_))
  refine ⟨_, ResV.tmp rfl, rfl, xh.trans xr, ?_, rfl⟩
  rw [he, qaK]
  rfl
 | false =>
  have he : askW a = [wSwap, wordM a.key, wordM a.value, wordM a.was] := by unfold askW; rw [if_neg k1, if_neg k3, if_neg k2, if_neg k5, if_neg (by rw [hn]; exact Bool.false_ne_true)]
  have hg' : H.get h.next = some ⟨[.int .i64 a.kind, p.k, p.t, p.v, p.w, .bool false, .int .i64 a.most], 29, true⟩ := by rw [hg, askC, hn]
  replace hg := hg'
  have q : RBs H [p.k, p.v, p.w] [a.key, a.value, a.was] := ⟨q1, q3, q4, trivial⟩
  repeat (first | refine AL.nil ?_ | refine AWp.seq ?_ | refine AWp.r9 ?_ | refine AWp.c9 rfl ?_ | refine AWp.b9 ?_ | refine AWp.k9 ?_ | refine AL.set rfl rfl (qaa rfl ?_) | refine AL.set rfl rfl (qao rfl ?_) | refine AL.set rfl rfl (qad rfl rfl hg rfl ?_) | refine AL.set rfl rfl (qak rfl rfl rfl (by omega) ?_) | refine AL.set rfl rfl (qaI [p.k, p.v, p.w] rfl rfl rfl rfl q.ones ?_))
  have gr := Heap.alloc_new H ⟨[p.k, p.v, p.w], 27, true⟩
  have xr := wfH.ext ⟨[p.k, p.v, p.w], 27, true⟩
  generalize H.alloc ⟨[p.k, p.v, p.w], 27, true⟩ = H1 at gr xr ⊢
  have rr : RBB H1 (.slice (some ⟨H.next, 0, some 1⟩) 3 3) [a.key, a.value, a.was] := (q.ext xr).rbb (RS.own gr rfl)
  have cb := rB_c wSwap _ [a.key, a.value, a.was] H1 rr (by decide) (by intro b hb; simp only [List.mem_cons, List.not_mem_nil, or_false] at hb; rcases hb with rfl | rfl | rfl <;> omega) (by simp)
  repeat (first | refine AL.nil ?_ | refine AWp.ret ?_ | refine AL.set rfl rfl (qaf rfl ?_) | refine AL.set rfl rfl (qab rfl rfl cb ?_))
  refine ⟨_, ResV.tmp rfl, rfl, xh.trans xr, ?_, rfl⟩
  rw [he, qaK]
  rfl
end Go.Proofs.YtigmojilaadbhaaGreatDoor

/-
 Scripts: the document's own: lines.
-/
namespace Go.Proofs.YtigmojilaadbhaaGreatDoor
open Go Go.Eng Go.Pln Go.Lib
attribute [local irreducible] AWp AL DAL AOp TAL

instance i_rLine : FnC Tryz.prog 22 := ⟨Tryz.f22, Tryz.func22, by kernel_rfl, by kernel_rfl⟩
theorem tailW_cons (w : Bytes) (l : List Bytes) : tailW (w :: l) = 32 :: w ++ tailW l := by simp [tailW]
set_option maxHeartbeats 8000000 in
theorem rLine_c (p : ActV) (a : ActM) (h : Heap) (t : Tabs h) (r : ActR h p a) (hm : mayAct 5 5 a = true) : ACalls Tryz.prog 22 [.agg (actC p a).toArray] h fun u h' => u = str (lineM a) ∧ h' = h := by
 obtain ⟨hk, hna, hp9, hp10, hp11, hnode, hgroup, hnn, hkp⟩ := (qfe (by omega) (by omega) a).1 hm
 refine ACalls.wf fun wf => ACalls.reset ?_
 refine ACalls.body Tryz.func22 rfl rfl ?_
 repeat (first | refine AL.nil ?_ | refine AWp.seq ?_ | refine AWp.r9 ?_ | refine AL.set rfl rfl (qaf rfl ?_) | refine AL.set rfl rfl (qaL rfl (by intro e; cases e) ?_))
 generalize hH : h.alloc _ = H
 have hg : H.get h.next = some ⟨actC p a, 40, true⟩ := hH ▸ Heap.alloc_new _ _
 have xh : Ext h H := hH ▸ wf.ext _
 have wfH : WF H := hH ▸ wf.alloc _
 clear hH
 have cn := rName_c a.kind hk H
 have hkl : (kword a.kind).length ≤ 10 := by
  have := qd6 ⟨(a.kind - 1).toNat, by omega⟩
  rw [show ((a.kind - 1).toNat : Int) + 1 = a.kind by omega] at this
  exact this
 obtain ⟨ra, rc, rk⟩ := r.ext xh
 by_cases k1 : a.kind = 3 ∨ a.kind = 4 ∨ a.kind = 5
 ·
  have he : restW a = [itoa a.n] := by unfold restW; rw [if_pos k1]
  rcases k1 with k | k | k <;>
  ·
   repeat (first | refine AL.nil ?_ | refine AWp.seq ?_ | refine AWp.r9 ?_ | refine AWp.c8 rfl ?_ | refine AWp.c9 rfl ?_ | refine AWp.b9 ?_ | refine AWp.k9 ?_ | refine AL.set rfl rfl (qal rfl ?_) | refine AL.set rfl rfl (qaa rfl ?_) | refine AL.set rfl rfl (qaf rfl ?_) | refine AL.set rfl rfl (qao rfl ?_) | refine AL.set rfl rfl (qad rfl rfl hg rfl ?_) | refine AL.set rfl rfl (qab rfl rfl cn ?_) | refine AL.set rfl rfl (qaj rfl rfl rfl (by omega) ?_) | refine AL.set rfl rfl (qak rfl rfl rfl (by omega) ?_) | refine AL.set rfl rfl (qaI (iv64 [a.n]) rfl rfl rfl rfl (qbP _) ?_))
   have gr := Heap.alloc_new H ⟨iv64 [a.n], 3, true⟩
   have xr := wfH.ext ⟨iv64 [a.n], 3, true⟩
   have wr := wfH.alloc ⟨iv64 [a.n], 3, true⟩
   refine AL.heap (h := H.alloc ⟨iv64 [a.n], 3, true⟩) rfl ?_
   generalize H.alloc ⟨iv64 [a.n], 3, true⟩ = H1 at gr xr wr ⊢
   have cN := N_c (kword a.kind) (.slice (some ⟨H.next, 0, some 1⟩) 1 1) [a.n] H1 (RS.own gr rfl) (by intro n hn; simp only [List.mem_cons, List.not_mem_nil, or_false] at hn; rcases hn with rfl <;> exact ⟨by omega, by omega⟩) (by simp only [List.length_cons, List.length_nil]; omega) (t.ext (xh.trans xr))
   repeat (first | refine AL.nil ?_ | refine AWp.ret ?_ | refine AL.set rfl rfl (qaf rfl ?_) | refine AL.set rfl rfl (qab rfl rfl cN ?_))
   refine ⟨_, ResV.tmp rfl, rfl, xh.trans xr, ?_, rfl⟩
   unfold lineM
   rw [he, qaK]
   rfl
 by_cases k2 : a.kind = 8 ∨ a.kind = 13
 ·
  have he : restW a = [itoa a.node] := by unfold restW; rw [if_neg k1, if_pos k2]
  rcases k2 with k | k <;>
  ·
   repeat (first | refine AL.nil ?_ | refine AWp.seq ?_ | refine AWp.r9 ?_ | refine AWp.c8 rfl ?_ | refine AWp.c9 rfl ?_ | refine AWp.b9 ?_ | refine AWp.k9 ?_ | refine AL.set rfl rfl (qal rfl ?_) | refine AL.set rfl rfl (qaa rfl ?_) | refine AL.set rfl rfl (qaf rfl ?_) | refine AL.set rfl rfl (qao rfl ?_) | refine AL.set rfl rfl (qad rfl rfl hg rfl ?_) | refine AL.set rfl rfl (qab rfl rfl cn ?_) | refine AL.set rfl rfl (qaj rfl rfl rfl (by omega) ?_) | refine AL.set rfl rfl (qak rfl rfl rfl (by omega) ?_) | refine AL.set rfl rfl (qaI (iv64 [a.node]) rfl rfl rfl rfl (qbP _) ?_))
   have gr := Heap.alloc_new H ⟨iv64 [a.node], 3, true⟩
   have xr := wfH.ext ⟨iv64 [a.node], 3, true⟩
   have wr := wfH.alloc ⟨iv64 [a.node], 3, true⟩
   refine AL.heap (h := H.alloc ⟨iv64 [a.node], 3, true⟩) rfl ?_
   generalize H.alloc ⟨iv64 [a.node], 3, true⟩ = H1 at gr xr wr ⊢
   have cN := N_c (kword a.kind) (.slice (some ⟨H.next, 0, some 1⟩) 1 1) [a.node] H1 (RS.own gr rfl) (by intro n hn; simp only [List.mem_cons, List.not_mem_nil, or_false] at hn; rcases hn with rfl <;> exact ⟨by omega, by omega⟩) (by simp only [List.length_cons, List.length_nil]; omega) (t.ext (xh.trans xr))
   repeat (first | refine AL.nil ?_ | refine AWp.ret ?_ | refine AL.set rfl rfl (qaf rfl ?_) | refine AL.set rfl rfl (qab rfl rfl cN ?_))
   refine ⟨_, ResV.tmp rfl, rfl, xh.trans xr, ?_, rfl⟩
   unfold lineM
   rw [he, qaK]
   rfl
 by_cases k3 : a.kind = 9
 ·
  have he : restW a = itoa a.node :: planW a.cmd := by unfold restW; rw [if_neg k1, if_neg k2, if_pos k3]
  have hmp : mayPlan a.cmd = true := by rw [qd8]; exact hp9 k3
  obtain ⟨l1, l2, l3, l4, l5⟩ := qci hmp
  repeat (first | refine AL.nil ?_ | refine AWp.seq ?_ | refine AWp.r9 ?_ | refine AWp.c8 rfl ?_ | refine AWp.c9 rfl ?_ | refine AWp.b9 ?_ | refine AL.set rfl rfl (qal rfl ?_) | refine AL.set rfl rfl (qaa rfl ?_) | refine AL.set rfl rfl (qaf rfl ?_) | refine AL.set rfl rfl (qao rfl ?_) | refine AL.set rfl rfl (qad rfl rfl hg rfl ?_) | refine AL.set rfl rfl (qab rfl rfl cn ?_) | refine AL.set rfl rfl (qaj rfl rfl rfl (by omega) ?_) | refine AL.set rfl rfl (qak rfl rfl rfl (by omega) ?_) | refine AL.set rfl rfl (qaI (iv64 [a.node]) rfl rfl rfl rfl (qbP _) ?_))
  have gr := Heap.alloc_new H ⟨iv64 [a.node], 3, true⟩
  have xr := wfH.ext ⟨iv64 [a.node], 3, true⟩
  have wr := wfH.alloc ⟨iv64 [a.node], 3, true⟩
  refine AL.heap (h := H.alloc ⟨iv64 [a.node], 3, true⟩) rfl ?_
  generalize H.alloc ⟨iv64 [a.node], 3, true⟩ = H1 at gr xr wr ⊢
  have cN := N_c (kword a.kind) (.slice (some ⟨H.next, 0, some 1⟩) 1 1) [a.node] H1 (RS.own gr rfl) (by intro n hn; simp only [List.mem_cons, List.not_mem_nil, or_false] at hn; rcases hn with rfl <;> exact ⟨by omega, by omega⟩) (by simp only [List.length_cons, List.length_nil]; omega) (t.ext (xh.trans xr))
  repeat (first | refine AL.nil ?_ | refine AWp.seq ?_ | refine AWp.r9 ?_ | refine AL.set rfl rfl (qaf rfl ?_) | refine AL.set rfl rfl (qab rfl rfl cN ?_))
  have hg1 := xr.c _ _ hg
  have q : RBs H1 [p.c.k] [a.cmd.key] := ⟨rc.k.ext xr, trivial⟩
  have hb : ∀ b ∈ [a.cmd.key], b.length ≤ 1000 := by intro b hb; rw [List.mem_singleton.1 hb]; omega
  have hnl := qbc (n := a.node) (by omega) (by omega)
  have htl : (tailW ([a.node].map itoa)).length ≤ 22 := by
   simp only [tailW, List.map_cons, List.map_nil, List.flatMap_cons, List.flatMap_nil, List.length_append, List.length_cons, List.length_nil]
   omega
  have hml : lineM a = kword a.kind ++ tailW ([a.node].map itoa) ++ tailW (planW a.cmd) := by
   unfold lineM
   rw [he, qaK, tailW_cons]
   simp [tailW]
  have hwk := qbn a.cmd.key
  rw [hml]
  generalize tailW ([a.node].map itoa) = T1 at htl ⊢
  by_cases k6 : a.cmd.kind = 6
  ·
   have hpw : planW a.cmd = [wSplit, wordM a.cmd.key] := by unfold planW; rw [if_pos k6]
   repeat (first | refine AL.nil ?_ | refine AWp.seq ?_ | refine AWp.r9 ?_ | refine AWp.c8 rfl ?_ | refine AL.set rfl rfl (qal rfl ?_) | refine AL.set rfl rfl (qao rfl ?_) | refine AL.set rfl rfl (qad rfl rfl hg1 rfl ?_) | refine AL.set rfl rfl (qaj rfl rfl rfl (by omega) ?_) | refine AL.set rfl rfl (qbY (b := 32 :: wSplit) rfl rfl (by simp only [maxLen, wSplit, List.length_append, List.length_cons, List.length_nil]; omega) ?_) | refine AL.set rfl rfl (qaI [p.c.k] rfl rfl rfl rfl q.ones ?_))
   have g2 := Heap.alloc_new H1 ⟨[p.c.k], 27, true⟩
   have x2 := wr.ext ⟨[p.c.k], 27, true⟩
   generalize H1.alloc ⟨[p.c.k], 27, true⟩ = H2 at g2 x2 ⊢
   have cb := rB_c (kword a.kind ++ T1 ++ 32 :: wSplit) (.slice (some ⟨H1.next, 0, some 1⟩) 1 1) [a.cmd.key] H2 ((q.ext x2).rbb (RS.own g2 rfl)) (by simp only [wSplit, List.length_append, List.length_cons, List.length_nil]; omega) hb (by simp)
   repeat (first | refine AL.nil ?_ | refine AWp.ret ?_ | refine AL.set rfl rfl (qaf rfl ?_) | refine AL.set rfl rfl (qab rfl rfl cb ?_))
   refine ⟨_, ResV.tmp rfl, rfl, xh.trans (xr.trans x2), ?_, rfl⟩
   rw [hpw]
   exact congrArg str (by simp [tailW])
  by_cases k7 : a.cmd.kind = 7
  ·
   have hpw : planW a.cmd = [wUnion, wordM a.cmd.key] := by unfold planW; rw [if_neg k6, if_pos k7]
   repeat (first | refine AL.nil ?_ | refine AWp.seq ?_ | refine AWp.r9 ?_ | refine AWp.c8 rfl ?_ | refine AWp.c9 rfl ?_ | refine AWp.k9 ?_ | refine AL.set rfl rfl (qal rfl ?_) | refine AL.set rfl rfl (qao rfl ?_) | refine AL.set rfl rfl (qad rfl rfl hg1 rfl ?_) | refine AL.set rfl rfl (qaj rfl rfl rfl (by omega) ?_) | refine AL.set rfl rfl (qak rfl rfl rfl (by omega) ?_) | refine AL.set rfl rfl (qbY (b := 32 :: wUnion) rfl rfl (by simp only [maxLen, wUnion, List.length_append, List.length_cons, List.length_nil]; omega) ?_) | refine AL.set rfl rfl (qaI [p.c.k] rfl rfl rfl rfl q.ones ?_))
   have g2 := Heap.alloc_new H1 ⟨[p.c.k], 27, true⟩
   have x2 := wr.ext ⟨[p.c.k], 27, true⟩
   generalize H1.alloc ⟨[p.c.k], 27, true⟩ = H2 at g2 x2 ⊢
   have cb := rB_c (kword a.kind ++ T1 ++ 32 :: wUnion) (.slice (some ⟨H1.next, 0, some 1⟩) 1 1) [a.cmd.key] H2 ((q.ext x2).rbb (RS.own g2 rfl)) (by simp only [wUnion, List.length_append, List.length_cons, List.length_nil]; omega) hb (by simp)
   repeat (first | refine AL.nil ?_ | refine AWp.ret ?_ | refine AL.set rfl rfl (qaf rfl ?_) | refine AL.set rfl rfl (qab rfl rfl cb ?_))
   refine ⟨_, ResV.tmp rfl, rfl, xh.trans (xr.trans x2), ?_, rfl⟩
   rw [hpw]
   exact congrArg str (by simp [tailW])
  ·
   have hpw : planW a.cmd = [wMove, wordM a.cmd.key, itoa a.cmd.group] := by unfold planW; rw [if_neg k6, if_neg k7]
   have hi : ∀ n ∈ [a.cmd.group], I64 n := by intro n hn; rw [List.mem_singleton.1 hn]; exact ⟨by omega, by omega⟩
   have hs0 : (kword a.kind ++ T1 ++ 32 :: wMove).length ≤ 100000 := by simp only [wMove, List.length_append, List.length_cons, List.length_nil]; omega
   have hsl : (kword a.kind ++ T1 ++ 32 :: wMove ++ tailW ([a.cmd.key].map wordM)).length + 22 * [a.cmd.group].length ≤ 140737488351232 := by
    rw [List.length_append]
    simp only [tailW, List.map_cons, List.map_nil, List.flatMap_cons, List.flatMap_nil, List.length_append, List.length_cons, List.length_nil] at hs0 ⊢
    omega
   have fin : str (kword a.kind ++ T1 ++ 32 :: wMove ++ tailW ([a.cmd.key].map wordM) ++ tailW ([a.cmd.group].map itoa)) = str (kword a.kind ++ T1 ++ tailW (planW a.cmd)) := by
    rw [hpw]
    exact congrArg str (by simp [tailW])
   repeat (first | refine AL.nil ?_ | refine AWp.seq ?_ | refine AWp.r9 ?_ | refine AWp.c9 rfl ?_ | refine AWp.k9 ?_ | refine AL.set rfl rfl (qao rfl ?_) | refine AL.set rfl rfl (qad rfl rfl hg1 rfl ?_) | refine AL.set rfl rfl (qak rfl rfl rfl (by omega) ?_))
   refine AWp.tree (t := OT.seq [(0, .R), (1, .R), (2, .R), (3, .R), (4, .R), (7, .R), (8, .R), (9, .R)] (.alt (OT.seq [(5, .X), (6, .R), (10, .X), (11, .R), (12, .R)] .nil) (OT.seq [(10, .X), (5, .X), (6, .R), (11, .R), (12, .R)] .nil))) mixed (by kernel_rfl) ?_
   repeat (first | refine TAL.r rfl rfl rfl (fun h' hx hn => qal rfl ⟨rfl, rfl⟩) ?_ | refine TAL.r rfl rfl rfl (fun h' hx hn => qao rfl ⟨rfl, rfl⟩) ?_ | refine TAL.r rfl rfl rfl (fun h' hx hn => qad rfl rfl (hx.c _ _ hg1) rfl ⟨rfl, rfl⟩) ?_ | refine TAL.r rfl rfl rfl (fun h' hx hn => qbY (b := 32 :: wMove) rfl rfl (by simp only [maxLen, wMove, List.length_append, List.length_cons, List.length_nil]; omega) ⟨rfl, rfl⟩) ?_)
   refine TAL.two ?_ ?_
   ·
    refine TAL.x rfl rfl rfl (qaI [p.c.k] rfl rfl rfl rfl q.ones ⟨wr.ext _, ?_⟩)
    have g2 := Heap.alloc_new H1 ⟨[p.c.k], 27, true⟩
    have x2 := wr.ext ⟨[p.c.k], 27, true⟩
    have w2 := wr.alloc ⟨[p.c.k], 27, true⟩
    generalize H1.alloc ⟨[p.c.k], 27, true⟩ = H2 at g2 x2 w2 ⊢
    have cB := rBx_c (kword a.kind ++ T1 ++ 32 :: wMove) (.slice (some ⟨H1.next, 0, some 1⟩) 1 1) [a.cmd.key] ((q.ext x2).rbb (RS.own g2 rfl)) hs0 hb (by simp)
    repeat (first | refine TAL.r rfl rfl rfl (fun h' hx hn => qab rfl rfl (cB h' hx) ⟨rfl, rfl⟩) ?_)
    refine TAL.x rfl rfl rfl (qaI (iv64 [a.cmd.group]) rfl rfl rfl rfl (qbP _) ⟨w2.ext _, ?_⟩)
    have g3 := Heap.alloc_new H2 ⟨iv64 [a.cmd.group], 3, true⟩
    have x3 := w2.ext ⟨iv64 [a.cmd.group], 3, true⟩
    generalize H2.alloc ⟨iv64 [a.cmd.group], 3, true⟩ = H3 at g3 x3 ⊢
    have cN2 := rNx_c (kword a.kind ++ T1 ++ 32 :: wMove ++ tailW ([a.cmd.key].map wordM)) (.slice (some ⟨H2.next, 0, some 1⟩) 1 1) [a.cmd.group] (H := H3) (RS.own g3 rfl) hi hsl (t.ext (xh.trans (xr.trans (x2.trans x3))))
    repeat (first | refine TAL.r rfl rfl rfl (fun h' hx hn => qaf rfl ⟨rfl, rfl⟩) ?_ | refine TAL.r rfl rfl rfl (fun h' hx hn => qab rfl rfl (cN2 h' hx) ⟨rfl, rfl⟩) ?_)
    refine TAL.nil ?_
    repeat (first | refine AWp.ret ?_)
    exact ⟨_, ResV.tmp rfl, rfl, xh.trans (xr.trans (x2.trans x3)), fin, rfl⟩
   ·
    refine TAL.x rfl rfl rfl (qaI (iv64 [a.cmd.group]) rfl rfl rfl rfl (qbP _) ⟨wr.ext _, ?_⟩)
    have g2 := Heap.alloc_new H1 ⟨iv64 [a.cmd.group], 3, true⟩
    have x2 := wr.ext ⟨iv64 [a.cmd.group], 3, true⟩
    have w2 := wr.alloc ⟨iv64 [a.cmd.group], 3, true⟩
    generalize H1.alloc ⟨iv64 [a.cmd.group], 3, true⟩ = H2 at g2 x2 w2 ⊢
    refine TAL.x rfl rfl rfl (qaI [p.c.k] rfl rfl rfl rfl q.ones ⟨w2.ext _, ?_⟩)
    have g3 := Heap.alloc_new H2 ⟨[p.c.k], 27, true⟩
    have x3 := w2.ext ⟨[p.c.k], 27, true⟩
    generalize H2.alloc ⟨[p.c.k], 27, true⟩ = H3 at g3 x3 ⊢
    have cB := rBx_c (kword a.kind ++ T1 ++ 32 :: wMove) (.slice (some ⟨H2.next, 0, some 1⟩) 1 1) [a.cmd.key] ((q.ext (x2.trans x3)).rbb (RS.own g3 rfl)) hs0 hb (by simp)
    have cN2 := rNx_c (kword a.kind ++ T1 ++ 32 :: wMove ++ tailW ([a.cmd.key].map wordM)) (.slice (some ⟨H1.next, 0, some 1⟩) 1 1) [a.cmd.group] (H := H3) ((RS.own g2 rfl : RS H2 _ (iv64 [a.cmd.group])).ext x3) hi hsl (t.ext (xh.trans (xr.trans (x2.trans x3))))
    repeat (first | refine TAL.r rfl rfl rfl (fun h' hx hn => qaf rfl ⟨rfl, rfl⟩) ?_ | refine TAL.r rfl rfl rfl (fun h' hx hn => qab rfl rfl (cB h' hx) ⟨rfl, rfl⟩) ?_ | refine TAL.r rfl rfl rfl (fun h' hx hn => qab rfl rfl (cN2 h' hx) ⟨rfl, rfl⟩) ?_)
    refine TAL.nil ?_
    repeat (first | refine AWp.ret ?_)
    exact ⟨_, ResV.tmp rfl, rfl, xh.trans (xr.trans (x2.trans x3)), fin, rfl⟩
 by_cases k4 : a.kind = 10
 ·
  have he : restW a = itoa a.client :: itoa a.node :: itoa a.group :: askW a.ask := by unfold restW; rw [if_neg k1, if_neg k2, if_neg k3, if_pos k4]
  have hma := hp10 k4
  have hc := hp11 (.inl k4)
  have hal := qg8 hma
  have e1 := qbc (n := a.client) (by omega) (by omega)
  have e2 := qbc (n := a.node) (by omega) (by omega)
  have e3 := qbc (n := a.group) (by omega) (by omega)
  have htl : (tailW ([a.client, a.node, a.group].map itoa)).length ≤ 66 := by
   simp only [tailW, List.map_cons, List.map_nil, List.flatMap_cons, List.flatMap_nil, List.length_append, List.length_cons, List.length_nil]
   omega
  have hml : lineM a = kword a.kind ++ tailW ([a.client, a.node, a.group].map itoa) ++ [32] ++ joinW (askW a.ask) := by
   unfold lineM
   rw [he, qaK]
   cases hq : askW a.ask with
   | nil => exact absurd hq (askW_ne _)
   | cons w l => rw [qaK]; simp [tailW]
  repeat (first | refine AL.nil ?_ | refine AWp.seq ?_ | refine AWp.r9 ?_ | refine AWp.c8 rfl ?_ | refine AWp.c9 rfl ?_ | refine AWp.b9 ?_ | refine AL.set rfl rfl (qaa rfl ?_) | refine AL.set rfl rfl (qaf rfl ?_) | refine AL.set rfl rfl (qao rfl ?_) | refine AL.set rfl rfl (qad rfl rfl hg rfl ?_) | refine AL.set rfl rfl (qab rfl rfl cn ?_) | refine AL.set rfl rfl (qaj rfl rfl rfl (by omega) ?_) | refine AL.set rfl rfl (qak rfl rfl rfl (by omega) ?_))
  refine AWp.tree (t := OT.seq [(0, .R), (1, .R), (2, .R), (3, .R), (4, .R), (5, .R), (6, .R), (10, .R), (11, .R), (7, .X), (8, .R), (9, .R), (12, .R), (13, .R), (14, .R)] .nil) mixed (by kernel_rfl) ?_
  repeat (first | refine TAL.r rfl rfl rfl (fun h' hx hn => qal rfl ⟨rfl, rfl⟩) ?_ | refine TAL.r rfl rfl rfl (fun h' hx hn => qao rfl ⟨rfl, rfl⟩) ?_ | refine TAL.r rfl rfl rfl (fun h' hx hn => qad rfl rfl (hx.c _ _ hg) rfl ⟨rfl, rfl⟩) ?_ | refine TAL.r rfl rfl rfl (fun h' hx hn => qah (sz := 7) rfl rfl (hx.c _ _ hg) (Nat.le_of_ble_eq_true rfl) ⟨rfl, rfl⟩) ?_)
  refine TAL.x rfl rfl rfl (qaI (iv64 [a.client, a.node, a.group]) rfl rfl rfl rfl (qbP _) ⟨wfH.ext _, ?_⟩)
  have g2 := Heap.alloc_new H ⟨iv64 [a.client, a.node, a.group], 3, true⟩
  have x2 := wfH.ext ⟨iv64 [a.client, a.node, a.group], 3, true⟩
  generalize H.alloc ⟨iv64 [a.client, a.node, a.group], 3, true⟩ = H2 at g2 x2 ⊢
  have t2 := t.ext (xh.trans x2)
  have cN2 := rNx_c (kword a.kind) (.slice (some ⟨H.next, 0, some 1⟩) 3 3) [a.client, a.node, a.group] (H := H2) (RS.own g2 rfl) (by intro n hn; simp only [List.mem_cons, List.not_mem_nil, or_false] at hn; rcases hn with rfl | rfl | rfl <;> exact ⟨by omega, by omega⟩) (by simp only [List.length_cons, List.length_nil]; omega) t2
  have cA := fun (h' : Heap) (hx : Ext H2 h') => rAsk_c p.q a.ask h' (ra.ext (x2.trans hx)) hma (t2.ext hx)
  generalize tailW ([a.client, a.node, a.group].map itoa) = T1 at htl hml cN2 ⊢
  repeat (first | refine TAL.r rfl rfl rfl (fun h' hx hn => qaf rfl ⟨rfl, rfl⟩) ?_ | refine TAL.r rfl rfl rfl (fun h' hx hn => qab rfl rfl (cN2 h' hx) ⟨rfl, rfl⟩) ?_ | refine TAL.r rfl rfl rfl (fun h' hx hn => qab rfl rfl (cA h' hx) ⟨rfl, rfl⟩) ?_ | refine TAL.r rfl rfl rfl (fun h' hx hn => qbY (b := [32]) rfl rfl (by simp only [maxLen, List.length_append, List.length_cons, List.length_nil]; omega) ⟨rfl, rfl⟩) ?_ | refine TAL.r rfl rfl rfl (fun h' hx hn => qbY rfl rfl (by simp only [maxLen, List.length_append, List.length_cons, List.length_nil]; omega) ⟨rfl, rfl⟩) ?_)
  refine TAL.nil ?_
  repeat (first | refine AWp.ret ?_)
  exact ⟨_, ResV.tmp rfl, rfl, xh.trans x2, congrArg str hml.symm, rfl⟩
 by_cases k5 : a.kind = 11
 ·
  have he : restW a = [itoa a.client, itoa a.node, itoa a.group] := by unfold restW; rw [if_neg k1, if_neg k2, if_neg k3, if_neg k4, if_pos k5]
  have hc := hp11 (.inr k5)
  repeat (first | refine AL.nil ?_ | refine AWp.seq ?_ | refine AWp.r9 ?_ | refine AWp.c8 rfl ?_ | refine AWp.c9 rfl ?_ | refine AWp.b9 ?_ | refine AL.set rfl rfl (qal rfl ?_) | refine AL.set rfl rfl (qaa rfl ?_) | refine AL.set rfl rfl (qaf rfl ?_) | refine AL.set rfl rfl (qao rfl ?_) | refine AL.set rfl rfl (qad rfl rfl hg rfl ?_) | refine AL.set rfl rfl (qab rfl rfl cn ?_) | refine AL.set rfl rfl (qaj rfl rfl rfl (by omega) ?_) | refine AL.set rfl rfl (qak rfl rfl rfl (by omega) ?_) | refine AL.set rfl rfl (qaI (iv64 [a.client, a.node, a.group]) rfl rfl rfl rfl (qbP _) ?_))
  have gr := Heap.alloc_new H ⟨iv64 [a.client, a.node, a.group], 3, true⟩
  have xr := wfH.ext ⟨iv64 [a.client, a.node, a.group], 3, true⟩
  have wr := wfH.alloc ⟨iv64 [a.client, a.node, a.group], 3, true⟩
  refine AL.heap (h := H.alloc ⟨iv64 [a.client, a.node, a.group], 3, true⟩) rfl ?_
  generalize H.alloc ⟨iv64 [a.client, a.node, a.group], 3, true⟩ = H1 at gr xr wr ⊢
  have cN := N_c (kword a.kind) (.slice (some ⟨H.next, 0, some 1⟩) 3 3) [a.client, a.node, a.group] H1 (RS.own gr rfl) (by intro n hn; simp only [List.mem_cons, List.not_mem_nil, or_false] at hn; rcases hn with rfl | rfl | rfl <;> exact ⟨by omega, by omega⟩) (by simp only [List.length_cons, List.length_nil]; omega) (t.ext (xh.trans xr))
  repeat (first | refine AL.nil ?_ | refine AWp.ret ?_ | refine AL.set rfl rfl (qaf rfl ?_) | refine AL.set rfl rfl (qab rfl rfl cN ?_))
  refine ⟨_, ResV.tmp rfl, rfl, xh.trans xr, ?_, rfl⟩
  unfold lineM
  rw [he, qaK]
  rfl
 by_cases k6 : a.kind = 12
 ·
  have he : restW a = itoa a.node :: keepW a.keep := by unfold restW; rw [if_neg k1, if_neg k2, if_neg k3, if_neg k4, if_neg k5, if_pos k6]
  have hko : keepOk a.keep = true ∧ a.keep.length ≤ 128 := by
   unfold kp at hkp
   simpa [Bool.and_eq_true] using hkp
  have r1 := rk.rn
  have hml : (a.keep.map keptR).length = a.keep.length := List.length_map _
  obtain ⟨va, vc, hvk⟩ := r1.slice
  repeat (first | refine AL.nil ?_ | refine AWp.seq ?_ | refine AWp.r9 ?_ | refine AWp.c8 rfl ?_ | refine AWp.c9 rfl ?_ | refine AWp.b9 ?_ | refine AL.set rfl rfl (qal rfl ?_) | refine AL.set rfl rfl (qaa rfl ?_) | refine AL.set rfl rfl (qaf rfl ?_) | refine AL.set rfl rfl (qao rfl ?_) | refine AL.set rfl rfl (qad rfl rfl hg rfl ?_) | refine AL.set rfl rfl (qab rfl rfl cn ?_) | refine AL.set rfl rfl (qaj rfl rfl rfl (by omega) ?_) | refine AL.set rfl rfl (qak rfl rfl rfl (by omega) ?_) | refine AL.set rfl rfl (qaI (iv64 [a.node]) rfl rfl rfl rfl (qbP _) ?_))
  have gr := Heap.alloc_new H ⟨iv64 [a.node], 3, true⟩
  have xr := wfH.ext ⟨iv64 [a.node], 3, true⟩
  have wr := wfH.alloc ⟨iv64 [a.node], 3, true⟩
  refine AL.heap (h := H.alloc ⟨iv64 [a.node], 3, true⟩) rfl ?_
  generalize H.alloc ⟨iv64 [a.node], 3, true⟩ = H1 at gr xr wr ⊢
  have cN := N_c (kword a.kind) (.slice (some ⟨H.next, 0, some 1⟩) 1 1) [a.node] H1 (RS.own gr rfl) (by intro n hn; simp only [List.mem_cons, List.not_mem_nil, or_false] at hn; rcases hn with rfl <;> exact ⟨by omega, by omega⟩) (by simp only [List.length_cons, List.length_nil]; omega) (t.ext (xh.trans xr))
  repeat (first | refine AL.nil ?_ | refine AWp.seq ?_ | refine AWp.r9 ?_ | refine AWp.b9 ?_ | refine AL.set rfl rfl (qae rfl ?_) | refine AL.set rfl rfl (qaf rfl ?_) | refine AL.set rfl rfl (qab rfl rfl cN ?_))
  have hnl := qbc (n := a.node) (by omega) (by omega)
  refine AWp.loop (α := Nat × Heap) (fun d => [(1, ptr h.next), (3, str (kword a.kind ++ tailW (itoa a.node :: keepW (a.keep.take d.1)))), (4, .int .i64 (d.1 : Nat))]) (fun d => d.2) (fun d => d.1 ≤ a.keep.length ∧ Ext H d.2 ∧ WF d.2) (fun d => a.keep.length - d.1) (0, H1) ⟨Nat.zero_le _, xr, wr⟩
   (Weak.same (EW.cons rfl (EW.cons rfl (EW.cons rfl EW.nil)))) ?_
  rintro ⟨k, H2⟩ ⟨hk2, x2, wf2⟩
  replace hk2 : k ≤ a.keep.length := hk2
  replace x2 : Ext H H2 := x2
  replace wf2 : WF H2 := wf2
  show AWp _ _ _ _ [(1, ptr h.next), (3, str (kword a.kind ++ tailW (itoa a.node :: keepW (a.keep.take k)))), (4, .int .i64 (k : Nat))] H2
  have hg2 := x2.c _ _ hg
  by_cases hlt : k < a.keep.length
  ·
   obtain ⟨x, hxa⟩ : ∃ x, a.keep[k]? = some x := ⟨_, List.getElem?_eq_getElem hlt⟩
   have hx2 : (a.keep.map keptR)[((k : Nat) : Int).toNat]? = some (keptR x) := by simp [hxa]
   have px := (r1.ext x2).elt hx2
   obtain ⟨hn1, hn2, hn3⟩ := qbI hko.1 x (List.mem_of_getElem? hxa)
   have hnl2 := qcL hn1
   have hkw : keepW (a.keep.take (k + 1)) = keepW (a.keep.take k) ++ [x.1, itoa x.2] := qcR hxa
   have hsl : (kword a.kind ++ tailW (itoa a.node :: keepW (a.keep.take k))).length ≤ 100000 := by
    rw [← qaK]
    have := qbz 100 (kword a.kind :: itoa a.node :: keepW (a.keep.take k)) (by
     intro w hw
     rcases List.mem_cons.1 hw with rfl | hw
     ·
      omega
     rcases List.mem_cons.1 hw with rfl | hw
     ·
      omega
     obtain ⟨y, hy, hw⟩ := List.mem_flatMap.1 hw
     obtain ⟨m1, m2, m3⟩ := qbI hko.1 y (List.mem_of_mem_take hy)
     have := qcL m1
     have := qbc (n := y.2) (by omega) (by omega)
     simp only [List.mem_cons, List.not_mem_nil, or_false] at hw
     rcases hw with rfl | rfl <;> omega)
    have hl2 : (keepW (a.keep.take k)).length ≤ 2 * 128 := by
     have hh : ∀ l : List (Bytes × Int), (keepW l).length = 2 * l.length := by
      intro l
      induction l with
      | nil => rfl
      | cons y l ih => unfold keepW at ih ⊢; rw [List.flatMap_cons, List.length_append, ih]; simp; omega
     rw [hh, List.length_take]
     omega
    simp only [List.length_cons] at this
    have := Nat.mul_le_mul_right (100 + 1) (show (keepW (a.keep.take k)).length + 1 + 1 ≤ 258 by omega)
    omega
   have hstep : kword a.kind ++ tailW (itoa a.node :: keepW (a.keep.take (k + 1))) = kword a.kind ++ tailW (itoa a.node :: keepW (a.keep.take k)) ++ [32] ++ x.1 ++ tailW ([x.2].map itoa) := by
    rw [hkw]
    simp [tailW]
   generalize kword a.kind ++ tailW (itoa a.node :: keepW (a.keep.take k)) = S0 at hsl hstep ⊢
   repeat (first | refine AL.nil ?_ | refine AWp.seq ?_ | refine AWp.r9 ?_ | refine AWp.c8 rfl ?_ | refine AWp.b9 ?_ | refine AWp.k9 ?_ | refine AL.set rfl rfl (qac rfl ?_) | refine AL.set rfl rfl (qao rfl ?_) | refine AL.set rfl rfl (qad rfl rfl hg2 rfl ?_) | refine AL.set rfl rfl (qav (r1.ext x2) rfl ?_) | refine AL.set rfl rfl (qaj rfl rfl rfl (by omega) ?_))
   refine AWp.tree (t := OT.seq [(0, .R), (1, .R), (2, .R), (3, .R), (4, .R), (5, .R), (6, .R), (7, .R), (8, .R), (9, .R), (10, .R), (11, .R), (12, .R), (13, .R), (14, .R), (15, .X), (16, .R), (17, .R)] .nil) mixed (by kernel_rfl) ?_
   repeat (first | refine TAL.r rfl rfl rfl (fun h' hx hn => qac rfl ⟨rfl, rfl⟩) ?_ | refine TAL.r rfl rfl rfl (fun h' hx hn => qal rfl ⟨rfl, rfl⟩) ?_ | refine TAL.r rfl rfl rfl (fun h' hx hn => qao rfl ⟨rfl, rfl⟩) ?_ | refine TAL.r rfl rfl rfl (fun h' hx hn => qad rfl rfl (hx.c _ _ hg2) rfl ⟨rfl, rfl⟩) ?_ | refine TAL.r rfl rfl rfl (fun h' hx hn => qay ((r1.ext x2).ext hx) rfl rfl (by omega) hx2 ⟨rfl, rfl⟩) ?_ | refine TAL.r rfl rfl rfl (fun h' hx hn => qcy (px.ext hx) rfl ⟨rfl, rfl⟩) ?_ | refine TAL.r rfl rfl rfl (fun h' hx hn => qbr (px.ext hx) rfl rfl rfl ⟨rfl, rfl⟩) ?_ | refine TAL.r rfl rfl rfl (fun h' hx hn => qbY (b := [32]) rfl rfl (by simp only [maxLen, List.length_append, List.length_cons, List.length_nil]; omega) ⟨rfl, rfl⟩) ?_ | refine TAL.r rfl rfl rfl (fun h' hx hn => qbY (b := x.1) rfl rfl (by simp only [maxLen, List.length_append, List.length_cons, List.length_nil]; omega) ⟨rfl, rfl⟩) ?_)
   refine TAL.x rfl rfl rfl (qaI (iv64 [x.2]) rfl rfl rfl rfl (qbP _) ⟨wf2.ext _, ?_⟩)
   have g3 := Heap.alloc_new H2 ⟨iv64 [x.2], 3, true⟩
   have x3 := wf2.ext ⟨iv64 [x.2], 3, true⟩
   have w3 := wf2.alloc ⟨iv64 [x.2], 3, true⟩
   generalize H2.alloc ⟨iv64 [x.2], 3, true⟩ = H3 at g3 x3 w3 ⊢
   have cN2 := rNx_c (S0 ++ [32] ++ x.1) (.slice (some ⟨H2.next, 0, some 1⟩) 1 1) [x.2] (H := H3) (RS.own g3 rfl) (by intro n hn; rw [List.mem_singleton.1 hn]; exact ⟨by omega, by omega⟩) (by simp only [List.length_append, List.length_cons, List.length_nil]; omega) (t.ext (xh.trans (x2.trans x3)))
   repeat (first | refine TAL.r rfl rfl rfl (fun h' hx hn => qaf rfl ⟨rfl, rfl⟩) ?_ | refine TAL.r rfl rfl rfl (fun h' hx hn => qab rfl rfl (cN2 h' hx) ⟨rfl, rfl⟩) ?_)
   refine TAL.nil ?_
   repeat (first | refine AL.nil ?_ | refine AWp.r9 ?_ | refine AL.set rfl rfl (qac rfl ?_) | refine AL.set rfl rfl (qae rfl ?_) | refine AL.set rfl rfl (qax rfl rfl (by omega) ?_))
   exact ⟨(k + 1, H3), ⟨hlt, x2.trans x3, w3⟩, by show a.keep.length - (k + 1) < a.keep.length - k; omega, Weak.same (EW.cons rfl (EW.cons (congrArg str hstep.symm) (EW.cons rfl EW.nil)))⟩
  ·
   obtain rfl : k = a.keep.length := by omega
   rw [List.take_length]
   repeat (first | refine AL.nil ?_ | refine AWp.seq ?_ | refine AWp.r9 ?_ | refine AWp.c9 rfl ?_ | refine AWp.ret ?_ | refine AWp.exit ?_ | refine AL.set rfl rfl (qac rfl ?_) | refine AL.set rfl rfl (qal rfl ?_) | refine AL.set rfl rfl (qaf rfl ?_) | refine AL.set rfl rfl (qao rfl ?_) | refine AL.set rfl rfl (qad rfl rfl hg2 rfl ?_) | refine AL.set rfl rfl (qav (r1.ext x2) rfl ?_) | refine AL.set rfl rfl (qak rfl rfl rfl (by omega) ?_))
   refine ⟨_, ResV.tmp rfl, rfl, xh.trans x2, ?_, rfl⟩
   unfold lineM
   rw [he, qaK]
   rfl
 ·
  have he : restW a = [itoa a.node, itoa a.group] := by unfold restW; rw [if_neg k1, if_neg k2, if_neg k3, if_neg k4, if_neg k5, if_neg k6]
  repeat (first | refine AL.nil ?_ | refine AWp.seq ?_ | refine AWp.r9 ?_ | refine AWp.c9 rfl ?_ | refine AWp.b9 ?_ | refine AWp.k9 ?_ | refine AL.set rfl rfl (qal rfl ?_) | refine AL.set rfl rfl (qaa rfl ?_) | refine AL.set rfl rfl (qaf rfl ?_) | refine AL.set rfl rfl (qao rfl ?_) | refine AL.set rfl rfl (qad rfl rfl hg rfl ?_) | refine AL.set rfl rfl (qab rfl rfl cn ?_) | refine AL.set rfl rfl (qak rfl rfl rfl (by omega) ?_) | refine AL.set rfl rfl (qaI (iv64 [a.node, a.group]) rfl rfl rfl rfl (qbP _) ?_))
  have gr := Heap.alloc_new H ⟨iv64 [a.node, a.group], 3, true⟩
  have xr := wfH.ext ⟨iv64 [a.node, a.group], 3, true⟩
  have wr := wfH.alloc ⟨iv64 [a.node, a.group], 3, true⟩
  refine AL.heap (h := H.alloc ⟨iv64 [a.node, a.group], 3, true⟩) rfl ?_
  generalize H.alloc ⟨iv64 [a.node, a.group], 3, true⟩ = H1 at gr xr wr ⊢
  have cN := N_c (kword a.kind) (.slice (some ⟨H.next, 0, some 1⟩) 2 2) [a.node, a.group] H1 (RS.own gr rfl) (by intro n hn; simp only [List.mem_cons, List.not_mem_nil, or_false] at hn; rcases hn with rfl | rfl <;> exact ⟨by omega, by omega⟩) (by simp only [List.length_cons, List.length_nil]; omega) (t.ext (xh.trans xr))
  repeat (first | refine AL.nil ?_ | refine AWp.ret ?_ | refine AL.set rfl rfl (qaf rfl ?_) | refine AL.set rfl rfl (qab rfl rfl cN ?_))
  refine ⟨_, ResV.tmp rfl, rfl, xh.trans xr, ?_, rfl⟩
  unfold lineM
  rw [he, qaK]
  rfl
end Go.Proofs.YtigmojilaadbhaaGreatDoor

/-
 Bytes against bytes: which is ahead.
-/
namespace Go.Pln
open Go Go.Lib

def ordB : Bytes → Bytes → Int
 | [], [] => 0
 | [], _ :: _ => -1
 | _ :: _, [] => 1
 | a :: x, b :: y => if a < b then -1 else if b < a then 1 else ordB x y
theorem qff : ∀ a b : Bytes, Op.bytesLess a b = decide (ordB a b < 0)
 | [], [] => rfl
 | [], _ :: _ => rfl
 | _ :: _, [] => rfl
 | a :: x, b :: y => by
  rw [Op.bytesLess, ordB]
  by_cases h1 : a < b
  ·
   rw [if_pos h1, decide_eq_true h1]; rfl
  ·
   rw [if_neg h1, decide_eq_false h1]
   by_cases h2 : b < a
   ·
    rw [if_pos h2]
    have : (a == b) = false := beq_eq_false_iff_ne.2 fun e => by subst e; exact h1 h2
    rw [this]; rfl
   ·
    rw [if_neg h2]
    have : a = b := UInt8.toNat_inj.1 (by have e1 : ¬ a.toNat < b.toNat := h1; have e2 : ¬ b.toNat < a.toNat := h2; omega)
    rw [beq_iff_eq.2 this, Bool.false_or, Bool.true_and]
    exact qff x y
def cmpF (a b : Bytes) : Int := match (List.range (min a.length b.length)).find? fun i => a[i]! != b[i]! with
 | some i => if a[i]! < b[i]! then -1 else 1
 | none => if a.length < b.length then -1 else if a.length > b.length then 1 else 0
theorem cmpF_cons (a b : UInt8) (x y : Bytes) : cmpF (a :: x) (b :: y) = if a < b then -1 else if b < a then 1 else cmpF x y := by
 unfold cmpF
 have e : min (a :: x).length (b :: y).length = min x.length y.length + 1 := by simp only [List.length_cons]; omega
 rw [e, List.range_succ_eq_map, List.find?_cons]
 by_cases hab : a = b
 ·
  subst hab
  have h0 : ((a :: x)[0]! != (a :: y)[0]!) = false := by simp
  rw [h0]
  simp only
  rw [List.find?_map, if_neg (UInt8.lt_irrefl a), if_neg (UInt8.lt_irrefl a)]
  have hp : ((fun i => (a :: x)[i]! != (a :: y)[i]!) ∘ Nat.succ) = fun i => x[i]! != y[i]! := by
   funext i
   simp
  rw [hp]
  cases (List.range (min x.length y.length)).find? (fun i => x[i]! != y[i]!) with
  | none => simp
  | some i => simp
 ·
  have h0 : ((a :: x)[0]! != (b :: y)[0]!) = true := by simpa using hab
  rw [h0]
  simp only [List.getElem!_cons_zero]
  by_cases h1 : a < b
  ·
   rw [if_pos h1, if_pos h1]
  ·
   rw [if_neg h1, if_neg h1]
   have h2 : b < a := by
    have e1 : ¬ a.toNat < b.toNat := h1
    have e2 : a.toNat ≠ b.toNat := fun e => hab (UInt8.toNat_inj.1 e)
    show b.toNat < a.toNat
    omega
   rw [if_pos h2]
theorem cmpF_eq : ∀ a b : Bytes, cmpF a b = ordB a b
 | [], [] => rfl
 | [], b :: y => by simp [cmpF, ordB]
 | a :: x, [] => by simp [cmpF, ordB]
 | a :: x, b :: y => by rw [cmpF_cons, ordB, cmpF_eq x y]
theorem bget (a : Bytes) (i : Nat) : (ByteArray.mk a.toArray)[i]! = a[i]! := by
 rw [getElem!_def, getElem!_def]
 have : (ByteArray.mk a.toArray)[i]? = a[i]? := by
  by_cases h : i < a.length
  ·
   rw [List.getElem?_eq_getElem h, getElem?_pos (ByteArray.mk a.toArray) i h]
   rfl
  ·
   rw [List.getElem?_eq_none (by omega), getElem?_neg (ByteArray.mk a.toArray) i h]
 rw [this]
theorem cmp_eq (a b : Bytes) : Extern.BytealgCompare.cmp ⟨a.toArray⟩ ⟨b.toArray⟩ = ordB a b := by
 rw [← cmpF_eq]
 unfold Extern.BytealgCompare.cmp cmpF
 simp only [bget]
 rfl
theorem ordB_nil (a b : Bytes) (k : Nat) (h : a.take k = b.take k) (ha : a.length ≤ k ∨ b.length ≤ k) : ordB a b = if a.length < b.length then -1 else if b.length < a.length then 1 else 0 := by
 induction k generalizing a b with
 | zero =>
  cases a with
  | nil => cases b <;> simp [ordB]
  | cons x a =>
   cases b with
   | nil => simp [ordB]
   | cons y b => simp at ha
 | succ k ih =>
  cases a with
  | nil => cases b <;> simp [ordB]
  | cons x a =>
   cases b with
   | nil => simp [ordB]
   | cons y b =>
    simp only [List.take_succ_cons, List.cons.injEq] at h
    obtain ⟨rfl, h⟩ := h
    rw [ordB, if_neg (UInt8.lt_irrefl x), if_neg (UInt8.lt_irrefl x), ih a b h (by simp only [List.length_cons] at ha; omega)]
    simp
theorem ordB_at {a b : Bytes} {k : Nat} {x y : UInt8} (h : a.take k = b.take k) (hx : a[k]? = some x) (hy : b[k]? = some y) (hn : x ≠ y) : ordB a b = if x < y then -1 else 1 := by
 induction k generalizing a b with
 | zero =>
  cases a with
  | nil => simp at hx
  | cons u a =>
   cases b with
   | nil => simp at hy
   | cons v b =>
    simp only [List.getElem?_cons_zero, Option.some.injEq] at hx hy
    subst hx hy
    rw [ordB]
    by_cases h1 : u < v
    ·
     rw [if_pos h1, if_pos h1]
    ·
     rw [if_neg h1, if_neg h1]
     have h2 : v < u := by
      have e1 : ¬ u.toNat < v.toNat := h1
      have e2 : u.toNat ≠ v.toNat := fun e => hn (UInt8.toNat_inj.1 e)
      show v.toNat < u.toNat
      omega
     rw [if_pos h2]
 | succ k ih =>
  cases a with
  | nil => simp at hx
  | cons u a =>
   cases b with
   | nil => simp at hy
   | cons v b =>
    simp only [List.take_succ_cons, List.cons.injEq] at h
    obtain ⟨rfl, h⟩ := h
    simp only [List.getElem?_cons_succ] at hx hy
    rw [ordB, if_neg (UInt8.lt_irrefl u), if_neg (UInt8.lt_irrefl u), ih h hx hy]
end Go.Pln
