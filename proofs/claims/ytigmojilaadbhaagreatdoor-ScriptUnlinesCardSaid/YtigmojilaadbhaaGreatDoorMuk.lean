/-
  Texts of one claim, merged: 8 parts.
-/
import Derived.Test.YtigmojilaadbhaaGreatDoorMuj
import Derived.Lib.ItoaLen
import Derived.Test.YtigmojilaadbhaaGreatDoorMuh
import Derived.Test.YtigmojilaadbhaaGreatDoorMue
import Derived.Test.YtigmojilaadbhaaGreatDoorMui
import Derived.Test.YtigmojilaadbhaaGreatDoorMuf
set_option maxHeartbeats 16000000
/- . -/
namespace Go.Proofs.YtigmojilaadbhaaGreatDoor
open Go Go.Eng Go.Pln Go.Lib
attribute [local irreducible] AWp AL DAL AOp TAL
instance i_unword : FnC Tryz.prog 163 := ⟨Tryz.f163, Tryz.func163, by kernel_rfl, by kernel_rfl⟩
instance i_raw : FnC Tryz.prog 131 := ⟨Tryz.f131, Tryz.func131, by kernel_rfl, by kernel_rfl⟩
theorem hex2_lt (l : Bytes) : hex2 l < 256 := by
 unfold hex2
 split
 ·
  split <;> omega
 ·
  split <;> omega
 ·
  omega
theorem unP_plain {c : UInt8} (hc : c ≠ 37) : ∀ r : Bytes, unwordP (c :: r) = c :: unwordP r
 | [] => by simp [unwordP, hc]
 | d :: r => by rw [unwordP, if_neg hc]
theorem unP_pct (d : UInt8) (r : Bytes) : unwordP (37 :: d :: r) = UInt8.ofNat (hex2 ((d :: r).take 2)) :: unwordP ((d :: r).drop 2) := by rw [unwordP, if_pos rfl]
structure UwI (h : Heap) (s rest acc : Bytes) (H : Heap) (u : Value) : Prop where
 eq : unwordP s = acc ++ unwordP rest
 len : acc.length + rest.length ≤ s.length
 ext : Ext h H
 wf : WF H
 os : OS h.next H 5 u (bv acc)
 nx : h.next ≤ H.next
theorem op_minK {ρ : Operand → Value} {h : Heap} {K : Value → Heap → Prop} {dst : Option Tmp} {ty : TypeId} {pos : String} {aft : Array Edge} {g : Option (Nat × Bool)} {x y : Operand} {k k' : IntKind} {a b c : Int} {aT : Array TypeId} (hx : ρ x = .int k a) (hy : ρ y = .int k' b) (hc : (if b < a then b else a) = c) (kk : K (.int k c) h) :
  AOp Tryz.prog ⟨dst, .call ⟨.builtin .min, #[x, y], aT⟩, ty, pos, aft, g⟩ ρ h K := op_min2 hx hy (hc ▸ kk)
theorem cut1 (s : Bytes) (n : Nat) : (s.take ((s.length : Nat) : Int).toNat).drop ((n : Nat) : Int).toNat = s.drop n := by
 rw [Int.toNat_natCast, Int.toNat_natCast, List.take_length]
theorem unword_c (s : Bytes) (h : Heap) (t : Tabs h) (hl : s.length ≤ 1000000000) : ACalls Tryz.prog 163 [str s] h fun u h' => OS h.next h' 5 u (bv (unwordP s)) ∧ Ext h h' := by
 refine ACalls.wf fun wf => ?_
 refine ACalls.body Tryz.func163 rfl rfl ?_
 repeat (first | refine W.w ?_ | (refine zz rfl ?_; first | refine qai rfl ?_ | refine qaZ rfl ?_ | refine qag rfl ?_))
 refine AWp.loop (α := Bytes × Bytes × Heap × Value) (fun d => [(3, d.2.2.2), (4, str d.1)]) (fun d => d.2.2.1) (fun d => UwI h s d.1 d.2.1 d.2.2.1 d.2.2.2) (fun d => d.1.length) (s, [], h, .slice none 0 0) ⟨rfl, by simp, Ext.refl h, wf, OS.nil _ _ _, Nat.le_refl _⟩
  (Weak.same (EW.cons rfl (EW.cons rfl EW.nil))) ?_
 rintro ⟨rest, acc, H, u⟩ i
 replace i : UwI h s rest acc H u := i
 show AWp _ _ _ _ [(3, u), (4, str rest)] H
 obtain ⟨ie, il, ix, iw, io, inx⟩ := i
 by_cases h0 : rest = []
 ·
  repeat (first | refine AL.nil ?_ | refine AL.skip rfl rfl ?_ | refine AWp.seq ?_ | refine AWp.r9 ?_ | refine AWp.c9 rfl ?_ | refine AWp.ret ?_ | refine AWp.exit ?_ | (refine zz rfl ?_; first | refine qae rfl ?_ | refine qai rfl ?_ | refine qbY (a := rest) (b := []) rfl rfl h0 ?_ | refine qah (v := .bool _) rfl rfl ?_ | refine qal (v := u) rfl ?_ | refine qaq (v := u) rfl ?_))
  refine ⟨_, ResV.tmp rfl, ?_, ix⟩
  rw [ie, h0, unwordP, List.append_nil]
  exact io
 by_cases h1 : rest = [37]
 ·
  repeat (first | refine AL.nil ?_ | refine AWp.seq ?_ | refine AWp.r9 ?_ | refine AWp.c9 rfl ?_ | refine AWp.ret ?_ | refine AWp.exit ?_ | (refine zz rfl ?_; first | refine qae rfl ?_ | refine qai rfl ?_ | refine qbv (a := rest) (b := []) rfl rfl h0 ?_ | refine qbY (a := rest) (b := [37]) rfl rfl h1 ?_ | refine qah (v := .bool _) rfl rfl ?_ | refine qal (v := u) rfl ?_ | refine qaq (v := u) rfl ?_))
  refine ⟨_, ResV.tmp rfl, ?_, ix⟩
  rw [ie, h1, unwordP, if_pos rfl, List.append_nil]
  exact io
 obtain ⟨ch, r, hr⟩ : ∃ ch r, rest = ch :: r := by
  cases rest with
  | nil => exact absurd rfl h0
  | cons a b => exact ⟨a, b, rfl⟩
 have hat : (bstr rest)[((0 : Nat) : Int).toNat]? = some ch := by rw [qcG, hr]; rfl
 have hrl : rest.length = r.length + 1 := by rw [hr]; rfl
 by_cases hc : ch = 37
 ·
  obtain ⟨d, r2, hr2⟩ : ∃ d r2, r = d :: r2 := by
   cases r with
   | nil => exact absurd (by rw [hr, hc]) h1
   | cons a b => exact ⟨a, b, rfl⟩
  have h37 : ch.toNat = 37 := by rw [hc]; rfl
  obtain ⟨nn, hnn⟩ : ∃ nn, nn = min 3 rest.length := ⟨_, rfl⟩
  have hr2l : r.length = r2.length + 1 := by rw [hr2]; rfl
  have hA : (rest.take ((nn : Nat) : Int).toNat).drop (1 : Int).toNat = (d :: r2).take 2 := by
   rw [Int.toNat_natCast, hr, hr2]
   have e : nn = min 2 (r2.length + 1) + 1 := by omega
   rw [e, List.take_succ_cons]
   show (d :: r2).take (min 2 (r2.length + 1)) = _
   rw [← List.take_take]
   congr 1
   exact List.take_of_length_le (by simp)
  have hB : (rest.take ((rest.length : Nat) : Int).toNat).drop ((nn : Nat) : Int).toNat = (d :: r2).drop 2 := by
   rw [cut1, hr, hr2]
   cases r2 with
   | nil =>
    have e : nn = 2 := by simp at hr2l; omega
    rw [e]; rfl
   | cons a b =>
    have e : nn = 3 := by simp at hr2l; omega
    rw [e]; rfl
  have hx2 := hex2_lt ((d :: r2).take 2)
  have hof : (UInt8.ofNat (hex2 ((d :: r2).take 2))).toNat = hex2 ((d :: r2).take 2) := by
   rw [UInt8.toNat_ofNat']
   exact Nat.mod_eq_of_lt hx2
  repeat (first | refine W.w ?_ | refine AWp.c8 rfl ?_ | (refine zz rfl ?_; first | refine qac rfl ?_ | refine qae rfl ?_ | refine qai rfl ?_ | refine qad rfl ?_ | refine qbv (a := rest) (b := []) rfl rfl h0 ?_ | refine qbv (a := rest) (b := [37]) rfl rfl h1 ?_ | refine qah (v := .bool _) rfl rfl ?_ | refine qaM rfl rfl (by omega) hat ?_ | refine qam rfl rfl rfl (by omega) ?_ | refine qaI rfl ?_ | refine op_minK (c := ((nn : Nat) : Int)) rfl rfl (by split <;> omega) ?_ | refine qbo (s := rest) (l := 1) (m := ((nn : Nat) : Int)) rfl rfl rfl (by omega) (by omega) (by omega) ?_))
  refine zz rfl (qar (evs := [str ((d :: r2).take 2), .int .i64 16, .int .i64 8]) rfl (by rw [← hA]; rfl) ((pu_c _ H (t.ext ix) (by rw [List.length_take]; omega)).wf_post.mono ?_))
  rintro _ H1 ⟨⟨⟨e, rfl⟩, x1⟩, wf1, n1⟩
  have o1 := io.ext x1
  repeat (first | refine W.w ?_ | (refine zz rfl ?_; first | refine qac rfl ?_ | refine qaH rfl ?_ | refine qad rfl ?_ | refine qav rfl rfl ?_ | refine qaq (v := e) rfl ?_ | refine qcd (c := ((UInt8.ofNat (hex2 ((d :: r2).take 2))).toNat : Int)) rfl (by rw [hof]; show _ % (256 : Int) = _; omega) ?_))
  generalize hX : UInt8.ofNat (hex2 ((d :: r2).take 2)) = X
  refine AWp.tree (t := OT.seq [(0, .P), (1, .P), (4, .P), (5, .P), (6, .P), (2, .X), (3, .W), (7, .P), (8, .P)] .nil) mixed (by kernel_rfl) ?_
  repeat (first | refine TAL.p rfl rfl rfl (fun h' hn => qac rfl ⟨rfl, rfl⟩) ?_ | refine TAL.p rfl rfl rfl (fun h' hn => qai rfl ⟨rfl, rfl⟩) ?_ | refine TAL.p rfl rfl rfl (fun h' hn => qal (v := u) rfl ⟨rfl, rfl⟩) ?_ | refine TAL.p rfl rfl rfl (fun h' hn => qbo (s := rest) (l := ((nn : Nat) : Int)) (m := ((rest.length : Nat) : Int)) rfl rfl rfl (by omega) (by omega) (by omega) ⟨rfl, rfl⟩) ?_)
  refine TAL.x rfl rfl rfl (qaN (bv [X]) rfl rfl rfl rfl (qcl _) ⟨wf1.ext _, ?_⟩)
  obtain ⟨H3, hQ, gr, xr, wr, _⟩ := aq wf1 ⟨bv [X], 5, true⟩
  rw [hQ]
  have rb : RB H3 (.slice (some ⟨H1.next, 0, some 1⟩) 1 1) [X] := RS.own gr rfl
  have o3 := o1.ext xr
  have n3 := wr.lt gr
  refine TAL.w rfl rfl rfl (qa6 (z := .int .u8 0) (B := h.next) (e := 5) rfl wr (by omega) o3 rfl rfl rb.src (qaz _) (qcC _) (by rw [qaz]; simp only [maxLen, List.length_cons, List.length_nil]; omega) (by rw [qaz]; simp only [List.length_cons, List.length_nil]; omega) ?_)
  intro u' H4 o4 k4 wf4 n4
  rw [← qbK] at o4
  have x4 := k4.ext o3 wf (Nat.le_refl _) ((ix.trans x1).trans xr)
  repeat (first | refine TAL.p rfl rfl rfl (fun h' hn => qag rfl ⟨rfl, rfl⟩) ?_ | refine TAL.p rfl rfl rfl (fun h' hn => qaq (v := u') rfl ⟨rfl, rfl⟩) ?_)
  refine TAL.nil ?_
  refine ⟨((d :: r2).drop 2, acc ++ [X], H4, u'), ⟨?_, ?_, x4, wf4, o4, by show h.next ≤ H4.next; omega⟩, ?_, Weak.same (EW.cons rfl (EW.cons (congrArg str hB) EW.nil))⟩
  ·
   rw [ie, hr, hc, hr2, unP_pct, hX]
   simp
  ·
   show (acc ++ [X]).length + ((d :: r2).drop 2).length ≤ s.length
   simp only [List.length_append, List.length_drop, List.length_cons, List.length_nil]
   omega
  ·
   show ((d :: r2).drop 2).length < rest.length
   simp only [List.length_drop, List.length_cons]
   omega
 ·
  have hcn : ch.toNat ≠ 37 := fun e => hc (UInt8.toNat_inj.1 (by rw [e]; rfl))
  have hB : (rest.take ((rest.length : Nat) : Int).toNat).drop ((1 : Nat) : Int).toNat = r := by
   rw [cut1, hr]
   rfl
  repeat (first | refine W.w ?_ | refine AWp.c8 rfl ?_ | refine AWp.c9 rfl ?_ | (refine zz rfl ?_; first | refine qac rfl ?_ | refine qae rfl ?_ | refine qai rfl ?_ | refine qad rfl ?_ | refine qbv (a := rest) (b := []) rfl rfl h0 ?_ | refine qbv (a := rest) (b := [37]) rfl rfl h1 ?_ | refine qah (v := .bool _) rfl rfl ?_ | refine qaM rfl rfl (by omega) hat ?_ | refine qak rfl rfl rfl (by omega) ?_))
  refine AWp.tree (t := OT.seq [(0, .P), (1, .P), (4, .P), (5, .P), (6, .P), (2, .X), (3, .W), (7, .P), (8, .P)] .nil) mixed (by kernel_rfl) ?_
  repeat (first | refine TAL.p rfl rfl rfl (fun h' hn => qac rfl ⟨rfl, rfl⟩) ?_ | refine TAL.p rfl rfl rfl (fun h' hn => qai rfl ⟨rfl, rfl⟩) ?_ | refine TAL.p rfl rfl rfl (fun h' hn => qal (v := u) rfl ⟨rfl, rfl⟩) ?_ | refine TAL.p rfl rfl rfl (fun h' hn => qbo (s := rest) (l := ((1 : Nat) : Int)) (m := ((rest.length : Nat) : Int)) rfl rfl rfl (by omega) (by omega) (by omega) ⟨rfl, rfl⟩) ?_)
  refine TAL.x rfl rfl rfl (qaN (bv [ch]) rfl rfl rfl rfl (qcl _) ⟨iw.ext _, ?_⟩)
  obtain ⟨H3, hQ, gr, xr, wr, _⟩ := aq iw ⟨bv [ch], 5, true⟩
  rw [hQ]
  have rb : RB H3 (.slice (some ⟨H.next, 0, some 1⟩) 1 1) [ch] := RS.own gr rfl
  have o3 := io.ext xr
  have n3 := wr.lt gr
  refine TAL.w rfl rfl rfl (qa6 (z := .int .u8 0) (B := h.next) (e := 5) rfl wr (by omega) o3 rfl rfl rb.src (qaz _) (qcC _) (by rw [qaz]; simp only [maxLen, List.length_cons, List.length_nil]; omega) (by rw [qaz]; simp only [List.length_cons, List.length_nil]; omega) ?_)
  intro u' H4 o4 k4 wf4 n4
  rw [← qbK] at o4
  have x4 := k4.ext o3 wf (Nat.le_refl _) (ix.trans xr)
  repeat (first | refine TAL.p rfl rfl rfl (fun h' hn => qag rfl ⟨rfl, rfl⟩) ?_ | refine TAL.p rfl rfl rfl (fun h' hn => qaq (v := u') rfl ⟨rfl, rfl⟩) ?_)
  refine TAL.nil ?_
  refine ⟨(r, acc ++ [ch], H4, u'), ⟨?_, ?_, x4, wf4, o4, by show h.next ≤ H4.next; omega⟩, ?_, Weak.same (EW.cons rfl (EW.cons (congrArg str hB) EW.nil))⟩
  ·
   rw [ie, hr, unP_plain hc]
   simp
  ·
   show (acc ++ [ch]).length + r.length ≤ s.length
   simp only [List.length_append, List.length_cons, List.length_nil]
   omega
  ·
   show r.length < rest.length
   omega
theorem raw_c (i : Nat) (s : Bytes) (h : Heap) (hi : h.get i = some (rdB s)) (hl : s.length ≤ 1000000000) (t : Tabs h) (hn : 8 ≤ i) : ACalls Tryz.prog 131 [ptr i] h fun u h' => OS h.next h' 5 u (bv (rawS s).1) ∧ Ext (h.set i (rdB (rawS s).2)) h' := by
 refine ACalls.body Tryz.func131 rfl rfl ?_
 have hw := (qbw s).1
 unfold rawS
 generalize hH : h.set i (rdB (cutS s).2) = H
 have tH : Tabs H := hH ▸ t.set hn
 have hnx : H.next = h.next := hH ▸ rfl
 have cn := qh1 i s h hi hl
 rw [hH] at cn
 generalize (cutS s).1 = w at hw cn ⊢
 repeat (first | refine W.w ?_ | refine zz rfl (qay rfl ?_) | refine zz rfl (qaZ rfl ?_))
 refine zz rfl (qar rfl rfl (cn.mono ?_))
 rintro _ H1 ⟨rfl, hH1⟩
 cases hH1.symm
 refine zz rfl (qar rfl rfl ((unword_c w H tH (by omega)).mono ?_))
 rintro u H2 ⟨o, x⟩
 repeat (first | refine W.w ?_ | refine zz rfl (qaq (v := u) rfl ?_))
 exact ⟨_, ResV.tmp rfl, hnx ▸ o, x⟩
end Go.Proofs.YtigmojilaadbhaaGreatDoor
/- . -/
namespace Go.Proofs.YtigmojilaadbhaaGreatDoor
open Go Go.Eng Go.Pln Go.Lib
attribute [local irreducible] AWp AL DAL AOp
def tailW (ws : List Bytes) : Bytes := ws.flatMap fun w => 32 :: w
theorem qb5 (a b : List Bytes) : tailW (a ++ b) = tailW a ++ tailW b := by simp [tailW]
theorem qaP : ∀ (w : Bytes) (ws : List Bytes), joinW (w :: ws) = w ++ tailW ws
 | w, [] => by simp [joinW, tailW]
 | w, v :: ws => by
  rw [joinW, qaP v ws]
  simp [tailW]
theorem qbs {n : Int} (h0 : -9223372036854775808 ≤ n) (h1 : n ≤ 9223372036854775807) : (itoa n).length ≤ 21 := Lib.itoa_length_le n h0 h1
abbrev I64 (n : Int) : Prop := -9223372036854775808 ≤ n ∧ n ≤ 9223372036854775807
theorem tail_len {l : List Int} (hl : ∀ n ∈ l, I64 n) : (tailW (l.map itoa)).length ≤ 22 * l.length := by
 induction l with
 | nil => exact Nat.zero_le _
 | cons n l ih =>
  have h1 := qbs (hl n List.mem_cons_self).1 (hl n List.mem_cons_self).2
  have h2 := ih fun m hm => hl m (List.mem_cons_of_mem n hm)
  have e : tailW ((n :: l).map itoa) = 32 :: itoa n ++ tailW (l.map itoa) := by simp [tailW]
  rw [e, List.length_append, List.length_cons, List.length_cons]
  omega
instance qdN : FnC Tryz.prog 50 := ⟨Tryz.f50, Tryz.func50, by kernel_rfl, by kernel_rfl⟩
theorem N_c (s : Bytes) (v : Value) (l : List Int) (h : Heap) (r : RS h v (l.map fun n => .int .i64 n)) (hi : ∀ n ∈ l, I64 n) (hl : s.length + 22 * l.length ≤ 140737488351232) (t : Tabs h) : ACalls Tryz.prog 50 [str s, v] h fun u h' => u = str (s ++ tailW (l.map itoa)) ∧ h' = h := by
 refine ACalls.body Tryz.func50 rfl rfl ?_
 repeat (first | refine W.w ?_ | refine zz rfl (qad rfl ?_) | refine zz rfl (qag rfl ?_))
 refine AWp.loop (α := Nat) (fun k => [(0, str (s ++ tailW ((l.take k).map itoa))), (1, v), (5, .int .i64 (k : Nat))]) (fun _ => h) (fun k => k ≤ l.length) (fun k => l.length - k) 0 (Nat.zero_le _) (Weak.same (EW.cons (congrArg str (List.append_nil s).symm) (EW.cons rfl (EW.cons rfl EW.nil)))) ?_
 intro k hk
 have hlen : (l.map fun n => Value.int .i64 n).length = l.length := by simp
 by_cases hlt : k < l.length
 ·
  obtain ⟨n, hn⟩ : ∃ n, l[k]? = some n := ⟨_, List.getElem?_eq_getElem hlt⟩
  have hI := hi n (List.mem_of_getElem? hn)
  have ci := qhz n h t hI.1 hI.2
  have hx : (l.map fun n => Value.int .i64 n)[((k : Nat) : Int).toNat]? = some (.int .i64 n) := by
   show (l.map fun n => Value.int .i64 n)[k]? = _
   rw [List.getElem?_map, hn]
   rfl
  have h1 := qbs hI.1 hI.2
  have h2 := tail_len (l := l.take k) fun m hm => hi m (List.mem_of_mem_take hm)
  rw [List.length_take] at h2
  have h3 : (s ++ tailW ((l.take k).map itoa)).length ≤ 140737488351232 := by rw [List.length_append]; omega
  have e : s ++ tailW ((l.take (k + 1)).map itoa) = s ++ tailW ((l.take k).map itoa) ++ [32] ++ itoa n := by
   rw [List.take_add_one, hn, List.map_append, qb5]
   simp [tailW]
  repeat (first | refine W.w ?_ | refine AWp.c8 rfl ?_ | (refine zz rfl ?_; first | refine qac rfl ?_ | refine qai rfl ?_ | refine qaS r rfl ?_ | refine qam rfl rfl rfl (by rw [hlen]; omega) ?_ | refine qbg r rfl rfl (by omega) hx ?_ | refine qbZ rfl rfl (by simp only [maxLen, List.length_append, List.length_cons, List.length_nil] at h3 ⊢; omega) ?_ | refine qal (by conv => lhs; whnf) ?_))
  intro p hp
  repeat (first | refine W.w ?_ | (refine zz rfl ?_; first | refine qac rfl ?_ | refine qad rfl ?_ | refine qag rfl ?_ | refine qat hp rfl rfl ?_ | refine qab rfl rfl ci ?_ | refine qbZ rfl rfl (by simp only [maxLen, List.length_append, List.length_cons, List.length_nil] at h3 ⊢; omega) ?_ | refine qas rfl rfl (by omega) ?_))
  exact ⟨k + 1, hlt, by omega, Weak.same (EW.cons (congrArg str e.symm) (EW.cons rfl (EW.cons rfl EW.nil)))⟩
 ·
  obtain rfl : k = l.length := by omega
  rw [List.take_length]
  repeat (first | refine AL.nil ?_ | refine AWp.seq ?_ | refine AWp.r9 ?_ | refine AWp.c9 rfl ?_ | refine AWp.ret ?_ | refine AWp.exit ?_ | (refine zz rfl ?_; first | refine qac rfl ?_ | refine qai rfl ?_ | refine qag rfl ?_ | refine qaS r rfl ?_ | refine qak rfl rfl rfl (by rw [hlen]; omega) ?_ | refine qal (by conv => lhs; whnf) ?_))
  exact ⟨_, ResV.tmp rfl, rfl, rfl⟩
instance qei : FnC Tryz.prog 75 := ⟨Tryz.f75, Tryz.func75, by kernel_rfl, by kernel_rfl⟩
instance qes : FnC Tryz.prog 74 := ⟨Tryz.f74, Tryz.func74, by kernel_rfl, by kernel_rfl⟩
instance qdy : FnC Tryz.prog 73 := ⟨Tryz.f73, Tryz.func73, by kernel_rfl, by kernel_rfl⟩
instance i_TyD_Sl_Sl_int : TyD Tryz.prog 22 (.slice 77) := ⟨Tryz.underlying22⟩
instance i_TyI_Sl_Sl_int : TyI Tryz.prog 22 1 24 (.slice none 0 0) := ⟨qaT (by kernel_rfl), rfl, rfl⟩
instance i_TyD_api_Setup : TyD Tryz.prog 24 (.struct #[fd "Nodes" 3 0 "" 0, fd "Groups" 22 1 "" 8, fd "Disk" 3 2 "" 32, fd "Memory" 3 3 "" 40, fd "Level" 3 4 "" 48]) := ⟨Tryz.underlying24⟩
instance i_TyI_api_Setup : TyI Tryz.prog 24 5 56 (.agg #[.int .i64 0, .slice none 0 0, .int .i64 0, .int .i64 0, .int .i64 0]) := ⟨qaT (by kernel_rfl), rfl, rfl⟩
instance qhi : FAd Tryz.prog 24 0 0 := FAd.mk' (ft := 3) Tryz.underlying24 rfl rfl rfl rfl
instance qhk : FAd Tryz.prog 24 1 1 := FAd.mk' (ft := 22) Tryz.underlying24 rfl rfl rfl rfl
instance qg5 : FAd Tryz.prog 24 2 2 := FAd.mk' (ft := 3) Tryz.underlying24 rfl rfl rfl rfl
instance qgJ : FAd Tryz.prog 24 3 3 := FAd.mk' (ft := 3) Tryz.underlying24 rfl rfl rfl rfl
instance qg7 : FAd Tryz.prog 24 4 4 := FAd.mk' (ft := 3) Tryz.underlying24 rfl rfl rfl rfl
def setC (vg : Value) (x : SetM) : List Value := [.int .i64 x.nodes, vg, .int .i64 x.disk, .int .i64 x.memory, .int .i64 x.level]
theorem qcx (n a b : Int) (h : Heap) : ACalls Tryz.prog 75 [.int .i64 n, .int .i64 a, .int .i64 b] h fun u h' => u = .bool (decide (a ≤ n ∧ n ≤ b)) ∧ h' = h := by
 refine ACalls.body Tryz.func75 rfl rfl ?_
 by_cases h1 : a ≤ n
 ·
  by_cases h2 : n ≤ b
  ·
   repeat (first | refine W.w ?_ | (refine zz rfl ?_; first | refine qac rfl ?_ | refine qae rfl ?_ | refine qaa rfl ?_ | refine qam rfl rfl rfl (by omega) ?_ | refine qah (v := .bool _) rfl rfl ?_))
   exact ⟨_, ResV.tmp rfl, by rw [decide_eq_true ⟨h1, h2⟩]; rfl, rfl⟩
  ·
   repeat (first | refine W.w ?_ | (refine zz rfl ?_; first | refine qac rfl ?_ | refine qae rfl ?_ | refine qaa rfl ?_ | refine qam rfl rfl rfl (by omega) ?_ | refine qak rfl rfl rfl (by omega) ?_ | refine qah (v := .bool _) rfl rfl ?_))
   exact ⟨_, ResV.tmp rfl, by rw [decide_eq_false fun e => h2 e.2]; rfl, rfl⟩
 ·
  repeat (first | refine W.w ?_ | refine AL.skip rfl rfl ?_ | (refine zz rfl ?_; first | refine qac rfl ?_ | refine qae rfl ?_ | refine qaa rfl ?_ | refine qak rfl rfl rfl (by omega) ?_ | refine qah (v := .bool _) rfl rfl ?_))
  exact ⟨_, ResV.tmp rfl, by rw [decide_eq_false fun e => h1 e.1]; rfl, rfl⟩
theorem qbr {n a b : Int} (h : Heap) (c : a ≤ n ∧ n ≤ b) : ACalls Tryz.prog 75 [.int .i64 n, .int .i64 a, .int .i64 b] h fun u h' => u = .bool true ∧ h' = h := by
 have := qcx n a b h
 rwa [decide_eq_true c] at this
theorem qcb {n a b : Int} (h : Heap) (c : ¬ (a ≤ n ∧ n ≤ b)) : ACalls Tryz.prog 75 [.int .i64 n, .int .i64 a, .int .i64 b] h fun u h' => u = .bool false ∧ h' = h := by
 have := qcx n a b h
 rwa [decide_eq_false c] at this
theorem sizes_c (x : SetM) (vg : Value) (_hv : vg ≠ undef) (h : Heap) : ACalls Tryz.prog 74 [.agg (setC vg x).toArray] h fun u h' => u = .bool (sizesM x) ∧ h' = h := by
 refine ACalls.wf fun wf => ACalls.reset ?_
 refine ACalls.body Tryz.func74 rfl rfl ?_
 repeat (first | refine W.w ?_ | refine zz rfl (qaa rfl ?_) | refine zz rfl (qaV rfl (by intro e; cases e) ?_))
 generalize hH : h.alloc _ = H
 have hg : H.get h.next = some ⟨setC vg x, 24, true⟩ := hH ▸ Heap.alloc_new _ _
 have hx : Ext h H := hH ▸ wf.ext _
 by_cases c1 : 1 ≤ x.nodes ∧ x.nodes ≤ 5
 ·
  by_cases c2 : 1024 ≤ x.disk ∧ x.disk ≤ 1048576
  ·
   by_cases c3 : 64 ≤ x.memory ∧ x.memory ≤ 4096
   ·
    by_cases c4 : 256 ≤ x.level ∧ x.level ≤ 65536
    ·
     repeat (first | refine W.w ?_ | (refine zz rfl ?_; first | refine qae rfl ?_ | refine qaa rfl ?_ | refine qao rfl ?_ | refine qaf rfl rfl hg rfl ?_ | refine qab rfl rfl (qbr H c1) ?_ | refine qab rfl rfl (qbr H c2) ?_ | refine qab rfl rfl (qbr H c3) ?_ | refine qab rfl rfl (qbr H c4) ?_ | refine qah (v := .bool _) rfl rfl ?_))
     exact ⟨_, ResV.tmp rfl, rfl, hx, by rw [sizesM, decide_eq_true (by omega)]; rfl, rfl⟩
    ·
     repeat (first | refine W.w ?_ | (refine zz rfl ?_; first | refine qae rfl ?_ | refine qaa rfl ?_ | refine qao rfl ?_ | refine qaf rfl rfl hg rfl ?_ | refine qab rfl rfl (qbr H c1) ?_ | refine qab rfl rfl (qbr H c2) ?_ | refine qab rfl rfl (qbr H c3) ?_ | refine qab rfl rfl (qcb H c4) ?_ | refine qah (v := .bool _) rfl rfl ?_))
     exact ⟨_, ResV.tmp rfl, rfl, hx, by rw [sizesM, decide_eq_false (by omega)]; rfl, rfl⟩
   ·
    repeat (first | refine W.w ?_ | refine AL.skip rfl rfl ?_ | (refine zz rfl ?_; first | refine qae rfl ?_ | refine qaa rfl ?_ | refine qao rfl ?_ | refine qaf rfl rfl hg rfl ?_ | refine qab rfl rfl (qbr H c1) ?_ | refine qab rfl rfl (qbr H c2) ?_ | refine qab rfl rfl (qcb H c3) ?_ | refine qah (v := .bool _) rfl rfl ?_))
    exact ⟨_, ResV.tmp rfl, rfl, hx, by rw [sizesM, decide_eq_false (by omega)]; rfl, rfl⟩
  ·
   repeat (first | refine W.w ?_ | refine AL.skip rfl rfl ?_ | (refine zz rfl ?_; first | refine qae rfl ?_ | refine qaa rfl ?_ | refine qao rfl ?_ | refine qaf rfl rfl hg rfl ?_ | refine qab rfl rfl (qbr H c1) ?_ | refine qab rfl rfl (qcb H c2) ?_ | refine qah (v := .bool _) rfl rfl ?_))
   exact ⟨_, ResV.tmp rfl, rfl, hx, by rw [sizesM, decide_eq_false (by omega)]; rfl, rfl⟩
 ·
  repeat (first | refine W.w ?_ | refine AL.skip rfl rfl ?_ | (refine zz rfl ?_; first | refine qae rfl ?_ | refine qaa rfl ?_ | refine qao rfl ?_ | refine qaf rfl rfl hg rfl ?_ | refine qab rfl rfl (qcb H c1) ?_ | refine qah (v := .bool _) rfl rfl ?_))
  exact ⟨_, ResV.tmp rfl, rfl, hx, by rw [sizesM, decide_eq_false (by omega)]; rfl, rfl⟩
instance i_TyD_api_AskKind : TyD Tryz.prog 26 (.int .i64) := ⟨Tryz.underlying26⟩
instance i_TyI_api_AskKind : TyI Tryz.prog 26 1 8 (.int .i64 0) := ⟨qaT (by kernel_rfl), rfl, rfl⟩
instance i_TyD_api_Ask : TyD Tryz.prog 29 (.struct #[fd "Kind" 26 0 "" 0, fd "Key" 27 1 "" 8, fd "To" 27 2 "" 32, fd "Value" 27 3 "" 56, fd "Was" 27 4 "" 80, fd "None" 4 5 "" 104, fd "Most" 3 6 "" 112]) := ⟨Tryz.underlying29⟩
instance i_TyI_api_Ask : TyI Tryz.prog 29 7 120 (.agg #[.int .i64 0, .slice none 0 0, .slice none 0 0, .slice none 0 0, .slice none 0 0, .bool false, .int .i64 0]) := ⟨qaT (by kernel_rfl), rfl, rfl⟩
instance i_FAd_api_Ask_0_0 : FAd Tryz.prog 29 0 0 := FAd.mk' (ft := 26) Tryz.underlying29 rfl rfl rfl rfl
instance i_FAd_api_Ask_1_1 : FAd Tryz.prog 29 1 1 := FAd.mk' (ft := 27) Tryz.underlying29 rfl rfl rfl rfl
instance i_FAd_api_Ask_2_2 : FAd Tryz.prog 29 2 2 := FAd.mk' (ft := 27) Tryz.underlying29 rfl rfl rfl rfl
instance i_FAd_api_Ask_3_3 : FAd Tryz.prog 29 3 3 := FAd.mk' (ft := 27) Tryz.underlying29 rfl rfl rfl rfl
instance i_FAd_api_Ask_4_4 : FAd Tryz.prog 29 4 4 := FAd.mk' (ft := 27) Tryz.underlying29 rfl rfl rfl rfl
instance i_FAd_api_Ask_5_5 : FAd Tryz.prog 29 5 5 := FAd.mk' (ft := 4) Tryz.underlying29 rfl rfl rfl rfl
instance i_FAd_api_Ask_6_6 : FAd Tryz.prog 29 6 6 := FAd.mk' (ft := 3) Tryz.underlying29 rfl rfl rfl rfl
instance i_FnC_bytes_Equal : FnC Tryz.prog 143 := ⟨Tryz.f143, Tryz.func143, by kernel_rfl, by kernel_rfl⟩
theorem qeS {ρ : Operand → Value} {h : Heap} {K : Value → Heap → Prop} {dst : Option Tmp} {ty : TypeId} {pos : String} {aft : Array Edge} {g : Option (Nat × Bool)} {t t' : TypeId} {x y : Operand} {a b : Bool} [ti : TyD Tryz.prog t .bool] (hx : ρ x = .bool a) (hy : ρ y = .bool b) (he : ¬ a = b) (kk : K (.bool false) h) : AOp Tryz.prog ⟨dst, .binOp .eql t x y t', ty, pos, aft, g⟩ ρ h K :=
 qd7 hx hy (by rw [beq_eq_false_iff_ne.2 he]; exact kk)
structure AskV where
 k : Value
 t : Value
 v : Value
 w : Value
def askC (q : AskV) (a : AskM) : List Value := [.int .i64 a.kind, q.k, q.t, q.v, q.w, .bool a.none, .int .i64 a.most]
structure AskR (h : Heap) (q : AskV) (a : AskM) : Prop where
 k : RB h q.k a.key
 t : RB h q.t a.to
 v : RB h q.v a.value
 w : RB h q.w a.was
theorem AskR.ext {h h' : Heap} {q : AskV} {a : AskM} (r : AskR h q a) (hx : Ext h h') : AskR h' q a := ⟨r.k.ext hx, r.t.ext hx, r.v.ext hx, r.w.ext hx⟩
theorem qb2 {u v : Value} {a b : Bytes} {h : Heap} (ra : RB h u a) (rb : RB h v b) (e : a = b) : ACalls Tryz.prog 143 [u, v] h fun x h' => x = .bool true ∧ h' = h := by
 have := qcm u v a b h ra rb
 rwa [show (a == b) = true from beq_iff_eq.2 e] at this
theorem beq_n {u v : Value} {a b : Bytes} {h : Heap} (ra : RB h u a) (rb : RB h v b) (e : ¬ a = b) : ACalls Tryz.prog 143 [u, v] h fun x h' => x = .bool false ∧ h' = h := by
 have := qcm u v a b h ra rb
 rwa [show (a == b) = false from beq_eq_false_iff_ne.2 e] at this
theorem ask_ext {a b : AskM} (h1 : a.kind = b.kind) (h2 : a.key = b.key) (h3 : a.to = b.to) (h4 : a.value = b.value) (h5 : a.was = b.was) (h6 : a.none = b.none) (h7 : a.most = b.most) : a = b := by
 cases a; cases b; simp_all
theorem qgv (p q : AskV) (a b : AskM) (h : Heap) (ra : AskR h p a) (rb : AskR h q b) : ACalls Tryz.prog 111 [.agg (askC p a).toArray, .agg (askC q b).toArray] h fun u h' => u = .bool (decide (a = b)) ∧ h' = h := by
 refine ACalls.wf fun wf => ACalls.reset ?_
 refine ACalls.body Tryz.func111 rfl rfl ?_
 repeat (first | refine W.w ?_ | refine zz rfl (qaa rfl ?_) | refine zz rfl (qaV rfl (by intro e; cases e) ?_))
 generalize hH : h.alloc _ = H1
 have hg0 : H1.get h.next = some ⟨askC p a, 29, true⟩ := hH ▸ Heap.alloc_new _ _
 have hx1 : Ext h H1 := hH ▸ wf.ext _
 have wf1 : WF H1 := hH ▸ wf.alloc _
 have ra1 := ra.ext hx1
 skip
 generalize hH2 : H1.alloc _ = H
 have hg2 : H.get H1.next = some ⟨askC q b, 29, true⟩ := hH2 ▸ Heap.alloc_new _ _
 have hx2 : Ext H1 H := hH2 ▸ wf1.ext _
 have hg1 : H.get h.next = some ⟨askC p a, 29, true⟩ := hx2.c _ _ hg0
 have hx : Ext h H := ⟨fun i o e => hx2.c i o (hx1.c i o e), fun i o e => hx2.o i o (hx1.o i o e)⟩
 have ra2 := ra.ext hx
 have rb2 := rb.ext hx
 by_cases c_key : a.key = b.key
 ·
  by_cases c_to : a.to = b.to
  ·
   by_cases c_value : a.value = b.value
   ·
    by_cases c_was : a.was = b.was
    ·
     by_cases c_kind : a.kind = b.kind
     ·
      by_cases c_none : a.none = b.none
      ·
       by_cases c_most : a.most = b.most
       ·
        repeat (first | refine W.w ?_ | (refine zz rfl ?_; first | refine qae rfl ?_ | refine qaa rfl ?_ | refine qao rfl ?_ | refine qaf rfl rfl hg1 rfl ?_ | refine qaf rfl rfl hg2 rfl ?_ | refine qab rfl rfl (qb2 ra2.k rb2.k c_key) ?_ | refine qab rfl rfl (qb2 ra2.t rb2.t c_to) ?_ | refine qab rfl rfl (qb2 ra2.v rb2.v c_value) ?_ | refine qab rfl rfl (qb2 ra2.w rb2.w c_was) ?_ | refine qam rfl rfl rfl c_kind ?_ | refine qb6 rfl rfl c_none ?_ | refine qam rfl rfl rfl c_most ?_ | refine qah (v := .bool _) rfl rfl ?_))
        exact ⟨_, ResV.tmp rfl, rfl, hx, by rw [decide_eq_true (ask_ext c_kind c_key c_to c_value c_was c_none c_most)]; rfl, rfl⟩
       ·
        repeat (first | refine W.w ?_ | (refine zz rfl ?_; first | refine qae rfl ?_ | refine qaa rfl ?_ | refine qao rfl ?_ | refine qaf rfl rfl hg1 rfl ?_ | refine qaf rfl rfl hg2 rfl ?_ | refine qab rfl rfl (qb2 ra2.k rb2.k c_key) ?_ | refine qab rfl rfl (qb2 ra2.t rb2.t c_to) ?_ | refine qab rfl rfl (qb2 ra2.v rb2.v c_value) ?_ | refine qab rfl rfl (qb2 ra2.w rb2.w c_was) ?_ | refine qam rfl rfl rfl c_kind ?_ | refine qb6 rfl rfl c_none ?_ | refine qak rfl rfl rfl c_most ?_ | refine qah (v := .bool _) rfl rfl ?_))
        exact ⟨_, ResV.tmp rfl, rfl, hx, by rw [decide_eq_false fun e => c_most (congrArg AskM.most e)]; rfl, rfl⟩
      ·
       repeat (first | refine W.w ?_ | refine AL.skip rfl rfl ?_ | (refine zz rfl ?_; first | refine qae rfl ?_ | refine qaa rfl ?_ | refine qao rfl ?_ | refine qaf rfl rfl hg1 rfl ?_ | refine qaf rfl rfl hg2 rfl ?_ | refine qab rfl rfl (qb2 ra2.k rb2.k c_key) ?_ | refine qab rfl rfl (qb2 ra2.t rb2.t c_to) ?_ | refine qab rfl rfl (qb2 ra2.v rb2.v c_value) ?_ | refine qab rfl rfl (qb2 ra2.w rb2.w c_was) ?_ | refine qam rfl rfl rfl c_kind ?_ | refine qeS rfl rfl c_none ?_ | refine qah (v := .bool _) rfl rfl ?_))
       exact ⟨_, ResV.tmp rfl, rfl, hx, by rw [decide_eq_false fun e => c_none (congrArg AskM.none e)]; rfl, rfl⟩
     ·
      repeat (first | refine W.w ?_ | refine AL.skip rfl rfl ?_ | (refine zz rfl ?_; first | refine qae rfl ?_ | refine qaa rfl ?_ | refine qao rfl ?_ | refine qaf rfl rfl hg1 rfl ?_ | refine qaf rfl rfl hg2 rfl ?_ | refine qab rfl rfl (qb2 ra2.k rb2.k c_key) ?_ | refine qab rfl rfl (qb2 ra2.t rb2.t c_to) ?_ | refine qab rfl rfl (qb2 ra2.v rb2.v c_value) ?_ | refine qab rfl rfl (qb2 ra2.w rb2.w c_was) ?_ | refine qak rfl rfl rfl c_kind ?_ | refine qah (v := .bool _) rfl rfl ?_))
      exact ⟨_, ResV.tmp rfl, rfl, hx, by rw [decide_eq_false fun e => c_kind (congrArg AskM.kind e)]; rfl, rfl⟩
    ·
     repeat (first | refine W.w ?_ | refine AL.skip rfl rfl ?_ | (refine zz rfl ?_; first | refine qae rfl ?_ | refine qaa rfl ?_ | refine qao rfl ?_ | refine qaf rfl rfl hg1 rfl ?_ | refine qaf rfl rfl hg2 rfl ?_ | refine qab rfl rfl (qb2 ra2.k rb2.k c_key) ?_ | refine qab rfl rfl (qb2 ra2.t rb2.t c_to) ?_ | refine qab rfl rfl (qb2 ra2.v rb2.v c_value) ?_ | refine qab rfl rfl (beq_n ra2.w rb2.w c_was) ?_ | refine qah (v := .bool _) rfl rfl ?_))
     exact ⟨_, ResV.tmp rfl, rfl, hx, by rw [decide_eq_false fun e => c_was (congrArg AskM.was e)]; rfl, rfl⟩
   ·
    repeat (first | refine W.w ?_ | refine AL.skip rfl rfl ?_ | (refine zz rfl ?_; first | refine qae rfl ?_ | refine qaa rfl ?_ | refine qao rfl ?_ | refine qaf rfl rfl hg1 rfl ?_ | refine qaf rfl rfl hg2 rfl ?_ | refine qab rfl rfl (qb2 ra2.k rb2.k c_key) ?_ | refine qab rfl rfl (qb2 ra2.t rb2.t c_to) ?_ | refine qab rfl rfl (beq_n ra2.v rb2.v c_value) ?_ | refine qah (v := .bool _) rfl rfl ?_))
    exact ⟨_, ResV.tmp rfl, rfl, hx, by rw [decide_eq_false fun e => c_value (congrArg AskM.value e)]; rfl, rfl⟩
  ·
   repeat (first | refine W.w ?_ | refine AL.skip rfl rfl ?_ | (refine zz rfl ?_; first | refine qae rfl ?_ | refine qaa rfl ?_ | refine qao rfl ?_ | refine qaf rfl rfl hg1 rfl ?_ | refine qaf rfl rfl hg2 rfl ?_ | refine qab rfl rfl (qb2 ra2.k rb2.k c_key) ?_ | refine qab rfl rfl (beq_n ra2.t rb2.t c_to) ?_ | refine qah (v := .bool _) rfl rfl ?_))
   exact ⟨_, ResV.tmp rfl, rfl, hx, by rw [decide_eq_false fun e => c_to (congrArg AskM.to e)]; rfl, rfl⟩
 ·
  repeat (first | refine W.w ?_ | refine AL.skip rfl rfl ?_ | (refine zz rfl ?_; first | refine qae rfl ?_ | refine qaa rfl ?_ | refine qao rfl ?_ | refine qaf rfl rfl hg1 rfl ?_ | refine qaf rfl rfl hg2 rfl ?_ | refine qab rfl rfl (beq_n ra2.k rb2.k c_key) ?_ | refine qah (v := .bool _) rfl rfl ?_))
  exact ⟨_, ResV.tmp rfl, rfl, hx, by rw [decide_eq_false fun e => c_key (congrArg AskM.key e)]; rfl, rfl⟩
instance i_TyD_int64 : TyD Tryz.prog 2 (.int .i64) := ⟨Tryz.underlying2⟩
instance i_TyI_int64 : TyI Tryz.prog 2 1 8 (.int .i64 0) := ⟨qaT (by kernel_rfl), rfl, rfl⟩
instance i_TyD_api_CmdKind : TyD Tryz.prog 30 (.int .i64) := ⟨Tryz.underlying30⟩
instance i_TyI_api_CmdKind : TyI Tryz.prog 30 1 8 (.int .i64 0) := ⟨qaT (by kernel_rfl), rfl, rfl⟩
instance i_TyD_api_Kind : TyD Tryz.prog 169 (.int .i64) := ⟨Tryz.underlying169⟩
instance i_TyI_api_Kind : TyI Tryz.prog 169 1 8 (.int .i64 0) := ⟨qaT (by kernel_rfl), rfl, rfl⟩
instance i_TyD_api_ActKind : TyD Tryz.prog 25 (.int .i64) := ⟨Tryz.underlying25⟩
instance i_TyI_api_ActKind : TyI Tryz.prog 25 1 8 (.int .i64 0) := ⟨qaT (by kernel_rfl), rfl, rfl⟩
instance i_TyD_api_Errno : TyD Tryz.prog 48 (.int .i64) := ⟨Tryz.underlying48⟩
instance i_TyI_api_Errno : TyI Tryz.prog 48 1 8 (.int .i64 0) := ⟨qaT (by kernel_rfl), rfl, rfl⟩
instance i_TyD_api_Request : TyD Tryz.prog 32 (.struct #[fd "Client" 3 0 "" 0, fd "Number" 2 1 "" 8, fd "Ask" 29 2 "" 16]) := ⟨Tryz.underlying32⟩
instance i_TyI_api_Request : TyI Tryz.prog 32 9 136 (.agg #[.int .i64 0, .int .i64 0, .int .i64 0, .slice none 0 0, .slice none 0 0, .slice none 0 0, .slice none 0 0, .bool false, .int .i64 0]) := ⟨qaT (by kernel_rfl), rfl, rfl⟩
instance qfY : FAd Tryz.prog 32 0 0 := FAd.mk' (ft := 3) Tryz.underlying32 rfl rfl rfl rfl
instance qgc : FAd Tryz.prog 32 1 1 := FAd.mk' (ft := 2) Tryz.underlying32 rfl rfl rfl rfl
instance qf1 : FAd Tryz.prog 32 2 2 := FAd.mk' (ft := 29) Tryz.underlying32 rfl rfl rfl rfl
instance i_TyD_api_Move : TyD Tryz.prog 34 (.struct #[fd "Number" 2 0 "" 0, fd "From" 27 1 "" 8, fd "To" 27 2 "" 32, fd "End" 4 3 "" 56, fd "Old" 3 4 "" 64, fd "New" 3 5 "" 72]) := ⟨Tryz.underlying34⟩
instance i_TyI_api_Move : TyI Tryz.prog 34 6 80 (.agg #[.int .i64 0, .slice none 0 0, .slice none 0 0, .bool false, .int .i64 0, .int .i64 0]) := ⟨qaT (by kernel_rfl), rfl, rfl⟩
instance qic : FAd Tryz.prog 34 0 0 := FAd.mk' (ft := 2) Tryz.underlying34 rfl rfl rfl rfl
instance qhx : FAd Tryz.prog 34 1 1 := FAd.mk' (ft := 27) Tryz.underlying34 rfl rfl rfl rfl
instance qh8 : FAd Tryz.prog 34 2 2 := FAd.mk' (ft := 27) Tryz.underlying34 rfl rfl rfl rfl
instance qh7 : FAd Tryz.prog 34 3 3 := FAd.mk' (ft := 4) Tryz.underlying34 rfl rfl rfl rfl
instance qhq : FAd Tryz.prog 34 4 4 := FAd.mk' (ft := 3) Tryz.underlying34 rfl rfl rfl rfl
instance qib : FAd Tryz.prog 34 5 5 := FAd.mk' (ft := 3) Tryz.underlying34 rfl rfl rfl rfl
instance i_TyD_api_Entry : TyD Tryz.prog 171 (.struct #[fd "Key" 27 0 "" 0, fd "Seq" 2 1 "" 24, fd "Kind" 169 2 "" 32, fd "Value" 27 3 "" 40]) := ⟨Tryz.underlying171⟩
instance i_TyI_api_Entry : TyI Tryz.prog 171 4 64 (.agg #[.slice none 0 0, .int .i64 0, .int .i64 0, .slice none 0 0]) := ⟨qaT (by kernel_rfl), rfl, rfl⟩
instance qgG : FAd Tryz.prog 171 0 0 := FAd.mk' (ft := 27) Tryz.underlying171 rfl rfl rfl rfl
instance qgH : FAd Tryz.prog 171 1 1 := FAd.mk' (ft := 2) Tryz.underlying171 rfl rfl rfl rfl
instance qgF : FAd Tryz.prog 171 2 2 := FAd.mk' (ft := 169) Tryz.underlying171 rfl rfl rfl rfl
instance qg9 : FAd Tryz.prog 171 3 3 := FAd.mk' (ft := 27) Tryz.underlying171 rfl rfl rfl rfl
instance qid : TyD Tryz.prog 35 (.slice 171) := ⟨Tryz.underlying35⟩
instance qhC : TyI Tryz.prog 35 1 24 (.slice none 0 0) := ⟨qaT (by kernel_rfl), rfl, rfl⟩
instance i_TyD_api_Command : TyD Tryz.prog 37 (.struct #[fd "Kind" 30 0 "" 0, fd "Request" 32 1 "" 8, fd "Move" 34 10 "" 144, fd "Entries" 35 16 "" 224, fd "Answers" 27 17 "" 248, fd "Key" 27 18 "" 272, fd "Group" 3 19 "" 296]) := ⟨Tryz.underlying37⟩
instance i_TyI_api_Command : TyI Tryz.prog 37 20 304 (.agg #[.int .i64 0, .int .i64 0, .int .i64 0, .int .i64 0, .slice none 0 0, .slice none 0 0, .slice none 0 0, .slice none 0 0, .bool false, .int .i64 0, .int .i64 0, .slice none 0 0, .slice none 0 0, .bool false, .int .i64 0, .int .i64 0, .slice none 0 0, .slice none 0 0, .slice none 0 0, .int .i64 0]) := ⟨qaT (by kernel_rfl), rfl, rfl⟩
instance i_StD_api_Command : StD Tryz.prog 37 [(0, 1), (1, 9), (10, 6), (16, 1), (17, 1), (18, 1), (19, 1)] := ⟨_, Tryz.underlying37, by kernel_rfl⟩
instance qfM : FAd Tryz.prog 37 0 0 := FAd.mk' (ft := 30) Tryz.underlying37 rfl rfl rfl rfl
instance qfX : FAd Tryz.prog 37 1 1 := FAd.mk' (ft := 32) Tryz.underlying37 rfl rfl rfl rfl
instance qfB : FAd Tryz.prog 37 2 10 := FAd.mk' (ft := 34) Tryz.underlying37 rfl rfl rfl rfl
instance qfw : FAd Tryz.prog 37 3 16 := FAd.mk' (ft := 35) Tryz.underlying37 rfl rfl rfl rfl
instance qfD : FAd Tryz.prog 37 4 17 := FAd.mk' (ft := 27) Tryz.underlying37 rfl rfl rfl rfl
instance qfy : FAd Tryz.prog 37 5 18 := FAd.mk' (ft := 27) Tryz.underlying37 rfl rfl rfl rfl
instance qfC : FAd Tryz.prog 37 6 19 := FAd.mk' (ft := 3) Tryz.underlying37 rfl rfl rfl rfl
instance i_TyD_api_Kept : TyD Tryz.prog 79 (.struct #[fd "Name" 9 0 "" 0, fd "Loose" 3 1 "" 16]) := ⟨Tryz.underlying79⟩
instance i_TyI_api_Kept : TyI Tryz.prog 79 2 24 (.agg #[.string ⟨#[]⟩, .int .i64 0]) := ⟨qaT (by kernel_rfl), rfl, rfl⟩
instance i_StD_api_Kept : StD Tryz.prog 79 [(0, 1), (1, 1)] := ⟨_, Tryz.underlying79, by kernel_rfl⟩
instance qhs : FAd Tryz.prog 79 0 0 := FAd.mk' (ft := 9) Tryz.underlying79 rfl rfl rfl rfl
instance qhw : FAd Tryz.prog 79 1 1 := FAd.mk' (ft := 3) Tryz.underlying79 rfl rfl rfl rfl
instance i_TyD_Sl_api_Kept : TyD Tryz.prog 38 (.slice 79) := ⟨Tryz.underlying38⟩
instance i_TyI_Sl_api_Kept : TyI Tryz.prog 38 1 24 (.slice none 0 0) := ⟨qaT (by kernel_rfl), rfl, rfl⟩
instance i_TyD_api_Act : TyD Tryz.prog 40 (.struct #[fd "Kind" 25 0 "" 0, fd "Node" 3 1 "" 8, fd "Group" 3 2 "" 16, fd "Client" 3 3 "" 24, fd "N" 3 4 "" 32, fd "Ask" 29 5 "" 40, fd "Command" 37 12 "" 160, fd "Keep" 38 32 "" 464]) := ⟨Tryz.underlying40⟩
instance i_TyI_api_Act : TyI Tryz.prog 40 33 488 (.agg #[.int .i64 0, .int .i64 0, .int .i64 0, .int .i64 0, .int .i64 0, .int .i64 0, .slice none 0 0, .slice none 0 0, .slice none 0 0, .slice none 0 0, .bool false, .int .i64 0, .int .i64 0, .int .i64 0, .int .i64 0, .int .i64 0, .slice none 0 0, .slice none 0 0, .slice none 0 0, .slice none 0 0, .bool false, .int .i64 0, .int .i64 0, .slice none 0 0, .slice none 0 0, .bool false, .int .i64 0, .int .i64 0, .slice none 0 0, .slice none 0 0, .slice none 0 0, .int .i64 0, .slice none 0 0]) := ⟨qaT (by kernel_rfl), rfl, rfl⟩
instance i_StD_api_Act : StD Tryz.prog 40 [(0, 1), (1, 1), (2, 1), (3, 1), (4, 1), (5, 7), (12, 20), (32, 1)] := ⟨_, Tryz.underlying40, by kernel_rfl⟩
instance i_FAd_api_Act_0_0 : FAd Tryz.prog 40 0 0 := FAd.mk' (ft := 25) Tryz.underlying40 rfl rfl rfl rfl
instance i_FAd_api_Act_1_1 : FAd Tryz.prog 40 1 1 := FAd.mk' (ft := 3) Tryz.underlying40 rfl rfl rfl rfl
instance i_FAd_api_Act_2_2 : FAd Tryz.prog 40 2 2 := FAd.mk' (ft := 3) Tryz.underlying40 rfl rfl rfl rfl
instance i_FAd_api_Act_3_3 : FAd Tryz.prog 40 3 3 := FAd.mk' (ft := 3) Tryz.underlying40 rfl rfl rfl rfl
instance i_FAd_api_Act_4_4 : FAd Tryz.prog 40 4 4 := FAd.mk' (ft := 3) Tryz.underlying40 rfl rfl rfl rfl
instance i_FAd_api_Act_5_5 : FAd Tryz.prog 40 5 5 := FAd.mk' (ft := 29) Tryz.underlying40 rfl rfl rfl rfl
instance qhT : FAd Tryz.prog 40 6 12 := FAd.mk' (ft := 37) Tryz.underlying40 rfl rfl rfl rfl
instance qh4 : FAd Tryz.prog 40 7 32 := FAd.mk' (ft := 38) Tryz.underlying40 rfl rfl rfl rfl
instance i_TyD_Sl_api_Act : TyD Tryz.prog 42 (.slice 40) := ⟨Tryz.underlying42⟩
instance i_TyI_Sl_api_Act : TyI Tryz.prog 42 1 24 (.slice none 0 0) := ⟨qaT (by kernel_rfl), rfl, rfl⟩
structure MoveV where
 f : Value
 t : Value
structure CmdV where
 r : AskV
 m : MoveV
 e : Value
 n : Value
 k : Value
structure ActV where
 q : AskV
 c : CmdV
 k : Value
def moveC (q : MoveV) (m : MoveM) : List Value := [.int .i64 m.number, q.f, q.t, .bool m.end_, .int .i64 m.old, .int .i64 m.new]
def cmdC (q : CmdV) (c : CmdM) : List Value := [.int .i64 c.kind, .int .i64 c.req.client, .int .i64 c.req.number, .int .i64 c.req.ask.kind, q.r.k, q.r.t, q.r.v, q.r.w, .bool c.req.ask.none, .int .i64 c.req.ask.most,
 .int .i64 c.move.number, q.m.f, q.m.t, .bool c.move.end_, .int .i64 c.move.old, .int .i64 c.move.new, q.e, q.n, q.k, .int .i64 c.group]
def actC (q : ActV) (a : ActM) : List Value := [.int .i64 a.kind, .int .i64 a.node, .int .i64 a.group, .int .i64 a.client, .int .i64 a.n, .int .i64 a.ask.kind, q.q.k, q.q.t, q.q.v, q.q.w, .bool a.ask.none, .int .i64 a.ask.most,
 .int .i64 a.cmd.kind, .int .i64 a.cmd.req.client, .int .i64 a.cmd.req.number, .int .i64 a.cmd.req.ask.kind, q.c.r.k, q.c.r.t, q.c.r.v, q.c.r.w, .bool a.cmd.req.ask.none, .int .i64 a.cmd.req.ask.most,
 .int .i64 a.cmd.move.number, q.c.m.f, q.c.m.t, .bool a.cmd.move.end_, .int .i64 a.cmd.move.old, .int .i64 a.cmd.move.new, q.c.e, q.c.n, q.c.k, .int .i64 a.cmd.group, q.k]
structure MoveR (h : Heap) (q : MoveV) (m : MoveM) : Prop where
 f : RB h q.f m.from_
 t : RB h q.t m.to
def EntR (h : Heap) (row : List Value) (e : EntM) : Prop := ∃ kv vv, row = [kv, .int .i64 e.seq, .int .i64 e.kind, vv] ∧ RB h kv e.key ∧ RB h vv e.value
structure RE (h : Heap) (v : Value) (l : List EntM) : Prop where
 ex : ∃ rows, RN 4 h v rows ∧ rows.length = l.length ∧ ∀ (k : Nat) row e, rows[k]? = some row → l[k]? = some e → EntR h row e
 len : l.length ≤ 140737488351232
def keptR (x : Bytes × Int) : List Value := [str x.1, .int .i64 x.2]
structure RK (h : Heap) (v : Value) (l : List (Bytes × Int)) : Prop where
 rn : RN 2 h v (l.map keptR)
 len : l.length ≤ 140737488351232
structure CmdR (h : Heap) (q : CmdV) (c : CmdM) : Prop where
 r : AskR h q.r c.req.ask
 m : MoveR h q.m c.move
 e : RE h q.e c.entries
 n : RB h q.n c.answers
 k : RB h q.k c.key
structure ActR (h : Heap) (q : ActV) (a : ActM) : Prop where
 ra : AskR h q.q a.ask
 rc : CmdR h q.c a.cmd
 rk : RK h q.k a.keep
theorem MoveR.ext {h h' : Heap} {q : MoveV} {a : MoveM} (r : MoveR h q a) (hx : Ext h h') : MoveR h' q a := ⟨r.f.ext hx, r.t.ext hx⟩
theorem EntR.ext {h h' : Heap} {row : List Value} {e : EntM} (r : EntR h row e) (hx : Ext h h') : EntR h' row e := by
 obtain ⟨kv, vv, h1, h2, h3⟩ := r
 exact ⟨kv, vv, h1, h2.ext hx, h3.ext hx⟩
theorem RE.ext {h h' : Heap} {v : Value} {l : List EntM} (r : RE h v l) (hx : Ext h h') : RE h' v l := by
 obtain ⟨rows, h1, h2, h3⟩ := r.ex
 exact ⟨⟨rows, h1.ext hx, h2, fun k row e hr he => (h3 k row e hr he).ext hx⟩, r.len⟩
theorem RK.ext {h h' : Heap} {v : Value} {l : List (Bytes × Int)} (r : RK h v l) (hx : Ext h h') : RK h' v l := ⟨r.rn.ext hx, r.len⟩
theorem CmdR.ext {h h' : Heap} {q : CmdV} {a : CmdM} (r : CmdR h q a) (hx : Ext h h') : CmdR h' q a := ⟨r.r.ext hx, r.m.ext hx, r.e.ext hx, r.n.ext hx, r.k.ext hx⟩
theorem ActR.ext {h h' : Heap} {q : ActV} {a : ActM} (r : ActR h q a) (hx : Ext h h') : ActR h' q a := ⟨r.ra.ext hx, r.rc.ext hx, r.rk.ext hx⟩
theorem RE.nil (h : Heap) : RE h (.slice none 0 0) [] := ⟨⟨[], RN.nil _ _, rfl, fun k row e hr => by simp at hr⟩, Nat.zero_le _⟩
theorem RK.nil (h : Heap) : RK h (.slice none 0 0) [] := ⟨RN.nil _ _, Nat.zero_le _⟩
def askV0 : AskV := ⟨.slice none 0 0, .slice none 0 0, .slice none 0 0, .slice none 0 0⟩
def cmdV0 : CmdV := ⟨askV0, ⟨.slice none 0 0, .slice none 0 0⟩, .slice none 0 0, .slice none 0 0, .slice none 0 0⟩
def actV0 : ActV := ⟨askV0, cmdV0, .slice none 0 0⟩
theorem AskR.nil (h : Heap) : AskR h askV0 ask0 := ⟨RB.nil h, RB.nil h, RB.nil h, RB.nil h⟩
theorem CmdR.nil (h : Heap) : CmdR h cmdV0 cmd0 := ⟨AskR.nil h, ⟨RB.nil h, RB.nil h⟩, RE.nil h, RB.nil h, RB.nil h⟩
theorem ActR.nil (h : Heap) : ActR h actV0 act0 := ⟨AskR.nil h, CmdR.nil h, RK.nil h⟩
instance qfq : FnC Tryz.prog 145 := ⟨Tryz.f145, Tryz.func145, by kernel_rfl, by kernel_rfl⟩
instance qdj : FnC Tryz.prog 146 := ⟨Tryz.f146, Tryz.func146, by kernel_rfl, by kernel_rfl⟩
instance qdx : FnC Tryz.prog 111 := ⟨Tryz.f111, Tryz.func111, by kernel_rfl, by kernel_rfl⟩
theorem qhO {a b : MoveM} : a = b ↔ a.number = b.number ∧ a.from_ = b.from_ ∧ a.to = b.to ∧ a.end_ = b.end_ ∧ a.old = b.old ∧ a.new = b.new := by
 cases a; cases b; simp
theorem ent_ext {a b : EntM} : a = b ↔ a.key = b.key ∧ a.seq = b.seq ∧ a.kind = b.kind ∧ a.value = b.value := by
 cases a; cases b; simp
theorem cmd_ext {a b : CmdM} : a = b ↔ a.kind = b.kind ∧ a.req.client = b.req.client ∧ a.req.number = b.req.number ∧ a.req.ask = b.req.ask ∧ a.move = b.move ∧ a.entries = b.entries ∧ a.answers = b.answers ∧ a.key = b.key ∧ a.group = b.group := by
 obtain ⟨_, ⟨_, _, _⟩, _, _, _, _, _⟩ := a
 obtain ⟨_, ⟨_, _, _⟩, _, _, _, _, _⟩ := b
 simp [and_assoc]
theorem act_ext {a b : ActM} : a = b ↔ a.kind = b.kind ∧ a.node = b.node ∧ a.group = b.group ∧ a.client = b.client ∧ a.n = b.n ∧ a.ask = b.ask ∧ a.cmd = b.cmd ∧ a.keep = b.keep := by
 cases a; cases b; simp
theorem sameMove_c (p q : MoveV) (a b : MoveM) (h : Heap) (ra : MoveR h p a) (rb : MoveR h q b) : ACalls Tryz.prog 146 [.agg (moveC p a).toArray, .agg (moveC q b).toArray] h fun u h' => u = .bool (decide (a = b)) ∧ h' = h := by
 refine ACalls.wf fun wf => ACalls.reset ?_
 refine ACalls.body Tryz.func146 rfl rfl ?_
 repeat (first | refine W.w ?_ | refine zz rfl (qaa rfl ?_) | refine zz rfl (qaV rfl (by intro e; cases e) ?_))
 generalize hH : h.alloc _ = H1
 have hg0 : H1.get h.next = some ⟨moveC p a, 34, true⟩ := hH ▸ Heap.alloc_new _ _
 have hx1 : Ext h H1 := hH ▸ wf.ext _
 have wf1 : WF H1 := hH ▸ wf.alloc _
 skip
 generalize hH2 : H1.alloc _ = H
 have hg2 : H.get H1.next = some ⟨moveC q b, 34, true⟩ := hH2 ▸ Heap.alloc_new _ _
 have hx2 : Ext H1 H := hH2 ▸ wf1.ext _
 have hg1 : H.get h.next = some ⟨moveC p a, 34, true⟩ := hx2.c _ _ hg0
 have hx : Ext h H := hx1.trans hx2
 clear hH hH2
 obtain ⟨a1, a2⟩ := ra.ext hx
 obtain ⟨b1, b2⟩ := rb.ext hx
 repeat' (first | refine W.w ?_ | refine AL.skip rfl rfl ?_ | (refine zz rfl ?_; first | refine qae rfl ?_ | refine qaa rfl ?_ | refine qao rfl ?_ | refine qaf rfl rfl hg1 rfl ?_ | refine qaf rfl rfl hg2 rfl ?_ | refine qaR rfl rfl (qcm _ _ _ _ _ (by assumption) (by assumption)) (fun c => ?_) (fun c => ?_) | refine qeV rfl rfl (fun c => ?_) (fun c => ?_) | refine qaQ rfl rfl rfl (fun c => ?_) (fun c => ?_) | refine qah (v := .bool _) rfl rfl ?_))
 all_goals refine ⟨_, ResV.tmp rfl, rfl, hx, congrArg Value.bool ?_, rfl⟩
 all_goals grind [qhO]
def entC (kv vv : Value) (e : EntM) : List Value := [kv, .int .i64 e.seq, .int .i64 e.kind, vv]
theorem sameEnt_c (k1 v1 k2 v2 : Value) (a b : EntM) (h : Heap) (ra1 : RB h k1 a.key) (ra2 : RB h v1 a.value) (rb1 : RB h k2 b.key) (rb2 : RB h v2 b.value) : ACalls Tryz.prog 145 [.agg (entC k1 v1 a).toArray, .agg (entC k2 v2 b).toArray] h fun u h' => u = .bool (decide (a = b)) ∧ h' = h := by
 refine ACalls.wf fun wf => ACalls.reset ?_
 refine ACalls.body Tryz.func145 rfl rfl ?_
 repeat (first | refine W.w ?_ | refine zz rfl (qaa rfl ?_) | refine zz rfl (qaV rfl (by intro e; cases e) ?_))
 generalize hH : h.alloc _ = H1
 have hg0 : H1.get h.next = some ⟨entC k1 v1 a, 171, true⟩ := hH ▸ Heap.alloc_new _ _
 have hx1 : Ext h H1 := hH ▸ wf.ext _
 have wf1 : WF H1 := hH ▸ wf.alloc _
 skip
 generalize hH2 : H1.alloc _ = H
 have hg2 : H.get H1.next = some ⟨entC k2 v2 b, 171, true⟩ := hH2 ▸ Heap.alloc_new _ _
 have hx2 : Ext H1 H := hH2 ▸ wf1.ext _
 have hg1 : H.get h.next = some ⟨entC k1 v1 a, 171, true⟩ := hx2.c _ _ hg0
 have hx : Ext h H := hx1.trans hx2
 clear hH hH2
 have a1 := ra1.ext hx
 have a2 := ra2.ext hx
 have b1 := rb1.ext hx
 have b2 := rb2.ext hx
 repeat' (first | refine W.w ?_ | refine AL.skip rfl rfl ?_ | (refine zz rfl ?_; first | refine qae rfl ?_ | refine qaa rfl ?_ | refine qao rfl ?_ | refine qaf rfl rfl hg1 rfl ?_ | refine qaf rfl rfl hg2 rfl ?_ | refine qaR rfl rfl (qcm _ _ _ _ _ (by assumption) (by assumption)) (fun c => ?_) (fun c => ?_) | refine qaQ rfl rfl rfl (fun c => ?_) (fun c => ?_) | refine qah (v := .bool _) rfl rfl ?_))
 all_goals refine ⟨_, ResV.tmp rfl, rfl, hx, congrArg Value.bool ?_, rfl⟩
 all_goals grind [ent_ext]
theorem qeo {α : Type} {a b : List α} {k : Nat} {x y : α} (h : a.take k = b.take k) (hx : a[k]? = some x) (hy : b[k]? = some y) : a.take (k + 1) = b.take (k + 1) ↔ x = y := by
 rw [List.take_add_one, List.take_add_one, h, hx, hy]
 simp
theorem eqEnt_c (u v : Value) (a b : List EntM) (h : Heap) (ra : RE h u a) (rb : RE h v b) : ACalls Tryz.prog 144 [u, v, .func (.func 145) #[] #[]] h fun x h' => x = .bool (decide (a = b)) ∧ h' = h := by
 refine ACalls.wf fun wf => ACalls.reset ?_
 refine ACalls.body Tryz.func144 rfl rfl ?_
 obtain ⟨ro, r1, r2, r3⟩ := ra.ex
 obtain ⟨so, s1, s2, s3⟩ := rb.ex
 obtain ⟨ua, uc, hu⟩ := r1.slice
 obtain ⟨va, vc, hv⟩ := s1.slice
 by_cases hl : a.length = b.length
 ·
  repeat (first | refine W.w ?_ | refine AWp.c9 rfl ?_ | (refine zz rfl ?_; first | refine qac rfl ?_ | refine qaa rfl ?_ | refine qaB r1 rfl ?_ | refine qaB s1 rfl ?_ | refine qak rfl rfl rfl (by omega) ?_ | refine qal (v := u) rfl ?_ | refine qal (v := v) rfl ?_))
  refine AWp.loop (α := Nat × Heap) (fun d => [(0, u), (1, v), (2, .func (.func 145) #[] #[]), (15, u), (16, .int .i64 (ro.length : Nat)), (17, .int .i64 (d.1 : Nat))]) (fun d => d.2) (fun d => d.1 ≤ a.length ∧ a.take d.1 = b.take d.1 ∧ Ext h d.2 ∧ WF d.2) (fun d => a.length - d.1) (0, h) ⟨Nat.zero_le _, rfl, Ext.refl h, wf⟩ (Weak.same (EW.cons rfl (EW.cons rfl (EW.cons rfl (EW.cons rfl (EW.cons rfl (EW.cons rfl EW.nil))))))) ?_
  rintro ⟨k, H⟩ ⟨hk, hp, hx, wfH⟩
  replace hk : k ≤ a.length := hk
  replace hp : a.take k = b.take k := hp
  replace hx : Ext h H := hx
  replace wfH : WF H := wfH
  show AWp _ _ _ _ [(0, u), (1, v), (2, .func (.func 145) #[] #[]), (15, u), (16, .int .i64 (ro.length : Nat)), (17, .int .i64 (k : Nat))] H
  have hlen := ra.len
  by_cases hlt : k < a.length
  ·
   obtain ⟨x, hxa⟩ : ∃ x, a[k]? = some x := ⟨_, List.getElem?_eq_getElem hlt⟩
   obtain ⟨y, hyb⟩ : ∃ y, b[k]? = some y := ⟨_, List.getElem?_eq_getElem (by omega)⟩
   obtain ⟨p, hpa⟩ : ∃ p, ro[k]? = some p := ⟨_, List.getElem?_eq_getElem (by omega)⟩
   obtain ⟨q, hqb⟩ : ∃ q, so[k]? = some q := ⟨_, List.getElem?_eq_getElem (by omega)⟩
   obtain ⟨k1, v1, rfl, a1, a2⟩ := r3 k p x hpa hxa
   obtain ⟨k2, v2, rfl, b1, b2⟩ := s3 k q y hqb hyb
   have hte := qeo hp hxa hyb
   have o1 := a1.one
   have o2 := a2.one
   have o3 := b1.one
   have o4 := b2.one
   repeat (first | refine W.w ?_ | refine AWp.c8 rfl ?_ | (refine zz rfl ?_; first | refine qac rfl ?_ | refine qam rfl rfl rfl (by omega) ?_ | refine qdV (r1.ext hx) rfl rfl (by omega) (show ro[((k : Nat) : Int).toNat]? = some _ from hpa) ?_))
   intro pp hpp
   repeat (first | refine W.w ?_ | refine AL.eff rfl (qaE (vs := entC k1 v1 x) rfl rfl rfl rfl (by unfold entC; simp only [List.all_cons, o1.1, o2.1]; rfl) ?_) | (refine zz rfl ?_; first | refine qac rfl ?_ | refine qad rfl ?_ | refine qa1 hpp rfl rfl rfl ?_ | refine qaw ?_ | refine qal (by conv => lhs; whnf) ?_))
   obtain ⟨H1, hQ, g1, x1, wf1, _⟩ := aq wfH ⟨entC k1 v1 x, 171, true⟩
   rw [hQ]
   repeat (first | refine zz rfl (qdV (s1.ext (hx.trans x1)) rfl rfl (by omega) (show so[((k : Nat) : Int).toNat]? = some _ from hqb) ?_))
   intro qq hqq
   repeat (first | refine W.w ?_ | refine AL.eff rfl (qaE (vs := entC k2 v2 y) rfl rfl rfl rfl (by unfold entC; simp only [List.all_cons, o3.1, o4.1]; rfl) ?_) | (refine zz rfl ?_; first | refine qa4 rfl ?_ | refine qa1 hqq rfl rfl rfl ?_ | refine qaw ?_))
   obtain ⟨H2, hQ, g2, x2, wf2, _⟩ := aq wf1 ⟨entC k2 v2 y, 171, true⟩
   rw [hQ]
   have hx2 := hx.trans (x1.trans x2)
   have ce := sameEnt_c k1 v1 k2 v2 x y H2 (a1.ext hx2) (a2.ext hx2) (b1.ext hx2) (b2.ext hx2)
   repeat' (first | refine W.w ?_ | refine AWp.c8 rfl ?_ | refine AWp.c9 rfl ?_ | (refine zz rfl ?_; first | refine qac rfl ?_ | refine qaa rfl ?_ | refine qaj (sz := 4) rfl rfl (x2.c _ _ g1) (Nat.le_refl _) ?_ | refine qaj (sz := 4) rfl rfl g2 (Nat.le_refl _) ?_ | refine qaR rfl rfl ce (fun c => ?_) (fun c => ?_) | refine qas rfl rfl (by omega) ?_ | refine qaL rfl ?_))
   ·
    exact ⟨(k + 1, H2), ⟨hlt, hte.2 (of_decide_eq_true c), hx2, wf2⟩, by show a.length - (k + 1) < a.length - k; omega, Weak.same (EW.cons rfl (EW.cons rfl (EW.cons rfl (EW.cons rfl (EW.cons rfl (EW.cons rfl EW.nil))))))⟩
   ·
    refine ⟨_, ResV.tmp rfl, rfl, hx2, congrArg Value.bool (decide_eq_false fun e => ?_).symm, rfl⟩
    exact of_decide_eq_false c (hte.1 (by rw [e]))
  ·
   obtain rfl : k = a.length := by omega
   rw [List.take_length, hl, List.take_length] at hp
   repeat (first | refine AL.nil ?_ | refine AWp.seq ?_ | refine AWp.r9 ?_ | refine AWp.c9 rfl ?_ | refine AWp.ret ?_ | refine AWp.exit ?_ | refine zz rfl (qaa rfl ?_) | refine zz rfl (qak rfl rfl rfl (by omega) ?_))
   exact ⟨_, ResV.tmp rfl, rfl, hx, congrArg Value.bool (decide_eq_true hp).symm, rfl⟩
 ·
  repeat (first | refine W.w ?_ | refine AWp.c8 rfl ?_ | (refine zz rfl ?_; first | refine qaa rfl ?_ | refine qaB r1 rfl ?_ | refine qaB s1 rfl ?_ | refine qam rfl rfl rfl (by omega) ?_ | refine qal (by conv => lhs; whnf) ?_))
  refine ⟨_, ResV.tmp rfl, rfl, Ext.refl h, congrArg Value.bool (decide_eq_false fun e => hl (by rw [e])).symm, rfl⟩
instance qbc : FnC Tryz.prog 144 := ⟨Tryz.f144, Tryz.func144, by kernel_rfl, by kernel_rfl⟩
instance qeq : FnC Tryz.prog 112 := ⟨Tryz.f112, Tryz.func112, by kernel_rfl, by kernel_rfl⟩
instance qbQ : FnC Tryz.prog 113 := ⟨Tryz.f113, Tryz.func113, by kernel_rfl, by kernel_rfl⟩
instance qdI : FnC Tryz.prog 70 := ⟨Tryz.f70, Tryz.func70, by kernel_rfl, by kernel_rfl⟩
theorem qgn (p q : CmdV) (a b : CmdM) (h : Heap) (ra : CmdR h p a) (rb : CmdR h q b) : ACalls Tryz.prog 112 [.agg (cmdC p a).toArray, .agg (cmdC q b).toArray] h fun u h' => u = .bool (decide (a = b)) ∧ h' = h := by
 refine ACalls.wf fun wf => ACalls.reset ?_
 refine ACalls.body Tryz.func112 rfl rfl ?_
 repeat (first | refine W.w ?_ | refine zz rfl (qaa rfl ?_) | refine zz rfl (qaV rfl (by intro e; cases e) ?_))
 generalize hH : h.alloc _ = H1
 have hg0 : H1.get h.next = some ⟨cmdC p a, 37, true⟩ := hH ▸ Heap.alloc_new _ _
 have hx1 : Ext h H1 := hH ▸ wf.ext _
 have wf1 : WF H1 := hH ▸ wf.alloc _
 skip
 generalize hH2 : H1.alloc _ = H
 have hg2 : H.get H1.next = some ⟨cmdC q b, 37, true⟩ := hH2 ▸ Heap.alloc_new _ _
 have hx2 : Ext H1 H := hH2 ▸ wf1.ext _
 have hg1 : H.get h.next = some ⟨cmdC p a, 37, true⟩ := hx2.c _ _ hg0
 have hx : Ext h H := hx1.trans hx2
 clear hH hH2
 obtain ⟨a1, a2, a3, a4, a5⟩ := ra.ext hx
 obtain ⟨b1, b2, b3, b4, b5⟩ := rb.ext hx
 have cA := qgv p.r q.r a.req.ask b.req.ask H a1 b1
 have cM := sameMove_c p.m q.m a.move b.move H a2 b2
 have cE := eqEnt_c p.e q.e a.entries b.entries H a3 b3
 repeat' (first | refine W.w ?_ | refine AL.skip rfl rfl ?_ | (refine zz rfl ?_; first | refine qae rfl ?_ | refine qaa rfl ?_ | refine qao rfl ?_ | refine qaf rfl rfl hg1 rfl ?_ | refine qaf rfl rfl hg2 rfl ?_ | refine qaj (sz := 7) rfl rfl hg1 (Nat.le_of_ble_eq_true rfl) ?_ | refine qaj (sz := 7) rfl rfl hg2 (Nat.le_of_ble_eq_true rfl) ?_ | refine qaj (sz := 6) rfl rfl hg1 (Nat.le_of_ble_eq_true rfl) ?_ | refine qaj (sz := 6) rfl rfl hg2 (Nat.le_of_ble_eq_true rfl) ?_ | refine qaR rfl rfl cA (fun c => ?_) (fun c => ?_) | refine qaR rfl rfl cM (fun c => ?_) (fun c => ?_) | refine qaR rfl rfl cE (fun c => ?_) (fun c => ?_) | refine qaR rfl rfl (qcm _ _ _ _ _ (by assumption) (by assumption)) (fun c => ?_) (fun c => ?_) | refine qaQ rfl rfl rfl (fun c => ?_) (fun c => ?_) | refine qah (v := .bool _) rfl rfl ?_))
 all_goals refine ⟨_, ResV.tmp rfl, rfl, hx, congrArg Value.bool ?_, rfl⟩
 all_goals clear a1 a2 a3 a4 a5 b1 b2 b3 b4 b5 cA cM cE hg0 hg1 hg2 hx1 hx2 hx wf wf1 ra rb
 all_goals grind [cmd_ext]
instance i_EqD_api_Kept : EqD Tryz.prog 79 [(0, .string), (1, .int .i64)] := ⟨_, Tryz.underlying79, by kernel_rfl, by kernel_rfl, by kernel_rfl⟩
theorem qga (x y : Bytes × Int) : eqRows [(0, .string), (1, .int .i64)] (keptR x) (keptR y) = decide (x = y) := by
 show (eqV (.string (bstr x.1)) (.string (bstr y.1)) && (eqV (.int .i64 x.2) (.int .i64 y.2) && true)) = _
 rw [eqV_str]
 obtain ⟨a, b⟩ := x
 obtain ⟨c, d⟩ := y
 rw [Bool.eq_iff_iff]
 simp [eqV]
theorem eqKept_c (u v : Value) (a b : List (Bytes × Int)) (h : Heap) (ra : RK h u a) (rb : RK h v b) : ACalls Tryz.prog 113 [u, v] h fun x h' => x = .bool (decide (a = b)) ∧ h' = h := by
 refine ACalls.body Tryz.func113 rfl rfl ?_
 have r1 := ra.rn
 have s1 := rb.rn
 obtain ⟨ua, uc, hu⟩ := r1.slice
 obtain ⟨va, vc, hv⟩ := s1.slice
 have l1 : (a.map keptR).length = a.length := List.length_map _
 have l2 : (b.map keptR).length = b.length := List.length_map _
 have hlen := ra.len
 by_cases hl : a.length = b.length
 ·
  repeat (first | refine W.w ?_ | refine AWp.c9 rfl ?_ | (refine zz rfl ?_; first | refine qac rfl ?_ | refine qaa rfl ?_ | refine qaB r1 rfl ?_ | refine qaB s1 rfl ?_ | refine qak rfl rfl rfl (by omega) ?_ | refine qal (v := u) rfl ?_ | refine qal (v := v) rfl ?_))
  refine AWp.loop (α := Nat) (fun k => [(0, u), (1, v), (12, .int .i64 ((a.map keptR).length : Nat)), (13, .int .i64 (k : Nat))]) (fun _ => h) (fun k => k ≤ a.length ∧ a.take k = b.take k) (fun k => a.length - k) 0 ⟨Nat.zero_le _, rfl⟩ (Weak.same (EW.cons rfl (EW.cons rfl (EW.cons rfl (EW.cons rfl EW.nil))))) ?_
  rintro k ⟨hk, hp⟩
  by_cases hlt : k < a.length
  ·
   obtain ⟨x, hxa⟩ : ∃ x, a[k]? = some x := ⟨_, List.getElem?_eq_getElem hlt⟩
   obtain ⟨y, hyb⟩ : ∃ y, b[k]? = some y := ⟨_, List.getElem?_eq_getElem (by omega)⟩
   have hx2 : (a.map keptR)[((k : Nat) : Int).toNat]? = some (keptR x) := by simp [hxa]
   have hy2 : (b.map keptR)[((k : Nat) : Int).toNat]? = some (keptR y) := by simp [hyb]
   have px := r1.elt hx2
   have py := s1.elt hy2
   have hte := qeo hp hxa hyb
   have heq := qga x y
   by_cases hxy : x = y
   ·
    rw [decide_eq_true hxy] at heq
    repeat (first | refine W.w ?_ | refine AWp.c8 rfl ?_ | (refine zz rfl ?_; first | refine qac rfl ?_ | refine qad rfl ?_ | refine qam rfl rfl rfl (by omega) ?_))
    refine AWp.draw (σ := [(0, .R), (1, .R), (2, .R), (3, .R), (4, .R), (5, .R), (6, .R), (7, .R), (8, .R)]) mixed (by kernel_rfl) ?_
    repeat (first | refine DAL.r rfl rfl rfl (fun h' hx hn => qac rfl ⟨rfl, rfl⟩) ?_ | refine DAL.r rfl rfl rfl (fun h' hx hn => qal (v := u) rfl ⟨rfl, rfl⟩) ?_ | refine DAL.r rfl rfl rfl (fun h' hx hn => qal (v := v) rfl ⟨rfl, rfl⟩) ?_ | refine DAL.r rfl rfl rfl (fun h' hx hn => qaG (r1.ext hx) rfl rfl (by omega) hx2 ⟨rfl, rfl⟩) ?_ | refine DAL.r rfl rfl rfl (fun h' hx hn => qaG (s1.ext hx) rfl rfl (by omega) hy2 ⟨rfl, rfl⟩) ?_ | refine DAL.r rfl rfl rfl (fun h' hx hn => qa1 (px.ext hx) rfl rfl rfl ⟨rfl, rfl⟩) ?_ | refine DAL.r rfl rfl rfl (fun h' hx hn => qa1 (py.ext hx) rfl rfl rfl ⟨rfl, rfl⟩) ?_ | refine DAL.r rfl rfl rfl (fun h' hx hn => qdO (xs := keptR x) (ys := keptR y) rfl rfl rfl heq ⟨rfl, rfl⟩) ?_)
    refine DAL.nil ?_
    repeat (first | refine W.w ?_ | refine AWp.c9 rfl ?_ | refine zz rfl (qac rfl ?_) | refine zz rfl (qas rfl rfl (by omega) ?_))
    exact ⟨k + 1, ⟨hlt, hte.2 hxy⟩, by omega, Weak.same (EW.cons rfl (EW.cons rfl (EW.cons rfl (EW.cons rfl EW.nil))))⟩
   ·
    rw [decide_eq_false hxy] at heq
    repeat (first | refine W.w ?_ | refine AWp.c8 rfl ?_ | (refine zz rfl ?_; first | refine qac rfl ?_ | refine qad rfl ?_ | refine qam rfl rfl rfl (by omega) ?_))
    refine AWp.draw (σ := [(0, .R), (1, .R), (2, .R), (3, .R), (4, .R), (5, .R), (6, .R), (7, .R), (8, .R)]) mixed (by kernel_rfl) ?_
    repeat (first | refine DAL.r rfl rfl rfl (fun h' hx hn => qac rfl ⟨rfl, rfl⟩) ?_ | refine DAL.r rfl rfl rfl (fun h' hx hn => qal (v := u) rfl ⟨rfl, rfl⟩) ?_ | refine DAL.r rfl rfl rfl (fun h' hx hn => qal (v := v) rfl ⟨rfl, rfl⟩) ?_ | refine DAL.r rfl rfl rfl (fun h' hx hn => qaG (r1.ext hx) rfl rfl (by omega) hx2 ⟨rfl, rfl⟩) ?_ | refine DAL.r rfl rfl rfl (fun h' hx hn => qaG (s1.ext hx) rfl rfl (by omega) hy2 ⟨rfl, rfl⟩) ?_ | refine DAL.r rfl rfl rfl (fun h' hx hn => qa1 (px.ext hx) rfl rfl rfl ⟨rfl, rfl⟩) ?_ | refine DAL.r rfl rfl rfl (fun h' hx hn => qa1 (py.ext hx) rfl rfl rfl ⟨rfl, rfl⟩) ?_ | refine DAL.r rfl rfl rfl (fun h' hx hn => qdO (xs := keptR x) (ys := keptR y) rfl rfl rfl heq ⟨rfl, rfl⟩) ?_)
    refine DAL.nil ?_
    repeat (first | refine W.w ?_ | refine AWp.c8 rfl ?_ | refine zz rfl (qaa rfl ?_))
    refine ⟨_, ResV.tmp rfl, congrArg Value.bool (decide_eq_false fun e => hxy (hte.1 (by rw [e]))).symm, rfl⟩
  ·
   obtain rfl : k = a.length := by omega
   rw [List.take_length, hl, List.take_length] at hp
   repeat (first | refine AL.nil ?_ | refine AWp.seq ?_ | refine AWp.r9 ?_ | refine AWp.c9 rfl ?_ | refine AWp.ret ?_ | refine AWp.exit ?_ | refine zz rfl (qaa rfl ?_) | refine zz rfl (qak rfl rfl rfl (by omega) ?_))
   exact ⟨_, ResV.tmp rfl, congrArg Value.bool (decide_eq_true hp).symm, rfl⟩
 ·
  repeat (first | refine W.w ?_ | refine AWp.c8 rfl ?_ | (refine zz rfl ?_; first | refine qaa rfl ?_ | refine qaB r1 rfl ?_ | refine qaB s1 rfl ?_ | refine qam rfl rfl rfl (by omega) ?_ | refine qal (by conv => lhs; whnf) ?_))
  exact ⟨_, ResV.tmp rfl, congrArg Value.bool (decide_eq_false fun e => hl (by rw [e])).symm, rfl⟩
theorem sameAct_c (p q : ActV) (a b : ActM) (h : Heap) (ra : ActR h p a) (rb : ActR h q b) : ACalls Tryz.prog 70 [.agg (actC p a).toArray, .agg (actC q b).toArray] h fun u h' => u = .bool (decide (a = b)) ∧ h' = h := by
 refine ACalls.wf fun wf => ACalls.reset ?_
 refine ACalls.body Tryz.func70 rfl rfl ?_
 repeat (first | refine W.w ?_ | refine zz rfl (qaa rfl ?_) | refine zz rfl (qaV rfl (by intro e; cases e) ?_))
 generalize hH : h.alloc _ = H1
 have hg0 : H1.get h.next = some ⟨actC p a, 40, true⟩ := hH ▸ Heap.alloc_new _ _
 have hx1 : Ext h H1 := hH ▸ wf.ext _
 have wf1 : WF H1 := hH ▸ wf.alloc _
 skip
 generalize hH2 : H1.alloc _ = H
 have hg2 : H.get H1.next = some ⟨actC q b, 40, true⟩ := hH2 ▸ Heap.alloc_new _ _
 have hx2 : Ext H1 H := hH2 ▸ wf1.ext _
 have hg1 : H.get h.next = some ⟨actC p a, 40, true⟩ := hx2.c _ _ hg0
 have hx : Ext h H := hx1.trans hx2
 clear hH hH2
 obtain ⟨a1, a2, a3⟩ := ra.ext hx
 obtain ⟨b1, b2, b3⟩ := rb.ext hx
 have cA := qgv p.q q.q a.ask b.ask H a1 b1
 have cM := qgn p.c q.c a.cmd b.cmd H a2 b2
 have cE := eqKept_c p.k q.k a.keep b.keep H a3 b3
 repeat' (first | refine W.w ?_ | refine AL.skip rfl rfl ?_ | (refine zz rfl ?_; first | refine qae rfl ?_ | refine qaa rfl ?_ | refine qao rfl ?_ | refine qaf rfl rfl hg1 rfl ?_ | refine qaf rfl rfl hg2 rfl ?_ | refine qaj (sz := 7) rfl rfl hg1 (Nat.le_of_ble_eq_true rfl) ?_ | refine qaj (sz := 7) rfl rfl hg2 (Nat.le_of_ble_eq_true rfl) ?_ | refine qaj (sz := 20) rfl rfl hg1 (Nat.le_of_ble_eq_true rfl) ?_ | refine qaj (sz := 20) rfl rfl hg2 (Nat.le_of_ble_eq_true rfl) ?_ | refine qaR rfl rfl cA (fun c => ?_) (fun c => ?_) | refine qaR rfl rfl cM (fun c => ?_) (fun c => ?_) | refine qaR rfl rfl cE (fun c => ?_) (fun c => ?_) | refine qaQ rfl rfl rfl (fun c => ?_) (fun c => ?_) | refine qah (v := .bool _) rfl rfl ?_))
 all_goals refine ⟨_, ResV.tmp rfl, rfl, hx, congrArg Value.bool ?_, rfl⟩
 all_goals clear a1 a2 a3 b1 b2 b3 cA cM cE hg0 hg1 hg2 hx1 hx2 hx wf wf1 ra rb
 all_goals grind [act_ext]
end Go.Proofs.YtigmojilaadbhaaGreatDoor
