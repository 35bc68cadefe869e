/-
  Texts of one claim, merged: 5 parts.
-/
import Derived.Test.YtigmojilaadbhaaGreatDoorMdu
import Derived.Test.YtigmojilaadbhaaGreatDoorMdi
import Derived.Test.YtigmojilaadbhaaGreatDoorMdg
set_option maxHeartbeats 16000000
/- . -/
namespace Go.Proofs.YtigmojilaadbhaaGreatDoor
open Go Go.Eng Go.Pln Go.Lib
theorem qgQ {m k : Nat} {ws : List Bytes} (h : ∀ w ∈ ws, w.length ≤ m) (hl : ws.length ≤ k) : (joinW ws).length ≤ k * (m + 1) := by
 have h1 := qbs m ws h
 have h2 : ws.length * (m + 1) ≤ k * (m + 1) := Nat.mul_le_mul_right _ hl
 omega
theorem qba {n : Int} (h0 : 0 ≤ n) (h1 : n ≤ 2147483647) : (itoa n).length ≤ 200 := by
 have := qa3 (n := n) (by omega) (by omega)
 omega
theorem kword_le (k : Int) : (kword k).length ≤ 200 := by
 unfold kword
 by_cases h : (k - 1).toNat < 13
 ·
  have := qf7 ⟨(k - 1).toNat, h⟩
  unfold kword at this
  have he : ((((k - 1).toNat : Nat) : Int) + 1 - 1).toNat = (k - 1).toNat := by omega
  simp only [he] at this
  omega
 ·
  have : kwords[(k - 1).toNat]? = none := List.getElem?_eq_none (by
   have : kwords.length = 13 := by decide
   omega)
  rw [this]
  simp
theorem askW_words {a : AskM} (h : mayAsk a = true) : (∀ w ∈ askW a, w.length ≤ 200) ∧ (askW a).length ≤ 4 := by
 obtain ⟨l1, l2, l3, l4, l5, l6, l7, l8⟩ := qdc h
 have w1 := qbF a.key
 have w2 := qbF a.to
 have w3 := qbF a.value
 have w4 := qbF a.was
 have w5 := qa3 (n := a.most) (by omega) (by omega)
 refine ⟨?_, by unfold askW; grind⟩
 unfold askW
 intro w hw
 split at hw
 ·
  simp only [List.mem_cons, List.not_mem_nil, or_false] at hw; rcases hw with rfl | rfl <;> first | decide | omega
 split at hw
 ·
  simp only [List.mem_cons, List.not_mem_nil, or_false] at hw; rcases hw with rfl | rfl <;> first | decide | omega
 split at hw
 ·
  simp only [List.mem_cons, List.not_mem_nil, or_false] at hw; rcases hw with rfl | rfl | rfl <;> first | decide | omega
 split at hw
 ·
  simp only [List.mem_cons, List.not_mem_nil, or_false] at hw; rcases hw with rfl | rfl | rfl | rfl <;> first | decide | omega
 split at hw
 ·
  simp only [List.mem_cons, List.not_mem_nil, or_false] at hw; rcases hw with rfl | rfl | rfl <;> first | decide | omega
 ·
  simp only [List.mem_cons, List.not_mem_nil, or_false] at hw; rcases hw with rfl | rfl | rfl | rfl <;> first | decide | omega
theorem qhI {a : CmdM} (h : mayPlan a = true) : (∀ w ∈ planW a, w.length ≤ 200) ∧ (planW a).length ≤ 3 := by
 obtain ⟨l1, l2, l3, l4, l5⟩ := qcN h
 have w1 := qbF a.key
 have w5 := qa3 (n := a.group) (by omega) (by omega)
 refine ⟨?_, by unfold planW; grind⟩
 unfold planW
 intro w hw
 split at hw
 ·
  simp only [List.mem_cons, List.not_mem_nil, or_false] at hw; rcases hw with rfl | rfl <;> first | decide | omega
 split at hw
 ·
  simp only [List.mem_cons, List.not_mem_nil, or_false] at hw; rcases hw with rfl | rfl <;> first | decide | omega
 ·
  simp only [List.mem_cons, List.not_mem_nil, or_false] at hw; rcases hw with rfl | rfl | rfl <;> first | decide | omega
theorem qgY {l : List (Bytes × Int)} (h : keepOk l = true) : (∀ w ∈ keepW l, w.length ≤ 200) ∧ (keepW l).length = 2 * l.length := by
 refine ⟨fun w hw => ?_, ?_⟩
 ·
  obtain ⟨y, hy, hw⟩ := List.mem_flatMap.1 hw
  obtain ⟨m1, m2, m3⟩ := qb5 h y hy
  have := qff m1
  have := qba (n := y.2) (by omega) (by omega)
  simp only [List.mem_cons, List.not_mem_nil, or_false] at hw
  rcases hw with rfl | rfl <;> omega
 ·
  unfold keepW
  clear h
  induction l with
  | nil => rfl
  | cons x l ih =>
   rw [List.flatMap_cons, List.length_append, ih]
   simp only [List.length_cons, List.length_nil]
   omega
theorem qga {a : ActM} (h : mayAct 5 5 a = true) : (lineM a).length ≤ 100000 := by
 have key : (∀ w ∈ restW a, w.length ≤ 200) ∧ (restW a).length ≤ 300 := by
  unfold mayAct at h
  unfold restW
  split at h
  ·
   rename_i k
   obtain ⟨h1, h2, h3, h4, _⟩ := of_decide_eq_true h
   rw [if_neg (by omega), if_neg (by omega), if_neg (by omega), if_neg (by omega), if_neg (by omega), if_neg (by omega)]
   have i1 := qba (n := a.node) (by omega) (by omega)
   have i2 := qba (n := a.group) (by omega) (by omega)
   simp [i1, i2]
  split at h
  ·
   rename_i _ k
   obtain ⟨h1, h2, _⟩ := of_decide_eq_true h
   rw [if_pos k]
   have i1 := qba (n := a.n) (by omega) (by omega)
   simp [i1]
  split at h
  ·
   rename_i _ k' k
   obtain ⟨h1, h2, _⟩ := of_decide_eq_true h
   rw [if_neg k', if_pos k]
   have i1 := qba (n := a.node) (by omega) (by omega)
   simp [i1]
  split at h
  ·
   rename_i _ _ _ k
   obtain ⟨h1, h2, h3, _⟩ := of_decide_eq_true h
   rw [if_neg (by omega), if_neg (by omega), if_pos k]
   have i1 := qba (n := a.node) (by omega) (by omega)
   obtain ⟨p1, p2⟩ := qhI h3
   refine ⟨fun w hw => ?_, by rw [List.length_cons]; omega⟩
   rcases List.mem_cons.1 hw with rfl | hw
   ·
    exact i1
   ·
    exact p1 w hw
  split at h
  ·
   rename_i _ _ _ _ k
   obtain ⟨h1, h2, h3, h4, h5, h6, h7, _⟩ := of_decide_eq_true h
   rw [if_neg (by omega), if_neg (by omega), if_neg (by omega), if_pos k]
   have i1 := qba (n := a.node) (by omega) (by omega)
   have i2 := qba (n := a.group) (by omega) (by omega)
   have i3 := qba (n := a.client) (by omega) (by omega)
   obtain ⟨p1, p2⟩ := askW_words h7
   refine ⟨fun w hw => ?_, by simp only [List.length_cons]; omega⟩
   rcases List.mem_cons.1 hw with rfl | hw
   ·
    exact i3
   rcases List.mem_cons.1 hw with rfl | hw
   ·
    exact i1
   rcases List.mem_cons.1 hw with rfl | hw
   ·
    exact i2
   ·
    exact p1 w hw
  split at h
  ·
   rename_i _ _ _ _ _ k
   obtain ⟨h1, h2, h3, h4, h5, h6, _⟩ := of_decide_eq_true h
   rw [if_neg (by omega), if_neg (by omega), if_neg (by omega), if_neg (by omega), if_pos k]
   have i1 := qba (n := a.node) (by omega) (by omega)
   have i2 := qba (n := a.group) (by omega) (by omega)
   have i3 := qba (n := a.client) (by omega) (by omega)
   simp [i1, i2, i3]
  split at h
  ·
   rename_i _ _ _ _ _ _ k
   obtain ⟨h1, h2, h3, h4, _⟩ := of_decide_eq_true h
   rw [if_neg (by omega), if_neg (by omega), if_neg (by omega), if_neg (by omega), if_neg (by omega), if_pos k]
   have i1 := qba (n := a.node) (by omega) (by omega)
   obtain ⟨p1, p2⟩ := qgY h4
   refine ⟨fun w hw => ?_, by rw [List.length_cons, p2]; omega⟩
   rcases List.mem_cons.1 hw with rfl | hw
   ·
    exact i1
   ·
    exact p1 w hw
  ·
   cases h
 unfold lineM
 have := qgQ (m := 200) (k := 301) (ws := kword a.kind :: restW a) (fun w hw => by
  rcases List.mem_cons.1 hw with rfl | hw
  ·
   exact kword_le _
  ·
   exact key.1 w hw) (by rw [List.length_cons]; omega)
 omega
end Go.Proofs.YtigmojilaadbhaaGreatDoor
/- . -/
namespace Go.Proofs.YtigmojilaadbhaaGreatDoor
open Go Go.Eng Go.Pln Go.Lib
attribute [local irreducible] AWp AL DAL AOp TAL
instance i_text35 : FnC Tryz.prog 35 := ⟨Tryz.f35, Tryz.func35, by kernel_rfl, by kernel_rfl⟩
theorem heads_len {x : SetM} (hs : maySet x = true) : (catN (headsM x)).length ≤ 100000000 := by
 obtain ⟨b1, b2, b3, b4, b5, b6, b7⟩ := qib hs
 have hfl : (firstL x).length ≤ 2000000 := by
  have e1 := qa3 (n := x.nodes) (by omega) (by omega)
  have e2 := qa3 (n := x.disk) (by omega) (by omega)
  have e3 := qa3 (n := x.memory) (by omega) (by omega)
  have e4 := qa3 (n := x.level) (by omega) (by omega)
  have := qbs 30 [wSetup, itoa x.nodes, itoa x.disk, itoa x.memory, itoa x.level] (by
   intro w hw
   simp only [List.mem_cons, List.not_mem_nil, or_false] at hw
   rcases hw with rfl | rfl | rfl | rfl | rfl <;> first | decide | omega)
  simp only [List.length_cons, List.length_nil] at this
  unfold firstL
  omega
 have h1 := qdO 2000000 (headsM x) fun w hw => by
  rcases List.mem_cons.1 hw with rfl | hw
  ·
   exact hfl
  ·
   obtain ⟨g, hg, rfl⟩ := List.mem_map.1 hw
   obtain ⟨q1, q2, q3, _⟩ := qcI b1.2 (b7 g hg)
   exact qcA (fun n hn => by have := q1 n hn; exact ⟨by omega, by omega⟩) (by omega)
 have h2 : (headsM x).length ≤ 6 := by
  unfold headsM
  rw [List.length_cons, List.length_map]
  omega
 have h3 : (headsM x).length * (2000000 + 1) ≤ 6 * (2000000 + 1) := Nat.mul_le_mul_right _ h2
 omega
theorem Bd.more {h0 h h' : Heap} {b : Nat} {l : Bytes} (d : Bd h0 h b l) (hx : Ext h h') (wf : WF h') : Bd h0 h' b l := by
 obtain ⟨ap, sv, hg, hap, ho, hne, hnil⟩ := d.ex
 exact ⟨⟨ap, sv, hx.c _ _ hg, hap, ho.ext hx, hne, hnil⟩, d.hx.trans hx, wf, d.wf0, d.lo⟩
def textV (s : ScrM) : Value := if (checkM s).2 = 0 then (if 1048576 < (textM s).length then .tuple #[str [], .int .i64 3] else .tuple #[str (textM s), .int .i64 0]) else .tuple #[str [], .int .i64 (checkM s).2]
theorem check_all {s : ScrM} (hc : (checkM s).2 = 0) : maySet s.setup = true ∧ s.acts.length ≤ 65536 ∧ ∀ a ∈ s.acts, mayAct 5 5 a = true := by
 unfold checkM at hc
 split at hc
 ·
  rename_i hs
  split at hc
  ·
   cases hc
  ·
   rename_i hf
   split at hc
   ·
    cases hc
   ·
    refine ⟨hs, by omega, fun a ha => ?_⟩
    have h1 := List.findIdx?_eq_none_iff.1 hf a ha
    exact (qdf (by simpa using h1)).2.2
 ·
  cases hc
theorem qdZ (s : ScrM) (vg va : Value) (h : Heap) (t : Tabs h) (rg : RG h vg s.setup.groups) (r : RA h va s.acts) : ACalls Tryz.prog 35 [.agg (scrC vg va s.setup).toArray] h fun u h' => u = textV s ∧ h' = h := by
 refine ACalls.wf fun wf => ACalls.resetB ?_
 refine ACalls.body Tryz.func35 rfl rfl ?_
 repeat (first | refine W.w ?_ | (refine zz rfl ?_; first | refine qac rfl ?_ | refine qah rfl ?_ | refine qaI rfl (by intro e; cases e) ?_))
 generalize hH : h.alloc _ = H
 have hg : H.get h.next = some (scrB vg va s.setup) := hH ▸ Heap.alloc_new _ _
 have hx : Ext h H := hH ▸ wf.ext _
 have wfH : WF H := hH ▸ wf.alloc _
 clear hH
 have cc := check_c s vg va H (rg.ext hx) (r.ext hx)
 by_cases hc : (checkM s).2 = 0
 ·
  obtain ⟨hs, hl, hm⟩ := check_all hc
  rw [hc] at cc
  repeat (first | refine W.w ?_ | refine AWp.c9 rfl ?_ | (refine zz rfl ?_; first | refine qad rfl ?_ | refine qaz rfl ?_ | refine qac rfl ?_ | refine qaf (sz := 6) rfl rfl hg (Nat.le_refl _) ?_ | refine qab rfl rfl cc ?_ | refine qar rfl rfl ?_ | refine qak rfl rfl rfl (by exact fun e => e rfl) ?_ | refine qat ?_))
  have d0 : Bd H (H.alloc (bldB (.pointer none) (.slice none 0 0))) H.next [] := Bd.new wfH
  have rx := wfH.ext (bldB (.pointer none) (.slice none 0 0))
  refine AL.heap (h := H.alloc (bldB (.pointer none) (.slice none 0 0))) rfl ?_
  generalize H.alloc (bldB (.pointer none) (.slice none 0 0)) = H0 at d0 rx ⊢
  have ch := head_c s.setup vg H0 (t.ext (hx.trans rx)) (rg.ext (hx.trans rx))
  have hv : headV s.setup = .tuple #[str (catN (headsM s.setup)), .int .i64 0] := by unfold headV; rw [hs]; rfl
  rw [hv] at ch
  have hhl := heads_len hs
  have hne : ¬ catN (headsM s.setup) = [] := by simp [headsM, catN]
  have cw := qde d0 (catN (headsM s.setup)) hne (by rw [List.length_nil]; omega)
  repeat (first | refine W.w ?_ | (refine zz rfl ?_; first | refine qal rfl ?_ | refine qaz rfl ?_ | refine qac rfl ?_ | refine qah rfl ?_ | refine qap rfl ?_ | refine qaf (sz := 5) rfl rfl (rx.c _ _ hg) (Nat.le_of_ble_eq_true rfl) ?_ | refine qab rfl rfl ch ?_ | refine qar rfl rfl ?_ | refine qao rfl rfl (cw.mono ?_)))
  rintro _ H2 ⟨rfl, d2⟩
  rw [List.nil_append] at d2
  have hg2 := d2.hx.c _ _ hg
  obtain ⟨rows, r1, r2, r3⟩ := (r.ext hx).ex
  obtain ⟨ua, uc, hu⟩ := r1.slice
  repeat (first | refine W.w ?_ | (refine zz rfl ?_; first | refine qad rfl ?_ | refine qap rfl ?_ | refine qae rfl rfl hg2 rfl ?_ | refine qau (r1.ext d2.hx) rfl ?_))
  refine AWp.loop (α := Nat × Heap) (fun d => [(6, ptr H.next), (30, va), (31, .int .i64 (rows.length : Nat)), (32, .int .i64 (d.1 : Nat))]) (fun d => d.2) (fun d => d.1 ≤ s.acts.length ∧ Bd H d.2 H.next (catN (headsM s.setup ++ (s.acts.take d.1).map lineM))) (fun d => s.acts.length - d.1) (0, H2) ⟨Nat.zero_le _, by show Bd H H2 H.next (catN (headsM s.setup ++ (s.acts.take 0).map lineM)); rw [List.take_zero, List.map_nil, List.append_nil]; exact d2⟩
   (Weak.same (EW.cons rfl (EW.cons rfl (EW.cons rfl (EW.cons rfl EW.nil))))) ?_
  rintro ⟨k, H3⟩ ⟨hk, d3⟩
  replace hk : k ≤ s.acts.length := hk
  replace d3 : Bd H H3 H.next (catN (headsM s.setup ++ (s.acts.take k).map lineM)) := d3
  show AWp _ _ _ _ [(6, ptr H.next), (30, va), (31, .int .i64 (rows.length : Nat)), (32, .int .i64 (k : Nat))] H3
  have hcl : (catN (headsM s.setup ++ (s.acts.take k).map lineM)).length ≤ 100000000 + 65536 * 100001 := by
   rw [qfD, List.length_append]
   have h1 := qdO 100000 ((s.acts.take k).map lineM) fun w hw => by
    obtain ⟨a, ha, rfl⟩ := List.mem_map.1 hw
    exact qga (hm a (List.mem_of_mem_take ha))
   have h2 : ((s.acts.take k).map lineM).length ≤ 65536 := by rw [List.length_map, List.length_take]; omega
   have h3 : ((s.acts.take k).map lineM).length * (100000 + 1) ≤ 65536 * (100000 + 1) := Nat.mul_le_mul_right _ h2
   omega
  by_cases hlt : k < s.acts.length
  ·
   obtain ⟨a, hla⟩ : ∃ a, s.acts[k]? = some a := ⟨_, List.getElem?_eq_getElem hlt⟩
   obtain ⟨row, hrow⟩ : ∃ row, rows[k]? = some row := ⟨_, List.getElem?_eq_getElem (by omega)⟩
   obtain ⟨q, rfl, hq⟩ := r3 k row a hrow hla
   have hma := hm a (List.mem_of_getElem? hla)
   have hll := qga hma
   repeat (first | refine W.w ?_ | refine AWp.c8 rfl ?_ | refine zz rfl (qaj rfl rfl rfl (by omega) ?_) | refine zz rfl (qcu (r1.ext d3.hx) rfl rfl (by omega) (show rows[((k : Nat) : Int).toNat]? = some _ from hrow) ?_))
   intro p hp
   repeat (first | refine W.w ?_ | refine zz rfl (qaJ hp rfl rfl rfl ?_) | refine zz rfl (qat ?_) | refine AL.eff rfl (qaC (vs := actC q a) rfl rfl rfl rfl (qaG hq) ?_))
   have x4 := d3.wf.ext ⟨actC q a, 40, true⟩
   have w4 := d3.wf.alloc ⟨actC q a, 40, true⟩
   have g4 : (H3.alloc ⟨actC q a, 40, true⟩).get H3.next = some ⟨actC q a, 40, true⟩ := Heap.alloc_new _ _
   refine AL.heap (h := H3.alloc ⟨actC q a, 40, true⟩) rfl ?_
   generalize H3.alloc ⟨actC q a, 40, true⟩ = H4 at x4 w4 g4 ⊢
   have d4 := d3.more x4 w4
   have cl := qeY q a H4 (t.ext (hx.trans d4.hx)) (hq.ext d4.hx)
   have hlv : lineV a = .tuple #[str (lineM a), .int .i64 0] := by unfold lineV; rw [hma]; rfl
   rw [hlv] at cl
   have cw := qde d4 (lineM a ++ [10]) (by simp) (by rw [List.length_append, List.length_cons, List.length_nil]; omega)
   repeat (first | refine W.w ?_ | (refine zz rfl ?_; first | refine qal rfl ?_ | refine qaz rfl ?_ | refine qac rfl ?_ | refine qah rfl ?_ | refine qaf (sz := 33) rfl rfl g4 (Nat.le_refl _) ?_ | refine qab rfl rfl cl ?_ | refine qar rfl rfl ?_ | refine qcr (b := [10]) rfl rfl (by simp only [maxLen, List.length_cons, List.length_nil]; omega) ?_ | refine qao rfl rfl (cw.mono ?_)))
   rintro _ H5 ⟨rfl, d5⟩
   have he : catN (headsM s.setup ++ (s.acts.take (k + 1)).map lineM) = catN (headsM s.setup ++ (s.acts.take k).map lineM) ++ (lineM a ++ [10]) := by
    rw [qbq hla, ← List.append_assoc, qfD]
    simp [catN]
   repeat (first | refine W.w ?_ | refine zz rfl (qad rfl ?_) | refine zz rfl (qav rfl rfl (by omega) ?_))
   exact ⟨(k + 1, H5), ⟨hlt, by show Bd H H5 H.next (catN (headsM s.setup ++ (s.acts.take (k + 1)).map lineM)); rw [he]; exact d5⟩, by show s.acts.length - (k + 1) < s.acts.length - k; omega, Weak.same (EW.cons rfl (EW.cons rfl (EW.cons rfl (EW.cons rfl EW.nil))))⟩
  ·
   obtain rfl : k = s.acts.length := by omega
   rw [List.take_length] at d3 hcl
   have cL := bLen_c d3
   by_cases hbig : 1048576 < (textM s).length
   ·
    have hbig' : 1048576 < (catN (headsM s.setup ++ s.acts.map lineM)).length := hbig
    repeat (first | refine AL.nil ?_ | refine AWp.seq ?_ | refine AWp.r9 ?_ | refine AWp.c8 rfl ?_ | refine AWp.c9 rfl ?_ | refine AWp.ret ?_ | refine AWp.exit ?_ | (refine zz rfl ?_; first | refine qac rfl ?_ | refine qah rfl ?_ | refine qak rfl rfl rfl (by omega) ?_ | refine qab rfl rfl cL ?_ | refine qaj rfl rfl rfl (by omega) ?_))
    exact ⟨_, ResV.tmp2 rfl, bdd2 _ _, hx.trans d3.hx, by unfold textV; rw [if_pos hc, if_pos hbig]; rfl, rfl⟩
   ·
    have hbig' : ¬ 1048576 < (catN (headsM s.setup ++ s.acts.map lineM)).length := hbig
    repeat (first | refine AL.nil ?_ | refine AWp.seq ?_ | refine AWp.r9 ?_ | refine AWp.c9 rfl ?_ | refine AWp.exit ?_ | refine AWp.k9 ?_ | refine zz rfl (qak rfl rfl rfl (by omega) ?_) | refine zz rfl (qab rfl rfl cL ?_))
    refine zz rfl (qao rfl rfl ((qfW d3 (by omega)).mono ?_))
    rintro _ H6 ⟨rfl, x6⟩
    repeat (first | refine W.w ?_ | refine zz rfl (qac rfl ?_) | refine zz rfl (qah rfl ?_))
    exact ⟨_, ResV.tmp2 rfl, bdd2 _ _, hx.trans x6, by unfold textV; rw [if_pos hc, if_neg hbig]; rfl, rfl⟩
 ·
  repeat (first | refine W.w ?_ | refine AWp.c8 rfl ?_ | (refine zz rfl ?_; first | refine qad rfl ?_ | refine qaz rfl ?_ | refine qac rfl ?_ | refine qah rfl ?_ | refine qaf (sz := 6) rfl rfl hg (Nat.le_refl _) ?_ | refine qab rfl rfl cc ?_ | refine qar rfl rfl ?_ | refine qaj rfl rfl rfl (by exact hc) ?_))
  exact ⟨_, ResV.tmp2 rfl, bdd2 _ _, hx, by unfold textV; rw [if_neg hc]; rfl, rfl⟩
instance i_lay : FnC Tryz.prog 61 := ⟨Tryz.f61, Tryz.func61, by kernel_rfl, by kernel_rfl⟩
theorem qfE {B c : Nat} {h h' : Heap} {e : TypeId} {u : Value} {rows : List (List Value)} (k : Keeps u h h') (r : ON B c h e u rows) : ∀ j b, h.get j = some b → (j < B ∨ b.elem ≠ e) → h'.get j = some b := by
 intro j b hj hb
 refine k.c j b hj fun s n c' hu => ?_
 rcases r.at_ with ⟨h1, _⟩ | ⟨i, cap, h0, h1, h3⟩
 ·
  rw [h1] at hu; cases hu
 ·
  rw [h1] at hu
  cases hu
  rw [hj] at h3
  cases h3
  rcases hb with hb | hb
  ·
   omega
  ·
   exact hb rfl
theorem qhW {B : Nat} {h h' : Heap} {e : TypeId} {u : Value} {vs : List Value} (k : Keeps u h h') (r : OS B h e u vs) : ∀ j b, h.get j = some b → (j < B ∨ b.elem ≠ e) → h'.get j = some b := by
 intro j b hj hb
 refine k.c j b hj fun s n c' hu => ?_
 rcases r with ⟨h1, _⟩ | ⟨i, cap, h0, h1, h3⟩
 ·
  rw [h1] at hu; cases hu
 ·
  rw [h1] at hu
  cases hu
  rw [hj] at h3
  cases h3
  rcases hb with hb | hb
  ·
   omega
  ·
   exact hb rfl
structure GO (B : Nat) (h : Heap) (vg : Value) (gs : List (List Int)) : Prop where
 ex : ∃ vs, OS B h 77 vg vs ∧ vs.length = gs.length ∧ ∀ (k : Nat) v g, vs[k]? = some v → gs[k]? = some g → ∃ B', OS B' h 3 v (iv64 g)
 len : gs.length ≤ 5
 all : ∀ g ∈ gs, g.length ≤ 4
structure AO (B : Nat) (h : Heap) (va : Value) (ac : List ActM) : Prop where
 ex : ∃ rows, ON B 33 h 40 va rows ∧ rows.length = ac.length ∧ ∀ (k : Nat) row a, rows[k]? = some row → ac[k]? = some a → ∃ q, row = actC q a ∧ ∃ B', ActO B' h q a
 len : ac.length ≤ 65536
 all : ∀ a ∈ ac, a.keep.length ≤ 1000
theorem GO.rg {B : Nat} {h : Heap} {vg : Value} {gs : List (List Int)} (g : GO B h vg gs) : RG h vg gs := by
 obtain ⟨vs, h1, h2, h3⟩ := g.ex
 refine ⟨vs, OS.rs h1, h2, by have := g.len; omega, fun k v x hv hx => ?_⟩
 obtain ⟨B', h4⟩ := h3 k v x hv hx
 exact ⟨OS.rs h4, by have := g.all x (List.mem_of_getElem? hx); omega⟩
theorem AO.ra {B : Nat} {h : Heap} {va : Value} {ac : List ActM} (g : AO B h va ac) : RA h va ac := by
 obtain ⟨rows, h1, h2, h3⟩ := g.ex
 refine ⟨⟨rows, h1.rn, h2, fun k row a hr ha => ?_⟩, by have := g.len; omega⟩
 obtain ⟨q, e, B', h4⟩ := h3 k row a hr ha
 exact ⟨q, e, h4.r (by have := g.all a (List.mem_of_getElem? ha); omega)⟩
theorem GO.pres {B : Nat} {h h' : Heap} {vg : Value} {gs : List (List Int)} (g : GO B h vg gs) (p : ∀ j b, h.get j = some b → b.elem = 77 ∨ b.elem = 3 → h'.get j = some b) : GO B h' vg gs := by
 obtain ⟨vs, h1, h2, h3⟩ := g.ex
 refine ⟨⟨vs, OS.elem h1 fun j b hj he => p j b hj (.inl he), h2, fun k v x hv hx => ?_⟩, g.len, g.all⟩
 obtain ⟨B', h4⟩ := h3 k v x hv hx
 exact ⟨B', OS.elem h4 fun j b hj he => p j b hj (.inr he)⟩
theorem AO.pres {B : Nat} {h h' : Heap} {va : Value} {ac : List ActM} (g : AO B h va ac) (p : ∀ j b, h.get j = some b → b.elem = 40 ∨ b.elem = 5 ∨ b.elem = 79 → h'.get j = some b) : AO B h' va ac := by
 obtain ⟨rows, h1, h2, h3⟩ := g.ex
 refine ⟨⟨rows, ⟨h1.len, h1.at_.imp id fun ⟨j, c, g1, g2, g3⟩ => ⟨j, c, g1, g2, p _ _ g3 (.inl rfl)⟩⟩, h2, fun k row a hr ha => ?_⟩, g.len, g.all⟩
 obtain ⟨q, e, B', h4⟩ := h3 k row a hr ha
 exact ⟨q, e, B', h4.elem (fun j b hj he => p j b hj (.inr (.inl he))) (fun j b hj he => p j b hj (.inr (.inr he)))⟩
theorem GO.nil (B : Nat) (h : Heap) : GO B h (.slice none 0 0) [] := ⟨⟨[], OS.nil _ _ _, rfl, fun k v g hv => by simp at hv⟩, Nat.zero_le _, fun g hg => by cases hg⟩
theorem AO.nil (B : Nat) (h : Heap) : AO B h (.slice none 0 0) [] := ⟨⟨[], ON.nil _ _ _ _, rfl, fun k v g hv => by simp at hv⟩, Nat.zero_le _, fun g hg => by cases hg⟩
structure Kp2 (B i : Nat) (h h' : Heap) : Prop where
 c : ∀ j b, h.get j = some b → j ≠ i → (j < B ∨ (b.elem ≠ 40 ∧ b.elem ≠ 77)) → h'.get j = some b
 o : ∀ j b, h.obj j = some b → h'.obj j = some b
 n : h.next ≤ h'.next
theorem Kp2.trans {B i : Nat} {a b c : Heap} (x : Kp2 B i a b) (y : Kp2 B i b c) : Kp2 B i a c := ⟨fun j b h1 h2 h3 => y.c j b (x.c j b h1 h2 h3) h2 h3, fun j b h1 => y.o j b (x.o j b h1), Nat.le_trans x.n y.n⟩
theorem Kp2.ext {B i : Nat} {a b : Heap} (x : Ext a b) (n : a.next ≤ b.next) : Kp2 B i a b := ⟨fun j b h1 _ _ => x.c j b h1, fun j b h1 => x.o j b h1, n⟩
theorem Kp2.set {B i : Nat} (a : Heap) (b : Blk) : Kp2 B i a (a.set i b) := ⟨fun _j _x h1 h2 _ => (Heap.set_other h2).trans h1, fun _j _x h1 => h1, Nat.le_refl _⟩
theorem Kp2.act {B i : Nat} {a b : Heap} {u : Value} {rows : List (List Value)} (k : Keeps u a b) (r : ON B 33 a 40 u rows) (n : a.next ≤ b.next) : Kp2 B i a b := ⟨fun j x h1 _ h3 => qfE k r j x h1 (h3.imp id fun e => e.1), fun j x h1 => k.o j x h1, n⟩
theorem Kp2.grp {B i : Nat} {a b : Heap} {u : Value} {vs : List Value} (k : Keeps u a b) (r : OS B a 77 u vs) (n : a.next ≤ b.next) : Kp2 B i a b := ⟨fun j x h1 _ h3 => qhW k r j x h1 (h3.imp id fun e => e.2), fun j x h1 => k.o j x h1, n⟩
theorem qcn : (44 : TypeId) ≠ 77 ∧ (44 : TypeId) ≠ 3 ∧ (44 : TypeId) ≠ 40 ∧ (44 : TypeId) ≠ 5 ∧ (44 : TypeId) ≠ 79 := by decide
theorem GO.set {B i : Nat} {h : Heap} {vg : Value} {gs : List (List Int)} {x y : Blk} (g : GO B h vg gs) (hi : h.get i = some x) (hx : x.elem = 44) : GO B (h.set i y) vg gs :=
 g.pres fun j b hj he => (Heap.set_other fun e => by
  subst e; rw [hi] at hj; cases hj
  rcases he with he | he
  ·
   exact qcn.1 (hx.symm.trans he)
  ·
   exact qcn.2.1 (hx.symm.trans he)).trans hj
theorem AO.set {B i : Nat} {h : Heap} {va : Value} {ac : List ActM} {x y : Blk} (g : AO B h va ac) (hi : h.get i = some x) (hx : x.elem = 44) : AO B (h.set i y) va ac :=
 g.pres fun j b hj he => (Heap.set_other fun e => by
  subst e; rw [hi] at hj; cases hj
  rcases he with he | he | he
  ·
   exact qcn.2.2.1 (hx.symm.trans he)
  ·
   exact qcn.2.2.2.1 (hx.symm.trans he)
  ·
   exact qcn.2.2.2.2 (hx.symm.trans he)).trans hj
structure ScO (B i : Nat) (h : Heap) (s : ScrM) : Prop where
 ex : ∃ vg va, h.get i = some (scrB vg va s.setup) ∧ GO B h vg s.setup.groups ∧ AO B h va s.acts
theorem lay_c (B i : Nat) (s : ScrM) (line : Bytes) (h : Heap) (t : Tabs h) (h8 : 8 ≤ h.next) (hl : line.length ≤ 100000000) (hB : B ≤ h.next) (_hi : B ≤ i) (o : ScO B i h s) (hn : 1 ≤ s.setup.nodes ∧ s.setup.nodes ≤ 5) :
  ACalls Tryz.prog 61 [ptr i, str line] h fun u h' => u = .bool (layP s line).isSome ∧ ScO B i h' ((layP s line).getD s) ∧ Kp2 B i h h' := by
 refine ACalls.wf fun wf => ?_
 obtain ⟨vg, va, g1, g2, g3⟩ := o.ex
 refine ACalls.body Tryz.func61 rfl rfl ?_
 repeat (first | refine W.w ?_ | refine zz rfl (qal rfl ?_) | refine zz rfl (qaa rfl ?_))
 refine zz rfl (qao rfl rfl ((members_c line h t h8 (by omega)).wf_post.mono ?_))
 rintro _ H1 ⟨⟨v, rfl, ov, x1⟩, w1, n1⟩
 have q1 := x1.c _ _ g1
 have q2 := g2.pres fun j b hj _ => x1.c j b hj
 have q3 := g3.pres fun j b hj _ => x1.c j b hj
 obtain ⟨vs, c1, c2, c3⟩ := q2.ex
 obtain ⟨rows, d1, d2, d3⟩ := q3.ex
 have gl := q2.len
 have al := q3.len
 obtain ⟨ga, gc, hvg⟩ := RS.slice c1.rs
 have no : layP s line = none → (Value.bool false = .bool (layP s line).isSome ∧ ScO B i H1 ((layP s line).getD s) ∧ Kp2 B i h H1) := fun e => by
  rw [e]; exact ⟨rfl, ⟨vg, va, q1, q2, q3⟩, Kp2.ext x1 n1⟩
 have hml : (membersP line).1.length ≤ 4 := by
  have key : ∀ (f : Nat) (r : Bytes), (membersV f r).length ≤ f := by
   intro f
   induction f with
   | zero => intro r; exact Nat.le_refl _
   | succ f ih =>
    intro r
    rw [membersV]
    split
    ·
     exact Nat.zero_le _
    ·
     have := ih (numS r).2
     simp only [List.length_cons]
     omega
  exact key 4 _
 have cg := qe4 s.setup.nodes v (membersP line).1 H1 (OS.rs ov) hn (by omega)
 have hlp : layP s line = if (membersP line).2 then (if s.acts = [] ∧ s.setup.groups.length < 5 ∧ mayGroup s.setup.nodes (membersP line).1 = true then some { s with setup := { s.setup with groups := s.setup.groups ++ [(membersP line).1] } } else none) else (match unlineP line with
  | some a => if mayIn s.setup a = true ∧ s.acts.length < 65536 then some { s with acts := s.acts ++ [a] } else none
  | none => none) := rfl
 generalize (membersP line).1 = mem at hml ov cg hlp no
 cases hm : (membersP line).2 with
 | true =>
  rw [hm, if_pos rfl] at hlp
  by_cases ha : s.acts = []
  ·
   have ha0 : rows.length = 0 := by rw [d2, ha]; rfl
   by_cases hg5 : s.setup.groups.length < 5
   ·
    cases hmg : mayGroup s.setup.nodes mem with
    | true =>
     rw [hmg] at cg
     rw [if_pos ⟨ha, hg5, hmg⟩] at hlp
     have hv1 : oneB v = true := (RS.one (OS.rs ov)).1
     repeat (first | refine W.w ?_ | refine AWp.c8 rfl ?_ | refine AWp.c9 rfl ?_ | (refine zz rfl ?_; first | refine qag rfl ?_ | refine qaw rfl ?_ | refine qaz rfl ?_ | refine qaa rfl ?_ | refine qar rfl rfl ?_ | refine qaq (v := v) rfl ?_ | refine qan (v := v) rfl ?_ | refine qaA rfl ?_ | refine qap rfl ?_ | refine qae rfl rfl q1 rfl ?_ | refine qau d1.rn rfl ?_ | refine qaE c1.rs rfl ?_ | refine qab rfl rfl cg ?_ | refine qak rfl rfl rfl (by omega) ?_ | refine qai (v := .bool _) rfl rfl ?_ | refine qa0 [v] rfl rfl rfl rfl (by intro w hw; rw [List.mem_singleton.1 hw]; exact hv1) ?_ | refine qaD rfl ?_))
     obtain ⟨H2, hQ, gr, xr, wr, nr⟩ := aq w1 ⟨[v], 77, true⟩
     rw [hQ]
     have rb : RS H2 (.slice (some ⟨H1.next, 0, some 1⟩) 1 1) [v] := RS.own gr rfl
     have c1' := c1.ext xr
     refine zz rfl (qbj (by_ := 24) (z := .slice none 0 0) (B := B) (e := 77) rfl wr (by omega) c1' rfl rfl rb.src rfl (by simp [hv1]) (by rw [c2]; simp only [maxLen, List.length_cons, List.length_nil]; omega) (by rw [c2]; simp only [List.length_cons, List.length_nil]; omega) ?_)
     intro u' H3 o3 k3 wf3 n3
     have p3 := qhW k3 c1'
     have e3 := p3 _ _ (xr.c _ _ q1) (.inr qcn.1)
     repeat (first | refine W.w ?_ | refine AL.eff rfl (qaP (b := scrB vg va s.setup) rfl rfl (RS.one o3.rs).1 e3 rfl (by exact Nat.le_of_ble_eq_true rfl) ?_) | (refine zz rfl ?_; first | refine qaa rfl ?_ | refine qaA rfl ?_ | refine qap rfl ?_))
     refine ⟨_, ResV.tmp rfl, by rw [hlp]; rfl, ?_, ((Kp2.ext x1 n1).trans (Kp2.ext xr (by omega))).trans ((Kp2.grp k3 c1' n3).trans (Kp2.set _ _))⟩
     rw [hlp]
     have sg : GO B H3 u' (s.setup.groups ++ [mem]) := by
      refine ⟨⟨vs ++ [v], o3, by simp [c2], fun k w g hw hg => ?_⟩, by rw [List.length_append, List.length_cons, List.length_nil]; omega, fun g hg => ?_⟩
      ·
       rcases Nat.lt_or_ge k vs.length with hk | hk
       ·
        rw [List.getElem?_append_left hk] at hw
        rw [List.getElem?_append_left (by omega)] at hg
        obtain ⟨B', h4⟩ := c3 k w g hw hg
        exact ⟨B', OS.elem (h4.ext xr) fun j b hj he => p3 j b hj (.inr (by rw [he]; decide))⟩
       ·
        rw [List.getElem?_append_right hk] at hw
        rw [List.getElem?_append_right (by omega)] at hg
        have hk0 : k - vs.length = 0 := by
         have := (List.getElem?_eq_some_iff.1 hw).1
         simp at this; omega
        rw [hk0] at hw
        rw [show k - s.setup.groups.length = 0 by omega] at hg
        simp at hw hg
        subst hw hg
        exact ⟨h.next, OS.elem (ov.ext xr) fun j b hj he => p3 j b hj (.inr (by rw [he]; decide))⟩
      ·
       rcases List.mem_append.1 hg with hg | hg
       ·
        exact q2.all g hg
       ·
        rw [List.mem_singleton.1 hg]; exact hml
     have sa : AO B H3 va s.acts := (q3.pres fun j b hj _ => xr.c j b hj).pres fun j b hj he => p3 j b hj (.inr (by rcases he with he | he | he <;> rw [he] <;> decide))
     exact ⟨u', va, Heap.set_at _ _ _, sg.set e3 rfl, sa.set e3 rfl⟩
    | false =>
     rw [hmg] at cg
     rw [if_neg fun e => by rw [hmg] at e; cases e.2.2] at hlp
     repeat (first | refine W.w ?_ | refine AWp.c8 rfl ?_ | (refine zz rfl ?_; first | refine qag rfl ?_ | refine qaw rfl ?_ | refine qaz rfl ?_ | refine qaa rfl ?_ | refine qar rfl rfl ?_ | refine qaq (v := v) rfl ?_ | refine qan (v := v) rfl ?_ | refine qaA rfl ?_ | refine qap rfl ?_ | refine qae rfl rfl q1 rfl ?_ | refine qau d1.rn rfl ?_ | refine qaE c1.rs rfl ?_ | refine qab rfl rfl cg ?_ | refine qak rfl rfl rfl (by omega) ?_ | refine qai (v := .bool _) rfl rfl ?_ | refine qaD rfl ?_))
     exact ⟨_, ResV.tmp rfl, no hlp⟩
   ·
    rw [if_neg fun e => hg5 e.2.1] at hlp
    repeat (first | refine W.w ?_ | refine AL.skip rfl rfl ?_ | refine AWp.c8 rfl ?_ | (refine zz rfl ?_; first | refine qag rfl ?_ | refine qaw rfl ?_ | refine qaz rfl ?_ | refine qaa rfl ?_ | refine qar rfl rfl ?_ | refine qaq (v := v) rfl ?_ | refine qaA rfl ?_ | refine qap rfl ?_ | refine qae rfl rfl q1 rfl ?_ | refine qau d1.rn rfl ?_ | refine qaE c1.rs rfl ?_ | refine qaj rfl rfl rfl (by omega) ?_ | refine qak rfl rfl rfl (by omega) ?_ | refine qai (v := .bool _) rfl rfl ?_))
    exact ⟨_, ResV.tmp rfl, no hlp⟩
  ·
   have ha0 : rows.length ≠ 0 := fun e => ha (List.length_eq_zero_iff.1 (d2 ▸ e))
   rw [if_neg fun e => ha e.1] at hlp
   repeat (first | refine W.w ?_ | refine AL.skip rfl rfl ?_ | refine AWp.c8 rfl ?_ | (refine zz rfl ?_; first | refine qag rfl ?_ | refine qaw rfl ?_ | refine qaz rfl ?_ | refine qaa rfl ?_ | refine qar rfl rfl ?_ | refine qaq (v := v) rfl ?_ | refine qaA rfl ?_ | refine qap rfl ?_ | refine qae rfl rfl q1 rfl ?_ | refine qau d1.rn rfl ?_ | refine qaj rfl rfl rfl (by omega) ?_ | refine qai (v := .bool _) rfl rfl ?_))
   exact ⟨_, ResV.tmp rfl, no hlp⟩
 | false =>
  rw [hm, if_neg Bool.false_ne_true] at hlp
  repeat (first | refine W.w ?_ | refine AWp.c9 rfl ?_ | (refine zz rfl ?_; first | refine qag rfl ?_ | refine qal rfl ?_ | refine qaz rfl ?_ | refine qaa rfl ?_ | refine qar rfl rfl ?_ | refine qaq (v := v) rfl ?_))
  refine zz rfl (qao rfl rfl ((qcb line H1 (t.ext x1) (by omega) (by omega)).wf_post.mono ?_))
  rintro _ H2 ⟨⟨q, rfl, ⟨⟨B2, oa⟩, hkl⟩, x2⟩, w2, n2⟩
  have hua : unA line = match unlineP line with | some a => (a, 0) | none => (act0, 4) := rfl
  have ar := oa.r hkl
  repeat (first | refine W.w ?_ | refine AL.eff rfl (qaC (vs := actC q (unA line).1) rfl rfl rfl rfl (qaG ar) ?_) | (refine zz rfl ?_; first | refine qaz rfl ?_ | refine qac rfl ?_ | refine qar rfl rfl ?_ | refine qat ?_))
  have x3 := w2.ext ⟨actC q (unA line).1, 40, true⟩
  have w3 := w2.alloc ⟨actC q (unA line).1, 40, true⟩
  have g7 := Heap.alloc_new H2 ⟨actC q (unA line).1, 40, true⟩
  have n3 : (H2.alloc ⟨actC q (unA line).1, 40, true⟩).next = H2.next + 1 := rfl
  refine AWp.heap (h := H2.alloc ⟨actC q (unA line).1, 40, true⟩) rfl ?_
  have n3b : H2.next ≤ (H2.alloc ⟨actC q (unA line).1, 40, true⟩).next := Nat.le_succ _
  have n2b : h.next ≤ H2.next := by omega
  replace n2b := Nat.le_trans n2b n3b
  clear n3b
  generalize H2.next = j7 at g7 n3 ⊢
  generalize H2.alloc ⟨actC q (unA line).1, 40, true⟩ = H3 at g7 x3 w3 n3 n2b ⊢
  have x13 := x2.trans x3
  have e1 := x13.c _ _ q1
  have e2 := q2.pres fun j b hj _ => x13.c j b hj
  have e3 := q3.pres fun j b hj _ => x13.c j b hj
  have oa3 : ActO B2 H3 q (unA line).1 := oa.elem (fun j b hj _ => x3.c j b hj) (fun j b hj _ => x3.c j b hj)
  have ar3 := oa3.r hkl
  have k03 := Kp2.ext (B := B) (i := i) (x1.trans x13) n2b
  have no3 : layP s line = none → (Value.bool false = .bool (layP s line).isSome ∧ ScO B i H3 ((layP s line).getD s) ∧ Kp2 B i h H3) := fun e => by
   rw [e]; exact ⟨rfl, ⟨vg, va, e1, e2, e3⟩, k03⟩
  obtain ⟨rows3, d13, d23, d33⟩ := e3.ex
  cases hu : unlineP line with
  | none =>
   rw [hu] at hlp hua
   simp only at hlp hua
   have h4 : (unA line).2 = 4 := by rw [hua]
   refine AWp.drawR mixed (by kernel_rfl) ?_
   rw [h4]
   repeat' (first | refine DAL.skip rfl rfl rfl ?_ | refine DAL.nil ?_ | refine DAL.r rfl rfl rfl (fun h' hx hn => qad rfl ⟨rfl, rfl⟩) ?_ | refine DAL.r rfl rfl rfl (fun h' hx hn => qag rfl ⟨rfl, rfl⟩) ?_ | refine DAL.r rfl rfl rfl (fun h' hx hn => qaj rfl rfl rfl (by omega) ⟨rfl, rfl⟩) ?_ | refine DAL.r rfl rfl rfl (fun h' hx hn => qai (v := .bool _) rfl rfl ⟨rfl, rfl⟩) ?_)
   repeat' (first | refine W.w ?_ | refine AWp.c8 rfl ?_ | refine zz rfl (qaa rfl ?_))
   exact ⟨_, ResV.tmp rfl, no3 hlp⟩
  | some a =>
   rw [hu] at hlp hua
   simp only at hlp hua
   rw [hua] at g7 oa3 ar3
   have h4 : (unA line).2 = 0 := by rw [hua]
   have hka : a.keep.length ≤ 1000 := by
    have hml := (qbY line a).1 hu
    have hq := (qhA (by omega) (by omega) a).1 hml.1
    have := hq.2.2.2.2.2.2.2.2
    unfold kp at this
    rw [Bool.and_eq_true] at this
    have := of_decide_eq_true this.2
    omega
   have cm := fun (h' : Heap) (hx : Ext H3 h') => mayIn_c s.setup vg q a h' (e2.rg.ext hx) (ar3.ext hx)
   cases hmi : mayIn s.setup a with
   | false =>
    rw [if_neg fun e => by rw [hmi] at e; cases e.1] at hlp
    rw [hmi] at cm
    refine AWp.drawR mixed (by kernel_rfl) ?_
    rw [h4]
    repeat' (first | refine DAL.skip rfl rfl rfl ?_ | refine DAL.nil ?_ | refine DAL.r rfl rfl rfl (fun h' hx hn => qad rfl ⟨rfl, rfl⟩) ?_ | refine DAL.r rfl rfl rfl (fun h' hx hn => qag rfl ⟨rfl, rfl⟩) ?_ | refine DAL.r rfl rfl rfl (fun h' hx hn => qaw rfl ⟨rfl, rfl⟩) ?_ | refine DAL.r rfl rfl rfl (fun h' hx hn => qaA rfl ⟨rfl, rfl⟩) ?_ | refine DAL.r rfl rfl rfl (fun h' hx hn => qap rfl ⟨rfl, rfl⟩) ?_ | refine DAL.r rfl rfl rfl (fun h' hx hn => qaf (sz := 5) rfl rfl (hx.c _ _ e1) (Nat.le_of_ble_eq_true rfl) ⟨rfl, rfl⟩) ?_ | refine DAL.r rfl rfl rfl (fun h' hx hn => qaf (sz := 33) rfl rfl (hx.c _ _ g7) (Nat.le_refl _) ⟨rfl, rfl⟩) ?_ | refine DAL.r rfl rfl rfl (fun h' hx hn => qab rfl rfl (cm h' hx) ⟨rfl, rfl⟩) ?_ | refine DAL.r rfl rfl rfl (fun h' hx hn => qak rfl rfl rfl (by omega) ⟨rfl, rfl⟩) ?_ | refine DAL.r rfl rfl rfl (fun h' hx hn => qaD rfl ⟨rfl, rfl⟩) ?_ | refine DAL.r rfl rfl rfl (fun h' hx hn => qai (v := .bool _) rfl rfl ⟨rfl, rfl⟩) ?_)
    repeat' (first | refine W.w ?_ | refine AWp.c8 rfl ?_ | refine zz rfl (qaa rfl ?_))
    exact ⟨_, ResV.tmp rfl, no3 hlp⟩
   | true =>
    rw [hmi] at cm
    by_cases hfull : s.acts.length < 65536
    ·
     rw [if_pos ⟨hmi, hfull⟩] at hlp
     refine AWp.drawR mixed (by kernel_rfl) ?_
     rw [h4]
     repeat' (first | refine DAL.nil ?_ | refine DAL.r rfl rfl rfl (fun h' hx hn => qad rfl ⟨rfl, rfl⟩) ?_ | refine DAL.r rfl rfl rfl (fun h' hx hn => qag rfl ⟨rfl, rfl⟩) ?_ | refine DAL.r rfl rfl rfl (fun h' hx hn => qaw rfl ⟨rfl, rfl⟩) ?_ | refine DAL.r rfl rfl rfl (fun h' hx hn => qaA rfl ⟨rfl, rfl⟩) ?_ | refine DAL.r rfl rfl rfl (fun h' hx hn => qap rfl ⟨rfl, rfl⟩) ?_ | refine DAL.r rfl rfl rfl (fun h' hx hn => qaf (sz := 5) rfl rfl (hx.c _ _ e1) (Nat.le_of_ble_eq_true rfl) ⟨rfl, rfl⟩) ?_ | refine DAL.r rfl rfl rfl (fun h' hx hn => qaf (sz := 33) rfl rfl (hx.c _ _ g7) (Nat.le_refl _) ⟨rfl, rfl⟩) ?_ | refine DAL.r rfl rfl rfl (fun h' hx hn => qab rfl rfl (cm h' hx) ⟨rfl, rfl⟩) ?_ | refine DAL.r rfl rfl rfl (fun h' hx hn => qae rfl rfl (hx.c _ _ e1) rfl ⟨rfl, rfl⟩) ?_ | refine DAL.r rfl rfl rfl (fun h' hx hn => qau (d13.rn.ext hx) rfl ⟨rfl, rfl⟩) ?_ | refine DAL.r rfl rfl rfl (fun h' hx hn => qak rfl rfl rfl (by omega) ⟨rfl, rfl⟩) ?_ | refine DAL.r rfl rfl rfl (fun h' hx hn => qaD rfl ⟨rfl, rfl⟩) ?_ | refine DAL.r rfl rfl rfl (fun h' hx hn => qai (v := .bool _) rfl rfl ⟨rfl, rfl⟩) ?_)
     repeat (first | refine W.w ?_ | refine AWp.c9 rfl ?_)
     refine AWp.tree (t := OT.seq [(0, .P), (1, .R), (2, .R), (3, .R), (4, .R), (5, .R), (6, .X), (7, .W), (8, .P), (9, .P), (10, .W)] .nil) mixed (by kernel_rfl) ?_
     repeat (first | refine TAL.r rfl rfl rfl (fun h' hx hn => qaw rfl ⟨rfl, rfl⟩) ?_ | refine TAL.r rfl rfl rfl (fun h' hx hn => qaA rfl ⟨rfl, rfl⟩) ?_ | refine TAL.r rfl rfl rfl (fun h' hx hn => qap rfl ⟨rfl, rfl⟩) ?_ | refine TAL.r rfl rfl rfl (fun h' hx hn => qae rfl rfl (hx.c _ _ e1) rfl ⟨rfl, rfl⟩) ?_ | refine TAL.r rfl rfl rfl (fun h' hx hn => qaf (sz := 33) rfl rfl (hx.c _ _ g7) (Nat.le_refl _) ⟨rfl, rfl⟩) ?_ | refine TAL.p rfl rfl rfl (fun h' hn => qaw rfl ⟨rfl, rfl⟩) ?_)
     refine TAL.x rfl rfl rfl (qfy (sz := 33) (row := actC q a) (by decide) (by decide) rfl rfl ⟨w3.ext _, ?_⟩)
     obtain ⟨H4, hQ, gr, xr, wr, nr⟩ := aq w3 ⟨actC q a, 40, true⟩
     rw [hQ]
     have rb : RN 33 H4 (.slice (some ⟨H3.next, 0, some 33⟩) 1 1) [actC q a] := RN.row1 rfl gr
     have d14 := d13.ext xr
     refine TAL.w rfl rfl rfl (qdl (m := 1) (B := B) (e := 40) (news := [actC q a]) rfl wr (by omega) d14 rfl rfl rb.src rfl (by intro w hw; rw [List.mem_singleton.1 hw]; rfl) (by simpa using qaG ar3) (by rw [d23]; simp only [maxLen]; omega) (by rw [d23]; omega) ?_)
     intro u' H5 o5 _ k5 wf5 n5
     have p5 := qfE k5 d14
     have e5 := p5 _ _ (xr.c _ _ e1) (.inr qcn.2.2.1)
     repeat (first | refine TAL.p rfl rfl rfl (fun h' hn => qaA rfl ⟨rfl, rfl⟩) ?_ | refine TAL.p rfl rfl rfl (fun h' hn => qap rfl ⟨rfl, rfl⟩) ?_)
     refine TAL.w0 rfl rfl (qaP (b := scrB vg va s.setup) rfl rfl o5.one e5 rfl (by exact Nat.le_of_ble_eq_true rfl) ?_)
     refine TAL.nil ?_
     repeat (first | refine W.w ?_ | refine zz rfl (qaa rfl ?_))
     refine ⟨_, ResV.tmp rfl, by rw [hlp]; rfl, ?_, (k03.trans (Kp2.ext xr (by omega))).trans ((Kp2.act k5 d14 n5).trans (Kp2.set _ _))⟩
     rw [hlp]
     have sg : GO B H5 vg s.setup.groups := (e2.pres fun j b hj _ => xr.c j b hj).pres fun j b hj he => p5 j b hj (.inr (by rcases he with he | he <;> rw [he] <;> decide))
     have sa : AO B H5 u' (s.acts ++ [a]) := by
      refine ⟨⟨rows3 ++ [actC q a], o5, by simp [d23], fun k w g hw hg => ?_⟩, by rw [List.length_append, List.length_cons, List.length_nil]; omega, fun g hg => ?_⟩
      ·
       rcases Nat.lt_or_ge k rows3.length with hk | hk
       ·
        rw [List.getElem?_append_left hk] at hw
        rw [List.getElem?_append_left (by omega)] at hg
        obtain ⟨q', er, B', h4⟩ := d33 k w g hw hg
        exact ⟨q', er, B', h4.elem (fun j b hj he => p5 j b (xr.c j b hj) (.inr (by rw [he]; decide))) (fun j b hj he => p5 j b (xr.c j b hj) (.inr (by rw [he]; decide)))⟩
       ·
        rw [List.getElem?_append_right hk] at hw
        rw [List.getElem?_append_right (by omega)] at hg
        have hk0 : k - rows3.length = 0 := by
         have := (List.getElem?_eq_some_iff.1 hw).1
         simp at this; omega
        rw [hk0] at hw
        rw [show k - s.acts.length = 0 by omega] at hg
        simp at hw hg
        subst hw hg
        exact ⟨q, rfl, B2, oa3.elem (fun j b hj he => p5 j b (xr.c j b hj) (.inr (by rw [he]; decide))) (fun j b hj he => p5 j b (xr.c j b hj) (.inr (by rw [he]; decide)))⟩
      ·
       rcases List.mem_append.1 hg with hg | hg
       ·
        exact e3.all g hg
       ·
        rw [List.mem_singleton.1 hg]; exact hka
     exact ⟨vg, u', Heap.set_at _ _ _, sg.set e5 rfl, sa.set e5 rfl⟩
    ·
     rw [if_neg fun e => hfull e.2] at hlp
     refine AWp.drawR mixed (by kernel_rfl) ?_
     rw [h4]
     repeat' (first | refine DAL.nil ?_ | refine DAL.r rfl rfl rfl (fun h' hx hn => qad rfl ⟨rfl, rfl⟩) ?_ | refine DAL.r rfl rfl rfl (fun h' hx hn => qag rfl ⟨rfl, rfl⟩) ?_ | refine DAL.r rfl rfl rfl (fun h' hx hn => qaw rfl ⟨rfl, rfl⟩) ?_ | refine DAL.r rfl rfl rfl (fun h' hx hn => qaA rfl ⟨rfl, rfl⟩) ?_ | refine DAL.r rfl rfl rfl (fun h' hx hn => qap rfl ⟨rfl, rfl⟩) ?_ | refine DAL.r rfl rfl rfl (fun h' hx hn => qaf (sz := 5) rfl rfl (hx.c _ _ e1) (Nat.le_of_ble_eq_true rfl) ⟨rfl, rfl⟩) ?_ | refine DAL.r rfl rfl rfl (fun h' hx hn => qaf (sz := 33) rfl rfl (hx.c _ _ g7) (Nat.le_refl _) ⟨rfl, rfl⟩) ?_ | refine DAL.r rfl rfl rfl (fun h' hx hn => qab rfl rfl (cm h' hx) ⟨rfl, rfl⟩) ?_ | refine DAL.r rfl rfl rfl (fun h' hx hn => qae rfl rfl (hx.c _ _ e1) rfl ⟨rfl, rfl⟩) ?_ | refine DAL.r rfl rfl rfl (fun h' hx hn => qau (d13.rn.ext hx) rfl ⟨rfl, rfl⟩) ?_ | refine DAL.r rfl rfl rfl (fun h' hx hn => qaj rfl rfl rfl (by omega) ⟨rfl, rfl⟩) ?_ | refine DAL.r rfl rfl rfl (fun h' hx hn => qak rfl rfl rfl (by omega) ⟨rfl, rfl⟩) ?_ | refine DAL.r rfl rfl rfl (fun h' hx hn => qaD rfl ⟨rfl, rfl⟩) ?_ | refine DAL.r rfl rfl rfl (fun h' hx hn => qai (v := .bool _) rfl rfl ⟨rfl, rfl⟩) ?_)
     repeat' (first | refine W.w ?_ | refine AWp.c8 rfl ?_ | refine zz rfl (qaa rfl ?_))
     exact ⟨_, ResV.tmp rfl, no3 hlp⟩
end Go.Proofs.YtigmojilaadbhaaGreatDoor
/- . -/
namespace Go.Pln
open Go Go.Lib
def PI (text : Bytes) (n : Nat) (rest : Bytes) (s : ScrM) : Prop :=
 (n = 0 ∧ rest = text ∧ s = scr0) ∨ ∃ x l, n = l.length + 1 ∧ splitN text = (x :: (l ++ (splitN rest).1), (splitN rest).2) ∧ (firstP x).2 = true ∧ layAll layP ⟨(firstP x).1, []⟩ 1 l = (some s, n)
theorem qfb {text x : Bytes} {l : List Bytes} {r : Bytes} (hl : text.length ≤ 1048576) (hs : splitN text = (x :: l, r)) (hf : (firstP x).2 = true) : parseP text = match layAll layP ⟨(firstP x).1, []⟩ 1 l with
  | (some s, n) => if r ≠ [] ∨ s.setup.groups.length < 2 then (scr0, (n : Int), 4) else (s, 0, 0)
  | (none, n) => (scr0, (n : Int), 4) := by
 unfold parseP parseW
 rw [if_neg (by omega), hs]
 simp only
 rw [if_pos hf]
 rcases layAll layP ⟨(firstP x).1, []⟩ 1 l with ⟨_ | s, n⟩ <;> rfl
theorem PI.fin {text : Bytes} {n : Nat} {s : ScrM} (hl : text.length ≤ 1048576) (p : PI text n [] s) : parseP text = if s.setup.groups.length < 2 then (scr0, (n : Int), 4) else (s, 0, 0) := by
 rcases p with ⟨rfl, rfl, rfl⟩ | ⟨x, l, h1, h2, h3, h4⟩
 ·
  rfl
 ·
  have h2' : splitN text = (x :: l, []) := by
   rw [h2]
   show (x :: (l ++ (splitN []).1), (splitN []).2) = _
   simp [splitN]
  rw [qfb hl h2' h3, h4]
  simp
theorem PI.step0 {text : Bytes} (hw : (cutN text).2.2 = true) (hf : (firstP (cutN text).1).2 = true) : PI text 1 (cutN text).2.1 ⟨(firstP (cutN text).1).1, []⟩ := by
 refine .inr ⟨(cutN text).1, [], rfl, ?_, hf, rfl⟩
 rw [qcv text, if_pos hw]
 rfl
theorem PI.bad0 {text : Bytes} (hl : text.length ≤ 1048576) (hb : ¬ ((firstP (cutN text).1).2 = true ∧ (cutN text).2.2 = true)) : parseP text = (scr0, 0, 4) := by
 unfold parseP parseW
 rw [if_neg (by omega), qcv text]
 by_cases hw : (cutN text).2.2 = true
 ·
  rw [if_pos hw]
  simp only
  rw [if_neg fun e => hb ⟨e, hw⟩]
 ·
  rw [if_neg hw]
theorem PI.step {text rest : Bytes} {n : Nat} {s t : ScrM} (p : PI text n rest s) (hn : n ≠ 0) (hw : (cutN rest).2.2 = true) (hs : layP s (cutN rest).1 = some t) : PI text (n + 1) (cutN rest).2.1 t := by
 rcases p with ⟨h, _⟩ | ⟨x, l, h1, h2, h3, h4⟩
 ·
  exact absurd h hn
 ·
  refine .inr ⟨x, l ++ [(cutN rest).1], by simp [h1], ?_, h3, ?_⟩
  ·
   rw [h2, qcv rest, if_pos hw]
   simp
  ·
   rw [qbz layP l [(cutN rest).1] 1 h4, layAll, hs]
   rfl
theorem PI.bad {text rest : Bytes} {n : Nat} {s : ScrM} (hl : text.length ≤ 1048576) (p : PI text n rest s) (hn : n ≠ 0) (hne : rest ≠ []) (hb : ¬ ((layP s (cutN rest).1).isSome = true ∧ (cutN rest).2.2 = true)) : parseP text = (scr0, (n : Int), 4) := by
 rcases p with ⟨h, _⟩ | ⟨x, l, h1, h2, h3, h4⟩
 ·
  exact absurd h hn
 ·
  rw [qfb hl h2 h3, qbz layP l _ 1 h4, qcv rest]
  by_cases hw : (cutN rest).2.2 = true
  ·
   rw [if_pos hw]
   cases hs : layP s (cutN rest).1 with
   | some t => exact absurd ⟨by rw [hs]; rfl, hw⟩ hb
   | none => rw [layAll, hs]
  ·
   rw [if_neg hw]
   simp only [layAll]
   rw [if_pos (.inl hne)]
theorem PI.nodes {text rest : Bytes} {n : Nat} {s : ScrM} (p : PI text n rest s) (hn : n ≠ 0) : 1 ≤ s.setup.nodes ∧ s.setup.nodes ≤ 5 := by
 rcases p with ⟨h, _⟩ | ⟨x, l, h1, h2, h3, h4⟩
 ·
  exact absurd h hn
 ·
  obtain ⟨g1, g2, g3, _⟩ := qdu h3
  obtain ⟨gs, ac, h5, _⟩ := qcP l 1 (s := ⟨(firstP x).1, []⟩) g1 h4
  have hsz := of_decide_eq_true g2
  rw [h5]
  exact ⟨hsz.1, hsz.2.1⟩
end Go.Pln
/- . -/
namespace Go.Eng
open Go
variable {P : Program} {h : Heap}
theorem ResV.cell3 {fn : Func} {env : Env} {a u y : Tmp} {t : TypeId} {i o sz by_ : Nat} {z : Value} {s : Option Nat} {b : Blk} {d : TypeDesc} [td : TyD P t d] [ti : TyI P t sz by_ z] (hr : fn.results = #[.cell a t, .tmp u, .tmp y]) (hx : env.get a = .pointer (some ⟨i, o, s⟩)) (ha : aggB d = true)
  (hi : h.get i = some b) (hl : o + sz ≤ b.cells.length) : ResV P fn env h (.tuple #[.agg ((b.cells.drop o).take sz).toArray, env.get u, env.get y]) := by
 intro N φ tmps w r
 obtain ⟨v, h1, h2⟩ := qdF (P := P) (t := t) r.sim (hx ▸ r.env a) ha hi hl
 refine ⟨.tuple #[v, tmps.getD u undef, tmps.getD y undef], ?_, .tuple3 h2 (r.env u) (r.env y)⟩
 have h3 : (results fn tmps).run P w = (do let x ← loadVar t (← asAddr (tmps.getD a undef)); pure (.tuple #[x, tmps.getD u undef, tmps.getD y undef]) : Sem Value).run P w := by
  simp only [results, hr]
  simp only [List.mapM_toArray, List.mapM_cons, List.mapM_nil, Sem.run_bind, Sem.run_map, Sem.run_pure]
  cases (asAddr (tmps.getD a undef)).run P w with
  | halt x w1 => rfl
  | ok x w1 =>
   simp only [Result.andThen_ok]
   cases (loadVar t x).run P w1 with
   | halt y w2 => rfl
   | ok y w2 => rfl
 rw [h3]
 simp only [Sem.run_bind] at h1 ⊢
 cases h4 : (asAddr (tmps.getD a undef)).run P w with
 | halt x w1 => rw [h4] at h1; cases h1
 | ok x w1 =>
  rw [h4] at h1
  simp only [Result.andThen_ok] at h1 ⊢
  rw [h1]
  simp
end Go.Eng
