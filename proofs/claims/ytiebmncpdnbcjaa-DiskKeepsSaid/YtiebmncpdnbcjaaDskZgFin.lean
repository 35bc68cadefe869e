/-
  DiskKeeps.
-/
import Derived.Test.YtiebmncpdnbcjaaMrgh
namespace Go.Proofs.Ytiebmncpdnbcjaa
open Go Go.Eng Go.Dsk
attribute [local irreducible] AWp AL DAL AOp TAL

theorem app_zero {room : Nat} {l : FL} {s b : List UInt8} (h : appE room l s b = 0) : goodN s = true := by
  cases hg : goodN s with
  | true => rfl
  | false => unfold appE at h; rw [hg] at h; cases h
theorem app_hasS {room c : Nat} {l : FL} {s b : List UInt8} (hn : (l.map (·.1)).Nodup) (h : appE room l s b = 0) : hasS (appL room l c s b) s = true := by
  unfold appL
  rw [if_pos h, has_getS, getS_putD hn, if_pos rfl]
  rfl
theorem open_got {l : FL} {s : List UInt8} (h1 : goodN s = true) (h3 : hasS l s = true) : openE l s [] = 0 := by
  unfold openE
  rw [h1, h3]
  rfl
theorem openF_got {l : FL} {s : List UInt8} (h : openE l s [] = 0) : openF l s [] = fileOf l s := by
  unfold openF
  rw [if_pos h]
theorem Ext.md {h0 H h2 : Heap} {j : Nat} (hx : Ext h0 H) (md : Md j H h2) (lj : h0.get j = none) : Ext h0 h2 := ⟨fun q b hq => md.c q b (hx.c q b hq) (ne_get hq lj), fun q b hq => md.o q b (hx.o q b hq)⟩
/-- What is read of a file that both disks have. -/
theorem St.file {h0 H : Heap} {room i m : Nat} {l : FL} {c j : Nat} {v : Value} {F : List RF} (z : St h0 H room i m l c j v F) {y : RF} (hy : y ∈ F) : openE l y.1 [] = 0 ∧ openF l y.1 [] = (y.2.1, y.2.2) := by
  obtain ⟨h1, h2⟩ := Sm.file z.sm z.dk.ok.names hy
  obtain ⟨e, he, h3⟩ := List.mem_map.1 (has_mem.1 h2)
  have hg := z.dk.ok.good e he
  rw [h3] at hg
  have h4 := open_got hg h2
  exact ⟨h4, (openF_got h4).trans h1⟩
theorem len_of {F : List RF} {y : RF} (hy : y ∈ F) : y.2.1.length + y.2.2.length ≤ usedR F := by
  obtain ⟨k, hk⟩ := List.getElem?_of_mem hy
  have h1 := usedR_take hk
  have h2 := usedR_le F (k + 1)
  omega
abbrev stepZ : Blk := ⟨[.int .i64 0, .string ⟨#[]⟩, .string ⟨#[]⟩, .slice none 0 0, .slice none 0 0], 41, true⟩
set_option maxHeartbeats 8000000 in
set_option maxRecDepth 4000 in
theorem keeps_walk (room : Int) (lv : Value) (L : List StepT) (s : List UInt8) (bv_ : Value) (b : List UInt8) (mv : Value) (M : List StepT) (h : Heap) (r : Steps h lv L) (hs : s.length ≤ 4611686018427387904) (rb : RB h bv_ b) (hbl : b.length ≤ 4611686018427387904) (r2 : Steps h mv M) :
    ACalls Try.prog 3 [.int .i64 room, lv, .string (bstr s), bv_, mv] h fun v _ => v = .bool true := by
  refine ACalls.wf fun wf => ?_
  refine ACalls.body Try.func3 rfl rfl ?_
  have hlen : (M.map stepT).length = M.length := by simp
  have hll := r2.len
  repeat (first | refine AL.nil ?_ | refine AWp.seq ?_ | refine AWp.region ?_ | refine AWp.condF rfl ?_ | refine AWp.skip ?_ | refine AL.set rfl rfl (op_assignB rfl ?_) | refine AL.set rfl rfl (op_callS rfl rfl (known_c h) ?_) | refine AL.set rfl rfl (op_not rfl ?_) | refine AL.set rfl rfl (op_move (by conv => lhs; whnf) ?_))
  refine AL.set rfl rfl (op_call rfl rfl ((much_c lv L 30 h r).mono ?_))
  rintro _ H0 ⟨q, rfl, hH0, hq⟩
  cases hH0.symm
  cases q with
  | true =>
    repeat (first | refine AL.nil ?_ | refine AL.skip rfl rfl ?_ | refine AWp.seq ?_ | refine AWp.region ?_ | refine AWp.condT rfl ?_ | refine AWp.ret ?_ | refine AL.set rfl rfl (op_moveB rfl ?_) | refine AL.set rfl rfl (op_assignB rfl ?_) | refine AL.set rfl rfl (op_pick (v := .bool _) rfl rfl ?_))
    exact ⟨_, ResV.tmp rfl, rfl⟩
  | false =>
  obtain ⟨_, hf⟩ := hq rfl
  repeat (first | refine AL.set rfl rfl (op_moveB rfl ?_) | refine AL.set rfl rfl (op_move (by conv => lhs; whnf) ?_))
  refine AL.set rfl rfl (op_call rfl rfl ((much_c mv M 30 h r2).mono ?_))
  rintro _ H0 ⟨q2, rfl, hH0, hq2⟩
  cases hH0.symm
  cases q2 with
  | true =>
    repeat (first | refine AL.nil ?_ | refine AL.skip rfl rfl ?_ | refine AWp.seq ?_ | refine AWp.region ?_ | refine AWp.condT rfl ?_ | refine AWp.ret ?_ | refine AL.set rfl rfl (op_moveB rfl ?_) | refine AL.set rfl rfl (op_assignB rfl ?_) | refine AL.set rfl rfl (op_pick (v := .bool _) rfl rfl ?_))
    exact ⟨_, ResV.tmp rfl, rfl⟩
  | false =>
  obtain ⟨_, hf2⟩ := hq2 rfl
  by_cases hA : 9000 < b.length
  · repeat (first | refine AL.nil ?_ | refine AL.skip rfl rfl ?_ | refine AWp.seq ?_ | refine AWp.region ?_ | refine AWp.condT rfl ?_ | refine AWp.ret ?_ | refine AL.set rfl rfl (op_moveB rfl ?_) | refine AL.set rfl rfl (op_assignB rfl ?_) | refine AL.set rfl rfl (op_lenRB rb rfl ?_) | refine AL.set rfl rfl (op_intT rfl rfl rfl (by omega) ?_) | refine AL.set rfl rfl (op_pick (v := .bool _) rfl rfl ?_) | refine AL.set rfl rfl (op_move (by conv => lhs; whnf) ?_))
    exact ⟨_, ResV.tmp rfl, rfl⟩
  by_cases hB : 1000 < s.length
  · repeat (first | refine AL.nil ?_ | refine AWp.seq ?_ | refine AWp.region ?_ | refine AWp.condT rfl ?_ | refine AWp.ret ?_ | refine AL.set rfl rfl (op_moveB rfl ?_) | refine AL.set rfl rfl (op_moveStr rfl ?_) | refine AL.set rfl rfl (op_assignB rfl ?_) | refine AL.set rfl rfl (op_lenRB rb rfl ?_) | refine AL.set rfl rfl (op_lenSB rfl ?_) | refine AL.set rfl rfl (op_intT rfl rfl rfl (by omega) ?_) | refine AL.set rfl rfl (op_intF rfl rfl rfl (by omega) ?_) | refine AL.set rfl rfl (op_pick (v := .bool _) rfl rfl ?_) | refine AL.set rfl rfl (op_move (by conv => lhs; whnf) ?_))
    exact ⟨_, ResV.tmp rfl, rfl⟩
  repeat (first | refine AL.nil ?_ | refine AWp.seq ?_ | refine AWp.region ?_ | refine AWp.condF rfl ?_ | refine AWp.skip ?_ | refine AL.set rfl rfl (op_moveI rfl ?_) | refine AL.set rfl rfl (op_moveB rfl ?_) | refine AL.set rfl rfl (op_moveStr rfl ?_) | refine AL.set rfl rfl (op_lenRB rb rfl ?_) | refine AL.set rfl rfl (op_lenSB rfl ?_) | refine AL.set rfl rfl (op_intF rfl rfl rfl (by omega) ?_) | refine AL.set rfl rfl (op_pick (v := .bool _) rfl rfl ?_) | refine AL.set rfl rfl (op_move (by conv => lhs; whnf) ?_))
  refine AL.set rfl rfl (op_call rfl rfl ((made_c room lv L h r hf).mono ?_))
  rintro _ H1 (⟨hn, rfl, rfl⟩ | ⟨rm, rfl, hn, i, m, l, c, j, v, rfl, z⟩)
  · repeat (first | refine AL.nil ?_ | refine AWp.seq ?_ | refine AWp.region ?_ | refine AWp.condT rfl ?_ | refine AWp.ret ?_ | refine AL.set rfl rfl (op_moveI rfl ?_) | refine AL.set rfl rfl (op_moveP rfl ?_) | refine AL.set rfl rfl (op_moveT rfl ?_) | refine AL.set rfl rfl (op_assignB rfl ?_) | refine AL.set rfl rfl (op_assignP rfl ?_) | refine AL.set rfl rfl (op_extract rfl rfl ?_) | refine AL.set rfl rfl (op_eqPtrNil rfl rfl ?_) | refine AL.set rfl rfl (op_callS rfl rfl (rnew_no room H1 hn) ?_))
    exact ⟨_, ResV.tmp rfl, rfl⟩
  generalize runF rm L = F at z
  repeat (first | refine AL.nil ?_ | refine AWp.seq ?_ | refine AWp.region ?_ | refine AWp.condF rfl ?_ | refine AWp.skip ?_ | refine AL.set rfl rfl (op_moveP rfl ?_) | refine AL.set rfl rfl (op_moveStr rfl ?_) | refine AL.set rfl rfl (op_moveT rfl ?_) | refine AL.set rfl rfl (op_assignP rfl ?_) | refine AL.set rfl rfl (op_extract rfl rfl ?_) | refine AL.set rfl rfl (op_eqPtrNil rfl rfl ?_) | refine AL.set rfl rfl (op_move (by conv => lhs; whnf) ?_))
  have ca := append_c i m rm l c s bv_ b H1 z.dk hs (rb.ext z.ext) hbl
  have li1 := z.dk.lt z.wf
  have k1 := st_ch (room := rm) (l := appL rm l c s b) (c := appC rm l c s b) z.wf li1.1 li1.2
  have rk1 := z.rk.ch k1 (fun e => z.ne e.symm) z.nv
  have x1 : Ext h (stD H1 i m rm (appL rm l c s b) (appC rm l c s b)) := ⟨fun q b hq => k1.c q b (z.ext.c q b hq) (ne_get hq z.li), fun q b hq => k1.o q b (z.ext.o q b hq) (ne_obj hq z.lm)⟩
  have d1 := DOk.app z.dk.ok s b
  have a1 : At (stD H1 i m rm (appL rm l c s b) (appC rm l c s b)) i m rm (appL rm l c s b) (appC rm l c s b) := At.st d1 z.dk.big
  have m1 := app_sm z.sm z.dk.ok (c := c) s b
  have hae := app_eq z.sm z.dk.ok s b
  by_cases hE : appE rm l s b = 0
  rotate_left
  · refine AL.set rfl rfl (op_call rfl rfl (ca.mono ?_))
    rintro _ _ ⟨rfl, rfl⟩
    have cr := rappend_c j rm v F s bv_ b _ rk1 hs (rb.ext x1) hbl
    generalize stD H1 i m rm (appL rm l c s b) (appC rm l c s b) = H2 at cr ⊢
    repeat (first | refine AL.nil ?_ | refine AL.skip rfl rfl ?_ | refine AWp.seq ?_ | refine AWp.region ?_ | refine AWp.condT rfl ?_ | refine AL.set rfl rfl (op_moveB rfl ?_) | refine AL.set rfl rfl (op_moveP rfl ?_) | refine AL.set rfl rfl (op_moveStr rfl ?_) | refine AL.set rfl rfl (op_callS rfl rfl (num_c _ H2) ?_) | refine AL.set rfl rfl (op_intT rfl rfl rfl (by exact hE) ?_) | refine AL.set rfl rfl (op_pick (v := .bool _) rfl rfl ?_) | refine AL.set rfl rfl (op_move (by conv => lhs; whnf) ?_))
    refine AL.set rfl rfl (op_call rfl rfl (cr.mono ?_))
    rintro _ H3 ⟨rfl, _⟩
    repeat (first | refine AL.nil ?_ | refine AWp.ret ?_ | refine AL.set rfl rfl (op_assignB rfl ?_) | refine AL.set rfl rfl (op_intT rfl rfl rfl (by rw [← hae]; exact hE) ?_))
    exact ⟨_, ResV.tmp rfl, rfl⟩
  have hg := app_zero hE
  have hh1 := app_hasS (c := c) z.dk.ok.names hE
  rw [hE] at ca
  rw [hE] at hae
  refine AL.set rfl rfl (op_call rfl rfl (ca.mono ?_))
  rintro _ _ ⟨rfl, rfl⟩
  have zne := z.ne
  have znv := z.nv
  have zli := z.li
  have zlj := z.lj
  have zlm := z.lm
  have zbig := z.dk.big
  have wf2 := k1.wf
  clear ca z k1
  generalize stD H1 i m rm (appL rm l c s b) (appC rm l c s b) = H2 at rk1 x1 a1 wf2 ⊢
  have hb1 : Sm (appL rm l c s b) (appR rm F s b) := m1
  clear m1
  generalize appL rm l c s b = l1 at a1 d1 hh1 hb1 ⊢
  generalize appC rm l c s b = c1 at a1 d1 ⊢
  have hE1 := open_got hg hh1
  have cs := sync_c i m rm l1 c1 s H2 a1 hs
  rw [hE1] at cs
  repeat (first | refine AL.set rfl rfl (op_moveB rfl ?_) | refine AL.set rfl rfl (op_moveP rfl ?_) | refine AL.set rfl rfl (op_moveStr rfl ?_) | refine AL.set rfl rfl (op_callS rfl rfl (num_c _ H2) ?_) | refine AL.set rfl rfl (op_intF rfl rfl rfl (by exact fun e => e rfl) ?_))
  refine AL.set rfl rfl (op_call rfl rfl (cs.mono ?_))
  rintro _ _ ⟨rfl, rfl⟩
  have li2 := a1.lt wf2
  have k2 := st_ch (room := rm) (l := syncL l1 c1 s) (c := syncC l1 c1 s) wf2 li2.1 li2.2
  have rk2 := rk1.ch k2 (fun e => zne e.symm) znv
  have x2 : Ext h (stD H2 i m rm (syncL l1 c1 s) (syncC l1 c1 s)) := ⟨fun q b hq => k2.c q b (x1.c q b hq) (ne_get hq zli), fun q b hq => k2.o q b (x1.o q b hq) (ne_obj hq zlm)⟩
  have d2 := DOk.syncL d1 s
  have a2 : At (stD H2 i m rm (syncL l1 c1 s) (syncC l1 c1 s)) i m rm (syncL l1 c1 s) (syncC l1 c1 s) := At.st d2 zbig
  have hS : syncL l1 c1 s = putD l1 s (allF (fileOf l1 s), []) c1 := by unfold syncL; rw [if_pos hE1]
  have wf3 := k2.wf
  clear cs k2 rk1 x1 a1 wf2
  generalize stD H2 i m rm (syncL l1 c1 s) (syncC l1 c1 s) = H3 at rk2 x2 a2 wf3 ⊢
  generalize syncL l1 c1 s = l2 at a2 d2 hS ⊢
  generalize syncC l1 c1 s = c2 at a2 d2 ⊢
  repeat (first | refine AL.nil ?_ | refine AWp.seq ?_ | refine AWp.region ?_ | refine AWp.condF rfl ?_ | refine AWp.skip ?_ | refine AL.set rfl rfl (op_moveP rfl ?_) | refine AL.set rfl rfl (op_moveStr rfl ?_) | refine AL.set rfl rfl (op_callS rfl rfl (num_c _ H3) ?_) | refine AL.set rfl rfl (op_intF rfl rfl rfl (by exact fun e => e rfl) ?_) | refine AL.set rfl rfl (op_pick (v := .bool _) rfl rfl ?_) | refine AL.set rfl rfl (op_move (by conv => lhs; whnf) ?_))
  have cr := rappend_c j rm v F s bv_ b H3 rk2 hs (rb.ext x2) hbl
  rw [← hae] at cr
  refine AL.set rfl rfl (op_call rfl rfl (cr.mono ?_))
  rintro _ H4 ⟨rfl, hor⟩
  rcases hor with ⟨e, _⟩ | ⟨_, ⟨⟨v4, rk4, _⟩, md4⟩⟩
  · exact absurd rfl e
  have x4 := Ext.md x2 md4 zlj
  have a4 : At H4 i m rm l2 c2 := At.md a2 md4 zne
  have hE4 : eR (appR rm F s b) s = 0 := (eR_eq hb1 s).trans hE1
  have cy := rsync_c j rm v4 (appR rm F s b) s H4 rk4 hs
  rw [hE4] at cy
  repeat (first | refine AL.nil ?_ | refine AWp.seq ?_ | refine AWp.region ?_ | refine AL.set rfl rfl (op_moveP rfl ?_) | refine AL.set rfl rfl (op_moveStr rfl ?_))
  refine AL.set rfl rfl (op_call rfl rfl (cy.mono ?_))
  rintro _ H5 ⟨rfl, hor⟩
  rcases hor with ⟨e, _⟩ | ⟨q, y, _, hq1, hq2, hq3, r5⟩
  · exact absurd rfl e
  have hm2 : Sm l2 ((appR rm F s b).set q (s, y.2.1 ++ y.2.2, [])) := by
    have h6 := (Sm.file hb1 d1.names (List.mem_of_getElem? hq2)).1
    have h7 := Sm.put hb1 d1.names hq2 (y.2.1 ++ y.2.2, []) c1
    rw [hq3] at h6 h7
    rw [hS, h6]
    exact h7
  obtain ⟨v5, z5⟩ := St.of a4 zne hm2 zli zlm zlj x4 md4.wf r5
  have hys : (s, y.2.1 ++ y.2.2, []) ∈ (appR rm F s b).set q (s, y.2.1 ++ y.2.2, []) := List.mem_of_getElem? (i := q) (by rw [List.getElem?_set_self (List.getElem?_eq_some_iff.1 hq2).1])
  generalize (appR rm F s b).set q (s, y.2.1 ++ y.2.2, []) = F5 at z5 hys
  generalize y.2.1 ++ y.2.2 = S0 at hys
  clear r5 hm2 cy cr md4 rk4 x4 a4 hE4 hS a2 x2 rk2 hb1 hh1 hE1 d1 d2 hq1 hq2 hq3 wf3 hae li1 li2
  obtain ⟨hE5, hF5⟩ := z5.file hys
  have hS5 := len_of hys
  simp only [List.length_nil, Nat.add_zero] at hS5
  have hU5 := z5.rk.used
  simp only at hE5 hF5
  have cr := read_c i m rm l2 c2 s H5 z5.dk hs
  rw [hE5, hF5] at cr
  repeat (first | refine AL.nil ?_ | refine AWp.seq ?_ | refine AWp.region ?_ | refine AL.set rfl rfl (op_moveP rfl ?_) | refine AL.set rfl rfl (op_moveStr rfl ?_))
  refine AL.set rfl rfl (op_call rfl rfl (cr.wf_post.mono ?_))
  rintro _ H6 ⟨⟨w13, rfl, o13, hx6⟩, wf6, _⟩
  have li5 := z5.dk.lt z5.wf
  have lj5 := z5.wf.lt z5.rk.box
  have z6 := z5.grow hx6 wf6
  have hb6 : Ext h (strip H6 i m j) := strip_of z6.ext z6.li z6.lj z6.lm
  have o6 := (OS.strip (m := m) o13 li5.1 lj5).rb
  replace o6 : RB (strip H6 i m j) w13 (S0 ++ []) := o6
  rw [List.append_nil] at o6
  have z0 := z6.strip
  generalize strip H6 i m j = hb at hb6 o6 z0
  clear z6 z5 o13 hx6 wf6 cr hE5 hF5 li5 lj5
  obtain ⟨wa, wc, rfl⟩ := RS.slice o6
  generalize hGn : (bv S0).length = sn at o6 ⊢
  repeat (first | refine AL.nil ?_ | refine AWp.seq ?_ | refine AWp.region ?_ | refine AWp.block ?_ | refine AL.set rfl rfl (op_moveT rfl ?_) | refine AL.set rfl rfl (op_assignI rfl ?_) | refine AL.set rfl rfl (op_assignS rfl ?_) | refine AL.set rfl rfl (op_extract rfl rfl ?_))
  refine AWp.loop (α := Nat × Nat × Nat × FL × Nat × Nat × Value × List RF × Heap) (fun d => [(2, .string (bstr s)), (4, mv), (11, ptr d.2.1), (12, ptr d.2.2.2.2.2.1), (13, .slice wa sn wc), (15, .int .i64 (d.1 : Nat))]) (fun d => d.2.2.2.2.2.2.2.2)
    (fun d => d.1 ≤ M.length ∧ St hb d.2.2.2.2.2.2.2.2 rm d.2.1 d.2.2.1 d.2.2.2.1 d.2.2.2.2.1 d.2.2.2.2.2.1 d.2.2.2.2.2.2.1 d.2.2.2.2.2.2.2.1 ∧ ∃ y ∈ d.2.2.2.2.2.2.2.1, y.1 = s ∧ S0 <+: y.2.1) (fun d => M.length - d.1) (0, i, m, l2, c2, j, v5, F5, H6)
    ⟨Nat.zero_le _, z0, _, hys, rfl, List.prefix_refl _⟩ (Weak.same (EW.cons rfl (EW.cons rfl (EW.cons rfl (EW.cons rfl (EW.cons rfl (EW.cons rfl EW.nil))))))) ?_
  clear z0 hys zne znv zli zlj zlm hU5 hS5
  rintro ⟨k, i, m, l, c, j, v, F, H⟩ ⟨w1, z, y, hy, hys, hpre⟩
  replace w1 : k ≤ M.length := w1
  replace z : St hb H rm i m l c j v F := z
  replace hy : y ∈ F := hy
  show AWp _ _ _ _ [(2, .string (bstr s)), (4, mv), (11, ptr i), (12, ptr j), (13, .slice wa sn wc), (15, .int .i64 (k : Nat))] H
  have rH := r2.rn.ext (hb6.trans z.ext)
  by_cases hk : k < M.length
  rotate_left
  · repeat (first | refine AL.nil ?_ | refine AWp.seq ?_ | refine AWp.region ?_ | refine AWp.condF rfl ?_ | refine AWp.ret ?_ | refine AWp.exit ?_ | refine AL.set rfl rfl (op_moveI rfl ?_) | refine AL.set rfl rfl (op_assignB rfl ?_) | refine AL.set rfl rfl (op_lenN rH rfl ?_) | refine AL.set rfl rfl (op_intF rfl rfl rfl (by omega) ?_) | refine AL.set rfl rfl (op_move (by conv => lhs; whnf) ?_))
    exact ⟨_, ResV.tmp rfl, rfl⟩
  obtain ⟨t, ht⟩ : ∃ t, M[k]? = some t := ⟨_, List.getElem?_eq_getElem hk⟩
  have hx2 := stepT_at ht
  have hp := rH.elt hx2
  have hmem := List.mem_of_getElem? ht
  have hfew := hf2 t hmem
  have hin := r2.all t hmem
  obtain ⟨x, dv, kv⟩ := t
  replace hfew : x.data.length ≤ 1000000 ∧ x.keep.length ≤ 1000000 := hfew
  repeat (first | refine AL.nil ?_ | refine AWp.seq ?_ | refine AWp.region ?_ | refine AWp.condT rfl ?_ | refine AWp.block ?_ | refine AWp.skip ?_ | refine AL.set rfl rfl (op_moveI rfl ?_) | refine AL.set rfl rfl (op_lenN rH rfl ?_) | refine AL.set rfl rfl (op_intT rfl rfl rfl (by omega) ?_) | refine AL.set rfl rfl (op_indexND rH rfl rfl (by omega) hx2 ?_) | refine AL.set rfl rfl (op_loadN hp rfl rfl rfl ?_) | refine AL.set rfl rfl (op_move (by conv => lhs; whnf) ?_))
  refine AL.set rfl rfl (op_alloc (z := .agg #[.int .i64 0, .string ⟨#[]⟩, .string ⟨#[]⟩, .slice none 0 0, .slice none 0 0]) ?_)
  refine AL.eff rfl (op_storeA (sz := 5) (b := stepZ) (vs := (stepR dv kv x).toArray) rfl rfl (by
    obtain ⟨pa, pc, hp1⟩ := RS.slice hin.rb
    obtain ⟨ka, kc, hk1⟩ := hin.rn.slice
    replace hp1 : dv = _ := hp1
    replace hk1 : kv = _ := hk1
    rw [hp1, hk1]
    rfl) rfl (Heap.alloc_new _ _) rfl (Nat.le_refl _) ?_)
  refine AL.heap (show _ = H.alloc (stepB dv kv x) from Heap.set_alloc _ _ _) ?_
  have hx1 := z.wf.ext (stepB dv kv x)
  have wf1 := z.wf.alloc (stepB dv kv x)
  have g1 := Heap.alloc_new H (stepB dv kv x)
  have n1 : (H.alloc (stepB dv kv x)).next = H.next + 1 := rfl
  have li := z.dk.lt z.wf
  have lj := z.wf.lt z.rk.box
  replace z := z.grow hx1 wf1
  generalize hbx : H.next = bx at g1 n1 li lj ⊢
  generalize H.alloc (stepB dv kv x) = H1 at hx1 wf1 g1 n1 z ⊢
  clear rH hp
  apply share (¬ (x.kind = 2 ∧ x.a = s) ∧ ¬ (2 < x.kind ∧ x.kind < 5 ∧ (x.a = s ∨ x.b = s)))
  · intro tail
    by_cases k2 : x.kind = 2
    · by_cases ha : x.a = s
      · repeat (first | refine AL.nil ?_ | refine AL.skip rfl rfl ?_ | refine AWp.seq ?_ | refine AWp.region ?_ | refine AWp.condT rfl ?_ | refine AWp.exit ?_ | refine AL.set rfl rfl (op_moveI rfl ?_) | refine AL.set rfl rfl (op_moveB rfl ?_) | refine AL.set rfl rfl (op_moveStr rfl ?_) | refine AL.set rfl rfl (op_assignI rfl ?_) | refine AL.set rfl rfl (op_fa rfl ?_) | refine AL.set rfl rfl (op_load rfl rfl g1 rfl ?_) | refine AL.set rfl rfl (op_intT rfl rfl rfl (by omega) ?_) | refine AL.set rfl rfl (op_sEqT rfl rfl ha ?_) | refine AL.set rfl rfl (op_pick (v := .bool _) rfl rfl ?_) | refine AL.set rfl rfl (op_add64 rfl rfl (by omega) ?_))
        exact ⟨(k + 1, i, m, l, c, j, v, F, H1), ⟨hk, z, y, hy, hys, hpre⟩, by show M.length - (k + 1) < M.length - k; omega, Weak.same (EW.cons rfl (EW.cons rfl (EW.cons rfl (EW.cons rfl (EW.cons rfl (EW.cons rfl EW.nil))))))⟩
      · repeat (first | refine AL.nil ?_ | refine AL.skip rfl rfl ?_ | refine AWp.seq ?_ | refine AWp.region ?_ | refine AWp.condF rfl ?_ | refine AWp.skip ?_ | refine AL.set rfl rfl (op_moveB rfl ?_) | refine AL.set rfl rfl (op_moveP rfl ?_) | refine AL.set rfl rfl (op_moveStr rfl ?_) | refine AL.set rfl rfl (op_fa rfl ?_) | refine AL.set rfl rfl (op_load rfl rfl g1 rfl ?_) | refine AL.set rfl rfl (op_intT rfl rfl rfl (by omega) ?_) | refine AL.set rfl rfl (op_intF rfl rfl rfl (by omega) ?_) | refine AL.set rfl rfl (op_sEqF rfl rfl ha ?_) | refine AL.set rfl rfl (op_pick (v := .bool _) rfl rfl ?_))
        exact AL.drop (env0 := [(2, .string (bstr s)), (4, mv), (11, ptr i), (12, ptr j), (13, .slice wa sn wc), (15, .int .i64 (k : Nat)), (16, ptr bx), (126, ptr i), (127, .string (bstr s))]) (EW.cons rfl (EW.cons rfl (EW.cons rfl (EW.cons rfl (EW.cons rfl (EW.cons rfl (EW.cons rfl (EW.cons rfl (EW.cons rfl EW.nil))))))))) (tail ⟨fun e => ha e.2, fun e => by omega⟩)
    · by_cases k3 : 2 < x.kind
      · by_cases k5 : x.kind < 5
        · by_cases ha : x.a = s
          · repeat (first | refine AL.nil ?_ | refine AL.skip rfl rfl ?_ | refine AWp.seq ?_ | refine AWp.region ?_ | refine AWp.condT rfl ?_ | refine AWp.exit ?_ | refine AL.set rfl rfl (op_moveI rfl ?_) | refine AL.set rfl rfl (op_moveB rfl ?_) | refine AL.set rfl rfl (op_moveStr rfl ?_) | refine AL.set rfl rfl (op_assignI rfl ?_) | refine AL.set rfl rfl (op_fa rfl ?_) | refine AL.set rfl rfl (op_load rfl rfl g1 rfl ?_) | refine AL.set rfl rfl (op_intT rfl rfl rfl (by omega) ?_) | refine AL.set rfl rfl (op_intF rfl rfl rfl (by omega) ?_) | refine AL.set rfl rfl (op_sEqT rfl rfl ha ?_) | refine AL.set rfl rfl (op_pick (v := .bool _) rfl rfl ?_) | refine AL.set rfl rfl (op_add64 rfl rfl (by omega) ?_))
            exact ⟨(k + 1, i, m, l, c, j, v, F, H1), ⟨hk, z, y, hy, hys, hpre⟩, by show M.length - (k + 1) < M.length - k; omega, Weak.same (EW.cons rfl (EW.cons rfl (EW.cons rfl (EW.cons rfl (EW.cons rfl (EW.cons rfl EW.nil))))))⟩
          · by_cases hb2 : x.b = s
            · repeat (first | refine AL.nil ?_ | refine AL.skip rfl rfl ?_ | refine AWp.seq ?_ | refine AWp.region ?_ | refine AWp.condT rfl ?_ | refine AWp.exit ?_ | refine AL.set rfl rfl (op_moveI rfl ?_) | refine AL.set rfl rfl (op_moveB rfl ?_) | refine AL.set rfl rfl (op_moveStr rfl ?_) | refine AL.set rfl rfl (op_assignI rfl ?_) | refine AL.set rfl rfl (op_fa rfl ?_) | refine AL.set rfl rfl (op_load rfl rfl g1 rfl ?_) | refine AL.set rfl rfl (op_intT rfl rfl rfl (by omega) ?_) | refine AL.set rfl rfl (op_intF rfl rfl rfl (by omega) ?_) | refine AL.set rfl rfl (op_sEqF rfl rfl ha ?_) | refine AL.set rfl rfl (op_sEqT rfl rfl hb2 ?_) | refine AL.set rfl rfl (op_pick (v := .bool _) rfl rfl ?_) | refine AL.set rfl rfl (op_add64 rfl rfl (by omega) ?_))
              exact ⟨(k + 1, i, m, l, c, j, v, F, H1), ⟨hk, z, y, hy, hys, hpre⟩, by show M.length - (k + 1) < M.length - k; omega, Weak.same (EW.cons rfl (EW.cons rfl (EW.cons rfl (EW.cons rfl (EW.cons rfl (EW.cons rfl EW.nil))))))⟩
            · repeat (first | refine AL.nil ?_ | refine AL.skip rfl rfl ?_ | refine AWp.seq ?_ | refine AWp.region ?_ | refine AWp.condF rfl ?_ | refine AWp.skip ?_ | refine AL.set rfl rfl (op_moveB rfl ?_) | refine AL.set rfl rfl (op_moveP rfl ?_) | refine AL.set rfl rfl (op_moveStr rfl ?_) | refine AL.set rfl rfl (op_fa rfl ?_) | refine AL.set rfl rfl (op_load rfl rfl g1 rfl ?_) | refine AL.set rfl rfl (op_intT rfl rfl rfl (by omega) ?_) | refine AL.set rfl rfl (op_intF rfl rfl rfl (by omega) ?_) | refine AL.set rfl rfl (op_sEqF rfl rfl ha ?_) | refine AL.set rfl rfl (op_sEqF rfl rfl hb2 ?_) | refine AL.set rfl rfl (op_pick (v := .bool _) rfl rfl ?_))
              exact AL.drop (env0 := [(2, .string (bstr s)), (4, mv), (11, ptr i), (12, ptr j), (13, .slice wa sn wc), (15, .int .i64 (k : Nat)), (16, ptr bx), (126, ptr i), (127, .string (bstr s))]) (EW.cons rfl (EW.cons rfl (EW.cons rfl (EW.cons rfl (EW.cons rfl (EW.cons rfl (EW.cons rfl (EW.cons rfl (EW.cons rfl EW.nil))))))))) (tail ⟨fun e => k2 e.1, fun e => e.2.2.elim ha hb2⟩)
        · repeat (first | refine AL.nil ?_ | refine AL.skip rfl rfl ?_ | refine AWp.seq ?_ | refine AWp.region ?_ | refine AWp.condF rfl ?_ | refine AWp.skip ?_ | refine AL.set rfl rfl (op_moveB rfl ?_) | refine AL.set rfl rfl (op_moveP rfl ?_) | refine AL.set rfl rfl (op_moveStr rfl ?_) | refine AL.set rfl rfl (op_fa rfl ?_) | refine AL.set rfl rfl (op_load rfl rfl g1 rfl ?_) | refine AL.set rfl rfl (op_intT rfl rfl rfl (by omega) ?_) | refine AL.set rfl rfl (op_intF rfl rfl rfl (by omega) ?_) | refine AL.set rfl rfl (op_pick (v := .bool _) rfl rfl ?_))
          exact AL.drop (env0 := [(2, .string (bstr s)), (4, mv), (11, ptr i), (12, ptr j), (13, .slice wa sn wc), (15, .int .i64 (k : Nat)), (16, ptr bx), (126, ptr i), (127, .string (bstr s))]) (EW.cons rfl (EW.cons rfl (EW.cons rfl (EW.cons rfl (EW.cons rfl (EW.cons rfl (EW.cons rfl (EW.cons rfl (EW.cons rfl EW.nil))))))))) (tail ⟨fun e => k2 e.1, fun e => k5 e.2.1⟩)
      · repeat (first | refine AL.nil ?_ | refine AL.skip rfl rfl ?_ | refine AWp.seq ?_ | refine AWp.region ?_ | refine AWp.condF rfl ?_ | refine AWp.skip ?_ | refine AL.set rfl rfl (op_moveB rfl ?_) | refine AL.set rfl rfl (op_moveP rfl ?_) | refine AL.set rfl rfl (op_moveStr rfl ?_) | refine AL.set rfl rfl (op_fa rfl ?_) | refine AL.set rfl rfl (op_load rfl rfl g1 rfl ?_) | refine AL.set rfl rfl (op_intF rfl rfl rfl (by omega) ?_) | refine AL.set rfl rfl (op_pick (v := .bool _) rfl rfl ?_))
        exact AL.drop (env0 := [(2, .string (bstr s)), (4, mv), (11, ptr i), (12, ptr j), (13, .slice wa sn wc), (15, .int .i64 (k : Nat)), (16, ptr bx), (126, ptr i), (127, .string (bstr s))]) (EW.cons rfl (EW.cons rfl (EW.cons rfl (EW.cons rfl (EW.cons rfl (EW.cons rfl (EW.cons rfl (EW.cons rfl (EW.cons rfl EW.nil))))))))) (tail ⟨fun e => k2 e.1, fun e => k3 e.1⟩)
  · rintro ⟨hc2, hc3⟩
    obtain ⟨hE1, hF1⟩ := z.file hy
    rw [hys] at hE1 hF1
    have hyl := len_of hy
    have hzu := z.rk.used
    have hzb := z.dk.big
    have cr := read_c i m rm l c s H1 z.dk hs
    rw [hE1, hF1] at cr
    refine AL.set rfl rfl (op_call rfl rfl (cr.wf_post.mono ?_))
    rintro _ H2 ⟨⟨w17, rfl, o17, hx2'⟩, wf2, n2⟩
    replace o17 : OS H1.next H2 5 w17 (bv (y.2.1 ++ y.2.2)) := o17
    obtain ⟨ua, uc, rfl⟩ := RS.slice o17.rs
    have g2 := hx2'.c _ _ g1
    have hlY : (bv (y.2.1 ++ y.2.2)).length = y.2.1.length + y.2.2.length := by rw [bv_length, List.length_append]
    apply share2 (C := fun u H3 => OS H1.next H3 5 u (bv (y.2.1 ++ y.2.2 ++ (if x.kind = 1 ∧ x.a = s then x.data else []))) ∧ Ext H1 H3 ∧ WF H3)
    · intro tail
      by_cases hk1 : x.kind = 1
      · by_cases ha : x.a = s
        · repeat (first | refine AL.nil ?_ | refine AWp.seq ?_ | refine AWp.region ?_ | refine AWp.condT rfl ?_ | refine AL.set rfl rfl (op_moveS rfl ?_) | refine AL.set rfl rfl (op_moveB rfl ?_) | refine AL.set rfl rfl (op_moveStr rfl ?_) | refine AL.set rfl rfl (op_moveT rfl ?_) | refine AL.set rfl rfl (op_assignI rfl ?_) | refine AL.set rfl rfl (op_assignS rfl ?_) | refine AL.set rfl rfl (op_extract rfl rfl ?_) | refine AL.set rfl rfl (op_fa rfl ?_) | refine AL.set rfl rfl (op_load rfl rfl g2 rfl ?_) | refine AL.set rfl rfl (op_intT rfl rfl rfl (by omega) ?_) | refine AL.set rfl rfl (op_sEqT rfl rfl ha ?_) | refine AL.set rfl rfl (op_pick (v := .bool _) rfl rfl ?_))
          refine AL.set rfl rfl (op_appendO (e := 5) (B := H1.next) rfl wf2 n2 o17 rfl rfl (RB.src (hin.rb.ext (hb6.trans (z.ext.trans hx2')))) (bv_length _) (bv_one _) (by rw [hlY]; show _ ≤ maxLen; unfold maxLen; show _ + x.data.length ≤ _; omega) (by rw [hlY]; show (_ + x.data.length) * 1 ≤ _; omega) ?_)
          intro u H3 hO hkp wf3 n3
          repeat (first | refine AL.nil ?_ | refine AWp.seq ?_ | refine AWp.region ?_ | refine AL.set rfl rfl (op_moveP rfl ?_) | refine AL.set rfl rfl (op_assign (by conv => lhs; whnf) ?_))
          exact AL.drop (env0 := [(2, .string (bstr s)), (4, mv), (11, ptr i), (12, ptr j), (13, .slice wa sn wc), (15, .int .i64 (k : Nat)), (16, ptr bx), (17, u), (145, ptr i), (146, ptr j)]) (EW.cons rfl (EW.cons rfl (EW.cons rfl (EW.cons rfl (EW.cons rfl (EW.cons rfl (EW.cons rfl (EW.cons rfl (EW.cons rfl (EW.cons rfl EW.nil)))))))))) (tail u H3 ⟨by rw [if_pos ⟨hk1, ha⟩]; exact (show bv (y.2.1 ++ y.2.2 ++ x.data) = bv (y.2.1 ++ y.2.2) ++ bv x.data from by simp [bv]) ▸ hO, Keeps.ext hkp o17 wf1 (Nat.le_refl _) hx2', wf3⟩)
        · repeat (first | refine AL.nil ?_ | refine AWp.seq ?_ | refine AWp.region ?_ | refine AWp.condF rfl ?_ | refine AWp.skip ?_ | refine AL.set rfl rfl (op_moveB rfl ?_) | refine AL.set rfl rfl (op_moveP rfl ?_) | refine AL.set rfl rfl (op_moveStr rfl ?_) | refine AL.set rfl rfl (op_moveT rfl ?_) | refine AL.set rfl rfl (op_assignI rfl ?_) | refine AL.set rfl rfl (op_assignS rfl ?_) | refine AL.set rfl rfl (op_extract rfl rfl ?_) | refine AL.set rfl rfl (op_fa rfl ?_) | refine AL.set rfl rfl (op_load rfl rfl g2 rfl ?_) | refine AL.set rfl rfl (op_intT rfl rfl rfl (by omega) ?_) | refine AL.set rfl rfl (op_sEqF rfl rfl ha ?_) | refine AL.set rfl rfl (op_pick (v := .bool _) rfl rfl ?_))
          exact AL.drop (env0 := [(2, .string (bstr s)), (4, mv), (11, ptr i), (12, ptr j), (13, .slice wa sn wc), (15, .int .i64 (k : Nat)), (16, ptr bx), (17, .slice ua (bv (y.2.1 ++ y.2.2)).length uc), (145, ptr i), (146, ptr j)]) (EW.cons rfl (EW.cons rfl (EW.cons rfl (EW.cons rfl (EW.cons rfl (EW.cons rfl (EW.cons rfl (EW.cons rfl (EW.cons rfl (EW.cons rfl EW.nil)))))))))) (tail _ H2 ⟨by rw [if_neg (fun e => ha e.2), List.append_nil]; exact o17, hx2', wf2⟩)
      · repeat (first | refine AL.nil ?_ | refine AL.skip rfl rfl ?_ | refine AWp.seq ?_ | refine AWp.region ?_ | refine AWp.condF rfl ?_ | refine AWp.skip ?_ | refine AL.set rfl rfl (op_moveB rfl ?_) | refine AL.set rfl rfl (op_moveP rfl ?_) | refine AL.set rfl rfl (op_moveT rfl ?_) | refine AL.set rfl rfl (op_assignI rfl ?_) | refine AL.set rfl rfl (op_assignS rfl ?_) | refine AL.set rfl rfl (op_extract rfl rfl ?_) | refine AL.set rfl rfl (op_fa rfl ?_) | refine AL.set rfl rfl (op_load rfl rfl g2 rfl ?_) | refine AL.set rfl rfl (op_intF rfl rfl rfl (by omega) ?_) | refine AL.set rfl rfl (op_pick (v := .bool _) rfl rfl ?_))
        exact AL.drop (env0 := [(2, .string (bstr s)), (4, mv), (11, ptr i), (12, ptr j), (13, .slice wa sn wc), (15, .int .i64 (k : Nat)), (16, ptr bx), (17, .slice ua (bv (y.2.1 ++ y.2.2)).length uc), (145, ptr i), (146, ptr j)]) (EW.cons rfl (EW.cons rfl (EW.cons rfl (EW.cons rfl (EW.cons rfl (EW.cons rfl (EW.cons rfl (EW.cons rfl (EW.cons rfl (EW.cons rfl EW.nil)))))))))) (tail _ H2 ⟨by rw [if_neg (fun e => hk1 e.1), List.append_nil]; exact o17, hx2', wf2⟩)
    · rintro u H3 ⟨hO, hx3, wf3⟩
      have g3 := hx3.c _ _ g1
      have z3 := z.grow hx3 wf3
      have zb := z3.strip
      have hb3 : Ext hb (strip H3 i m j) := strip_of z3.ext z3.li z3.lj z3.lm
      have oS := (OS.strip (m := m) hO (by omega : i < H1.next) (by omega : j < H1.next)).rb
      have so : StepOk (strip H3 i m j) dv kv x := (hin.ext (hb6.trans hb3)).ok hfew
      have hpr : PR H3 (ptr bx) (stepR dv kv x) := ⟨bx, 0, none, _, rfl, g3, Nat.le_refl 5, rfl⟩
      obtain ⟨y', hy', hys', hp1, hp2⟩ := hold_step (room := rm) (Sm.names z3.sm z3.dk.ok.names) hy hys x hc2 hc3
      generalize y.2.1 ++ y.2.2 ++ (if x.kind = 1 ∧ x.a = s then x.data else []) = D at oS hp2
      repeat (first | refine AL.set rfl rfl (op_loadN hpr rfl rfl rfl ?_))
      refine AL.set rfl rfl (op_call rfl rfl ((do_c (strip H3 i m j) H3 rm i m l c j v F dv kv x zb so).mono ?_))
      rintro _ H5 ⟨i', m', l', c', j', v', rfl, z5⟩
      generalize stepF rm F x = F' at z5 hy'
      have o5 := oS.ext z5.ext
      have s5 := o6.ext (hb3.trans z5.ext)
      have z6 := z5.low hb3
      clear oS z5 zb so hpr hO
      obtain ⟨ua, uc, rfl⟩ := RS.slice o5
      generalize (bv D).length = dn at o5 ⊢
      obtain ⟨hE2, hF2⟩ := z6.file hy'
      rw [hys'] at hE2 hF2
      have cr2 := read_c i' m' rm l' c' s H5 z6.dk hs
      rw [hE2, hF2] at cr2
      repeat (first | refine AL.nil ?_ | refine AWp.seq ?_ | refine AWp.region ?_ | refine AWp.condF rfl ?_ | refine AWp.skip ?_ | refine AL.set rfl rfl (op_moveB rfl ?_) | refine AL.set rfl rfl (op_moveP rfl ?_) | refine AL.set rfl rfl (op_moveStr rfl ?_) | refine AL.set rfl rfl (op_moveT rfl ?_) | refine AL.set rfl rfl (op_assignB rfl ?_) | refine AL.set rfl rfl (op_assignP rfl ?_) | refine AL.set rfl rfl (op_extract rfl rfl ?_) | refine AL.set rfl rfl (op_eqPtrNil rfl rfl ?_) | refine AL.set rfl rfl (op_pick (v := .bool _) rfl rfl ?_) | refine AL.set rfl rfl (op_not rfl ?_))
      refine AL.set rfl rfl (op_call rfl rfl (cr2.wf_post.mono ?_))
      rintro _ H6 ⟨⟨w22, rfl, o22, hx6⟩, wf6, _⟩
      replace z6 := z6.grow hx6 wf6
      replace o5 := o5.ext hx6
      replace s5 := s5.ext hx6
      replace o22 : RB H6 w22 (y'.2.1 ++ y'.2.2) := o22.rb
      have hq0 : S0 <+: y'.2.1 ++ y'.2.2 := (hpre.trans hp1).trans (List.prefix_append _ _)
      have hl1 := hq0.length_le
      have ht1 := List.prefix_iff_eq_take.1 hq0
      have hl2 := hp2.length_le
      have ht2 := List.prefix_iff_eq_take.1 hp2
      have hpre' := hpre.trans hp1
      generalize y'.2.1 ++ y'.2.2 = Y' at o22 hl1 ht1 hl2 ht2
      clear hp1 hp2 hq0
      obtain ⟨va, vc, rfl⟩ := RS.slice o22
      generalize (bv Y').length = yn at o22 ⊢
      have r22 : RB H6 (subS (.slice va yn vc) 0 (S0.length : Nat)) S0 := by
        have := RB.sub (l := 0) (m := (S0.length : Nat)) o22 (by decide) (by omega) (by omega)
        rw [Int.toNat_natCast, ← ht1] at this
        exact this
      have rD : RB H6 (subS (.slice ua dn uc) 0 (Y'.length : Nat)) Y' := by
        have := RB.sub (l := 0) (m := (Y'.length : Nat)) o5 (by decide) (by omega) (by omega)
        rw [Int.toNat_natCast, ← ht2] at this
        exact this
      repeat (first | refine AL.nil ?_ | refine AWp.seq ?_ | refine AL.set rfl rfl (op_moveT rfl ?_) | refine AL.set rfl rfl (op_assignI rfl ?_) | refine AL.set rfl rfl (op_assignS rfl ?_) | refine AL.set rfl rfl (op_extract rfl rfl ?_))
      refine AWp.draw (σ := [(0, .R), (1, .R), (2, .R), (3, .R), (4, .R), (5, .R), (6, .R), (7, .R), (8, .R), (9, .R), (10, .R), (11, .R), (12, .R), (13, .R), (14, .R), (15, .R), (16, .R), (17, .R), (18, .R), (19, .R), (20, .R), (21, .R), (22, .R), (23, .R), (24, .R), (25, .R), (26, .R), (27, .R), (28, .R), (29, .R), (30, .R), (31, .R), (32, .R), (33, .R), (34, .R), (35, .R), (36, .R)]) mixed (by kernel_rfl) ?_
      repeat (first | refine DAL.r rfl rfl rfl (fun h' hx hn => op_moveI rfl ⟨rfl, rfl⟩) ?_ | refine DAL.r rfl rfl rfl (fun h' hx hn => op_moveS rfl ⟨rfl, rfl⟩) ?_ | refine DAL.r rfl rfl rfl (fun h' hx hn => op_moveB rfl ⟨rfl, rfl⟩) ?_ | refine DAL.r rfl rfl rfl (fun h' hx hn => op_callS rfl rfl (num_c 0 h') ⟨rfl, rfl⟩) ?_ | refine DAL.r rfl rfl rfl (fun h' hx hn => op_lenRB (o22.ext hx) rfl ⟨rfl, rfl⟩) ?_ | refine DAL.r rfl rfl rfl (fun h' hx hn => op_lenRB (s5.ext hx) rfl ⟨rfl, rfl⟩) ?_ | refine DAL.r rfl rfl rfl (fun h' hx hn => op_lenRB (o5.ext hx) rfl ⟨rfl, rfl⟩) ?_ | refine DAL.r rfl rfl rfl (fun h' hx hn => op_sliceDB (o22.ext hx) rfl rfl rfl (by omega) (by omega) (by omega) ⟨rfl, rfl⟩) ?_ | refine DAL.r rfl rfl rfl (fun h' hx hn => op_sliceDB (o5.ext hx) rfl rfl rfl (by omega) (by omega) (by omega) ⟨rfl, rfl⟩) ?_ | refine DAL.r rfl rfl rfl (fun h' hx hn => op_bytesStrR (r22.ext hx) rfl ⟨rfl, rfl⟩) ?_ | refine DAL.r rfl rfl rfl (fun h' hx hn => op_bytesStrR (s5.ext hx) rfl ⟨rfl, rfl⟩) ?_ | refine DAL.r rfl rfl rfl (fun h' hx hn => op_bytesStrR (rD.ext hx) rfl ⟨rfl, rfl⟩) ?_ | refine DAL.r rfl rfl rfl (fun h' hx hn => op_bytesStrR (o22.ext hx) rfl ⟨rfl, rfl⟩) ?_ | refine DAL.r rfl rfl rfl (fun h' hx hn => op_sNeF rfl rfl rfl ⟨rfl, rfl⟩) ?_ | refine DAL.r rfl rfl rfl (fun h' hx hn => op_pick (v := .bool _) rfl rfl ⟨rfl, rfl⟩) ?_ | refine DAL.r rfl rfl rfl (fun h' hx hn => op_intF rfl rfl rfl (by omega) ⟨rfl, rfl⟩) ?_)
      refine DAL.nil ?_
      repeat (first | refine AL.nil ?_ | refine AWp.region ?_ | refine AWp.condF rfl ?_ | refine AWp.skip ?_ | refine AL.set rfl rfl (op_moveI rfl ?_) | refine AL.set rfl rfl (op_assignI rfl ?_) | refine AL.set rfl rfl (op_add64 rfl rfl (by omega) ?_))
      exact ⟨(k + 1, i', m', l', c', j', v', F', H6), ⟨hk, z6, y', hy', hys', hpre'⟩, by show M.length - (k + 1) < M.length - k; omega, Weak.same (EW.cons rfl (EW.cons rfl (EW.cons rfl (EW.cons rfl (EW.cons rfl (EW.cons rfl EW.nil))))))⟩
end Go.Proofs.Ytiebmncpdnbcjaa
