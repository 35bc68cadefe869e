/-
  DiskMoves.
-/
import Derived.Test.YtiebmncpdnbcjaaMrgh
namespace Go.Proofs.Ytiebmncpdnbcjaa
open Go Go.Eng Go.Dsk
attribute [local irreducible] AWp AL DAL AOp TAL

theorem RN.chB {n : Nat} {h H : Heap} {v : Value} {rows : List (List Value)} {i m : Nat} (r : RN n h v rows) (k : Ch i m h H) (hv : vblk v ≠ some i) : RN n H v rows := r.keep fun q b hq hb => k.c q b hb (fun e => hv (e ▸ hq))
theorem usedR_in {F : List RF} {k : Nat} {x : RF} (hx : F[k]? = some x) : x.2.1.length + x.2.2.length ≤ usedR F := by
  have h1 := usedR_take hx
  have h2 := usedR_le F (k + 1)
  omega
theorem sm_has {l : FL} {F : List RF} {s : List UInt8} (m : Sm l F) {k : Nat} (h : seekN F s = some k) : hasS l s = true := by rw [m.has, h]; rfl
theorem sm_no {l : FL} {F : List RF} {s : List UInt8} (m : Sm l F) (h : seekN F s = none) : hasS l s = false := by rw [m.has, h]; rfl
theorem open_ok {l : FL} {s : List UInt8} {more : List (List UInt8)} (h1 : goodN s = true) (h2 : more.all goodN = true) (h3 : hasS l s = true) : openE l s more = 0 := by
  unfold openE
  rw [h1, h2, h3]
  rfl
theorem open_miss {l : FL} {s : List UInt8} {more : List (List UInt8)} (h1 : goodN s = true) (h2 : more.all goodN = true) (h3 : hasS l s = false) : openE l s more = 6 := by
  unfold openE
  rw [h1, h2, h3]
  rfl
theorem openF_ok {l : FL} {s : List UInt8} {more : List (List UInt8)} (h : openE l s more = 0) : openF l s more = fileOf l s := by
  unfold openF
  rw [if_pos h]
theorem ren_same {l : FL} {c : Nat} {s t : List UInt8} (h : openE l s [t] ≠ 0) : renL l c s t = l ∧ renC l c s t = c := by
  unfold renL renC
  rw [if_neg h, if_neg h]
  exact ⟨rfl, rfl⟩
theorem one_good {t : List UInt8} (h : goodN t = true) : [t].all goodN = true := by simp [h]
set_option maxHeartbeats 8000000 in
set_option maxRecDepth 4000 in
theorem moves_walk (room : Int) (lv : Value) (L : List StepT) (s t : List UInt8) (h : Heap) (r : Steps h lv L) (hs : s.length ≤ 4611686018427387904) (ht : t.length ≤ 4611686018427387904) :
    ACalls Try.prog 6 [.int .i64 room, lv, .string (bstr s), .string (bstr t)] h fun v _ => v = .bool true := by
  refine ACalls.wf fun wf => ?_
  refine ACalls.body Try.func6 rfl rfl ?_
  repeat (first | refine AL.nil ?_ | refine AWp.seq ?_ | refine AWp.region ?_ | refine AL.set rfl rfl (op_assignB rfl ?_) | refine AL.set rfl rfl (op_move (by conv => lhs; whnf) ?_))
  refine AL.set rfl rfl (op_call rfl rfl ((much_c lv L 30 h r).mono ?_))
  rintro _ H0 ⟨q, rfl, hH0, hq⟩
  cases hH0.symm
  cases q with
  | true =>
    repeat (first | refine AL.nil ?_ | refine AL.skip rfl rfl ?_ | refine AWp.seq ?_ | refine AWp.region ?_ | refine AWp.condT rfl ?_ | refine AWp.ret ?_ | refine AL.set rfl rfl (op_moveB rfl ?_) | refine AL.set rfl rfl (op_assignB rfl ?_) | refine AL.set rfl rfl (op_pick (v := .bool _) rfl rfl ?_) | refine AL.set rfl rfl (op_callS rfl rfl (known_c h) ?_))
    exact ⟨_, ResV.tmp rfl, rfl⟩
  | false =>
  obtain ⟨hl30, hf⟩ := hq rfl
  by_cases hA : 1000 < s.length
  · repeat (first | refine AL.nil ?_ | refine AL.skip rfl rfl ?_ | refine AWp.seq ?_ | refine AWp.region ?_ | refine AWp.condT rfl ?_ | refine AWp.ret ?_ | refine AL.set rfl rfl (op_moveB rfl ?_) | refine AL.set rfl rfl (op_moveStr rfl ?_) | refine AL.set rfl rfl (op_assignB rfl ?_) | refine AL.set rfl rfl (op_lenSB rfl ?_) | refine AL.set rfl rfl (op_intT rfl rfl rfl (by omega) ?_) | refine AL.set rfl rfl (op_pick (v := .bool _) rfl rfl ?_) | refine AL.set rfl rfl (op_callS rfl rfl (known_c h) ?_))
    exact ⟨_, ResV.tmp rfl, rfl⟩
  by_cases hB : 1000 < t.length
  · repeat (first | refine AL.nil ?_ | refine AWp.seq ?_ | refine AWp.region ?_ | refine AWp.condT rfl ?_ | refine AWp.ret ?_ | refine AL.set rfl rfl (op_moveB rfl ?_) | refine AL.set rfl rfl (op_moveStr rfl ?_) | refine AL.set rfl rfl (op_assignB rfl ?_) | refine AL.set rfl rfl (op_lenSB rfl ?_) | refine AL.set rfl rfl (op_intT rfl rfl rfl (by omega) ?_) | refine AL.set rfl rfl (op_intF rfl rfl rfl (by omega) ?_) | refine AL.set rfl rfl (op_pick (v := .bool _) rfl rfl ?_) | refine AL.set rfl rfl (op_callS rfl rfl (known_c h) ?_))
    exact ⟨_, ResV.tmp rfl, rfl⟩
  repeat (first | refine AL.nil ?_ | refine AWp.seq ?_ | refine AWp.region ?_ | refine AWp.condF rfl ?_ | refine AWp.skip ?_ | refine AL.set rfl rfl (op_moveI rfl ?_) | refine AL.set rfl rfl (op_moveB rfl ?_) | refine AL.set rfl rfl (op_moveStr rfl ?_) | refine AL.set rfl rfl (op_lenSB rfl ?_) | refine AL.set rfl rfl (op_intF rfl rfl rfl (by omega) ?_) | refine AL.set rfl rfl (op_pick (v := .bool _) rfl rfl ?_) | refine AL.set rfl rfl (op_move (by conv => lhs; whnf) ?_))
  refine AL.set rfl rfl (op_call rfl rfl ((made_c room lv L h r hf).mono ?_))
  rintro _ H1 (⟨hn, rfl, rfl⟩ | ⟨rm, rfl, hn, i, m, l, c, j, v, rfl, z⟩)
  · repeat (first | refine AL.nil ?_ | refine AWp.seq ?_ | refine AWp.region ?_ | refine AWp.condT rfl ?_ | refine AWp.ret ?_ | refine AL.set rfl rfl (op_moveI rfl ?_) | refine AL.set rfl rfl (op_moveB rfl ?_) | refine AL.set rfl rfl (op_moveP rfl ?_) | refine AL.set rfl rfl (op_moveT rfl ?_) | refine AL.set rfl rfl (op_assignB rfl ?_) | refine AL.set rfl rfl (op_assignP rfl ?_) | refine AL.set rfl rfl (op_extract rfl rfl ?_) | refine AL.set rfl rfl (op_eqPtrNil rfl rfl ?_) | refine AL.set rfl rfl (op_callS rfl rfl (rnew_no room H1 hn) ?_) | refine AL.set rfl rfl (op_pick (v := .bool _) rfl rfl ?_) | refine AL.set rfl rfl (op_callS rfl rfl (known_c H1) ?_))
    exact ⟨_, ResV.tmp rfl, rfl⟩
  generalize runF rm L = F at z
  have hrm := z.dk.big
  repeat (first | refine AL.nil ?_ | refine AWp.seq ?_ | refine AWp.region ?_ | refine AWp.condF rfl ?_ | refine AWp.skip ?_ | refine AL.set rfl rfl (op_moveP rfl ?_) | refine AL.set rfl rfl (op_moveStr rfl ?_) | refine AL.set rfl rfl (op_moveT rfl ?_) | refine AL.set rfl rfl (op_assignI rfl ?_) | refine AL.set rfl rfl (op_assignP rfl ?_) | refine AL.set rfl rfl (op_extract rfl rfl ?_) | refine AL.set rfl rfl (op_eqPtrNil rfl rfl ?_) | refine AL.set rfl rfl (op_callS rfl rfl (seek_c j rm v F s H1 z.rk hs) ?_) | refine AL.set rfl rfl (op_callS rfl rfl (seek_c j rm v F t H1 z.rk ht) ?_))
  have li1 := (z.dk.lt z.wf).1
  refine AL.set rfl rfl (op_call rfl rfl ((files_c j rm v F H1 z.rk (z.sm.names z.dk.ok.names)).mono ?_))
  rintro u H2 ⟨G, oG, pG, rG, hx2, wf2, _⟩
  replace z := z.grow hx2 wf2
  have lG : Lst l G := ⟨z.sm.trans pG.symm, rG⟩
  have nG : vblk u ≠ some i := fun e => by have := oG.blk i e; omega
  have rGn := oG.rn
  clear oG hx2 wf2
  obtain ⟨ua, uc, rfl⟩ := rGn.slice
  generalize hG0 : (G.map rowR).length = G0 at rGn nG ⊢
  have hEE := ren_eq z.sm s t
  unfold renE at hEE
  by_cases h2 : eR F t = 2
  · rw [h2] at hEE ⊢
    have hE : openE l s [t] = 2 := by rw [hEE, if_pos (.inr rfl)]
    by_cases h1 : eR F s = 0
    · rw [h1]
      obtain ⟨y1, y2⟩ := ren_same (c := c) (by rw [hE]; decide : openE l s [t] ≠ 0)
      have cn := rename_c i m rm l c s t H2 z.dk hs ht
      rw [hE, y1, y2] at cn
      repeat (first | refine AL.nil ?_ | refine AWp.seq ?_ | refine AWp.region ?_ | refine AWp.condT rfl ?_ | refine AL.set rfl rfl (op_moveI rfl ?_) | refine AL.set rfl rfl (op_moveB rfl ?_) | refine AL.set rfl rfl (op_moveP rfl ?_) | refine AL.set rfl rfl (op_moveStr rfl ?_) | refine AL.set rfl rfl (op_assignI rfl ?_) | refine AL.set rfl rfl (op_assignS rfl ?_) | refine AL.set rfl rfl (op_intT rfl rfl rfl (by omega) ?_) | refine AL.set rfl rfl (op_intF rfl rfl rfl (by omega) ?_) | refine AL.set rfl rfl (op_pick (v := .bool _) rfl rfl ?_))
      refine AL.set rfl rfl (op_call rfl rfl (cn.mono ?_))
      rintro _ _ ⟨rfl, rfl⟩
      have k1 := st_ch (room := rm) (l := l) (c := c) z.wf (z.dk.lt z.wf).1 (z.dk.lt z.wf).2
      replace rGn := RN.chB rGn k1 nG
      replace z := z.one z.dk.ok z.sm
      generalize stD H2 i m rm l c = H3 at z rGn k1 ⊢
      repeat (first | refine AL.nil ?_ | refine AWp.ret ?_ | refine AL.set rfl rfl (op_moveI rfl ?_) | refine AL.set rfl rfl (op_moveS rfl ?_) | refine AL.set rfl rfl (op_moveB rfl ?_) | refine AL.set rfl rfl (op_moveP rfl ?_) | refine AL.set rfl rfl (op_assignB rfl ?_) | refine AL.set rfl rfl (op_callS rfl rfl (num_c _ H3) ?_) | refine AL.set rfl rfl (op_intT rfl rfl rfl rfl ?_) | refine AL.set rfl rfl (op_callS rfl rfl (has_c i m rm l c (.slice ua G0 uc) G H3 z.dk lG rGn) ?_) | refine AL.set rfl rfl (op_pick (v := .bool _) rfl rfl ?_) | refine AL.set rfl rfl (op_callS rfl rfl (known_c H3) ?_))
      exact ⟨_, ResV.tmp rfl, rfl⟩
    · generalize eR F s = es at h1 ⊢
      obtain ⟨y1, y2⟩ := ren_same (c := c) (by rw [hE]; decide : openE l s [t] ≠ 0)
      have cn := rename_c i m rm l c s t H2 z.dk hs ht
      rw [hE, y1, y2] at cn
      repeat (first | refine AL.nil ?_ | refine AL.skip rfl rfl ?_ | refine AWp.seq ?_ | refine AWp.region ?_ | refine AWp.condT rfl ?_ | refine AL.set rfl rfl (op_moveI rfl ?_) | refine AL.set rfl rfl (op_moveB rfl ?_) | refine AL.set rfl rfl (op_moveP rfl ?_) | refine AL.set rfl rfl (op_moveStr rfl ?_) | refine AL.set rfl rfl (op_assignI rfl ?_) | refine AL.set rfl rfl (op_assignS rfl ?_) | refine AL.set rfl rfl (op_intT rfl rfl rfl (by omega) ?_) | refine AL.set rfl rfl (op_pick (v := .bool _) rfl rfl ?_))
      refine AL.set rfl rfl (op_call rfl rfl (cn.mono ?_))
      rintro _ _ ⟨rfl, rfl⟩
      have k1 := st_ch (room := rm) (l := l) (c := c) z.wf (z.dk.lt z.wf).1 (z.dk.lt z.wf).2
      replace rGn := RN.chB rGn k1 nG
      replace z := z.one z.dk.ok z.sm
      generalize stD H2 i m rm l c = H3 at z rGn k1 ⊢
      repeat (first | refine AL.nil ?_ | refine AWp.ret ?_ | refine AL.set rfl rfl (op_moveI rfl ?_) | refine AL.set rfl rfl (op_moveS rfl ?_) | refine AL.set rfl rfl (op_moveB rfl ?_) | refine AL.set rfl rfl (op_moveP rfl ?_) | refine AL.set rfl rfl (op_assignB rfl ?_) | refine AL.set rfl rfl (op_callS rfl rfl (num_c _ H3) ?_) | refine AL.set rfl rfl (op_intT rfl rfl rfl rfl ?_) | refine AL.set rfl rfl (op_callS rfl rfl (has_c i m rm l c (.slice ua G0 uc) G H3 z.dk lG rGn) ?_) | refine AL.set rfl rfl (op_pick (v := .bool _) rfl rfl ?_) | refine AL.set rfl rfl (op_callS rfl rfl (known_c H3) ?_))
      exact ⟨_, ResV.tmp rfl, rfl⟩
  rcases eR_cases F s with ⟨h1, h1', h1g⟩ | ⟨h1, h1g, h1'⟩ | ⟨i0, x, h1, h1', h1g, h1s, h1x, h1n⟩
  · have hE : openE l s [t] = 2 := by rw [hEE, if_pos (.inl h1)]
    rw [h1]
    generalize eR F t = et at h2 ⊢
    obtain ⟨y1, y2⟩ := ren_same (c := c) (by rw [hE]; decide : openE l s [t] ≠ 0)
    have cn := rename_c i m rm l c s t H2 z.dk hs ht
    rw [hE, y1, y2] at cn
    repeat (first | refine AL.nil ?_ | refine AL.skip rfl rfl ?_ | refine AWp.seq ?_ | refine AWp.region ?_ | refine AWp.condT rfl ?_ | refine AWp.condF rfl ?_ | refine AWp.skip ?_ | refine AL.set rfl rfl (op_moveI rfl ?_) | refine AL.set rfl rfl (op_moveB rfl ?_) | refine AL.set rfl rfl (op_moveP rfl ?_) | refine AL.set rfl rfl (op_moveStr rfl ?_) | refine AL.set rfl rfl (op_assignI rfl ?_) | refine AL.set rfl rfl (op_assignS rfl ?_) | refine AL.set rfl rfl (op_intT rfl rfl rfl (by omega) ?_) | refine AL.set rfl rfl (op_intF rfl rfl rfl (by omega) ?_) | refine AL.set rfl rfl (op_pick (v := .bool _) rfl rfl ?_))
    refine AL.set rfl rfl (op_call rfl rfl (cn.mono ?_))
    rintro _ _ ⟨rfl, rfl⟩
    have k1 := st_ch (room := rm) (l := l) (c := c) z.wf (z.dk.lt z.wf).1 (z.dk.lt z.wf).2
    replace rGn := RN.chB rGn k1 nG
    replace z := z.one z.dk.ok z.sm
    generalize stD H2 i m rm l c = H3 at z rGn k1 ⊢
    repeat (first | refine AL.nil ?_ | refine AWp.ret ?_ | refine AL.set rfl rfl (op_moveI rfl ?_) | refine AL.set rfl rfl (op_moveS rfl ?_) | refine AL.set rfl rfl (op_moveB rfl ?_) | refine AL.set rfl rfl (op_moveP rfl ?_) | refine AL.set rfl rfl (op_assignB rfl ?_) | refine AL.set rfl rfl (op_callS rfl rfl (num_c _ H3) ?_) | refine AL.set rfl rfl (op_intT rfl rfl rfl rfl ?_) | refine AL.set rfl rfl (op_callS rfl rfl (has_c i m rm l c (.slice ua G0 uc) G H3 z.dk lG rGn) ?_) | refine AL.set rfl rfl (op_pick (v := .bool _) rfl rfl ?_) | refine AL.set rfl rfl (op_callS rfl rfl (known_c H3) ?_))
    exact ⟨_, ResV.tmp rfl, rfl⟩
  · have hE : openE l s [t] = 6 := by rw [hEE, if_neg (by rw [h1]; exact fun e => e.elim (fun e => absurd e (by decide)) h2), h1]
    rw [h1]
    generalize eR F t = et at h2 ⊢
    obtain ⟨y1, y2⟩ := ren_same (c := c) (by rw [hE]; decide : openE l s [t] ≠ 0)
    have cn := rename_c i m rm l c s t H2 z.dk hs ht
    rw [hE, y1, y2] at cn
    repeat (first | refine AL.nil ?_ | refine AL.skip rfl rfl ?_ | refine AWp.seq ?_ | refine AWp.region ?_ | refine AWp.condT rfl ?_ | refine AWp.condF rfl ?_ | refine AWp.skip ?_ | refine AL.set rfl rfl (op_moveI rfl ?_) | refine AL.set rfl rfl (op_moveB rfl ?_) | refine AL.set rfl rfl (op_moveP rfl ?_) | refine AL.set rfl rfl (op_moveStr rfl ?_) | refine AL.set rfl rfl (op_assignI rfl ?_) | refine AL.set rfl rfl (op_assignS rfl ?_) | refine AL.set rfl rfl (op_intT rfl rfl rfl (by omega) ?_) | refine AL.set rfl rfl (op_intF rfl rfl rfl (by omega) ?_) | refine AL.set rfl rfl (op_pick (v := .bool _) rfl rfl ?_))
    refine AL.set rfl rfl (op_call rfl rfl (cn.mono ?_))
    rintro _ _ ⟨rfl, rfl⟩
    have k1 := st_ch (room := rm) (l := l) (c := c) z.wf (z.dk.lt z.wf).1 (z.dk.lt z.wf).2
    replace rGn := RN.chB rGn k1 nG
    replace z := z.one z.dk.ok z.sm
    generalize stD H2 i m rm l c = H3 at z rGn k1 ⊢
    repeat (first | refine AL.nil ?_ | refine AWp.ret ?_ | refine AL.set rfl rfl (op_moveI rfl ?_) | refine AL.set rfl rfl (op_moveS rfl ?_) | refine AL.set rfl rfl (op_moveB rfl ?_) | refine AL.set rfl rfl (op_moveP rfl ?_) | refine AL.set rfl rfl (op_assignB rfl ?_) | refine AL.set rfl rfl (op_callS rfl rfl (num_c _ H3) ?_) | refine AL.set rfl rfl (op_intT rfl rfl rfl rfl ?_) | refine AL.set rfl rfl (op_callS rfl rfl (has_c i m rm l c (.slice ua G0 uc) G H3 z.dk lG rGn) ?_) | refine AL.set rfl rfl (op_pick (v := .bool _) rfl rfl ?_) | refine AL.set rfl rfl (op_callS rfl rfl (known_c H3) ?_))
    exact ⟨_, ResV.tmp rfl, rfl⟩
  have hhs := sm_has z.sm h1s
  have hE0 : openE l s [] = 0 := open_ok h1g rfl hhs
  have hF0 := openF_ok hE0
  rw [h1]
  have cr := read_c i m rm l c s H2 z.dk hs
  rw [hE0, hF0] at cr
  have li2 := (z.dk.lt z.wf).1
  rcases eR_cases F t with ⟨h3, _, _⟩ | ⟨h3, h3g, h3'⟩ | ⟨k0, y, h3, h3', h3g, h3s, h3x, h3n⟩
  · exact absurd h3 h2
  · have hst : s ≠ t := by rintro rfl; rw [h1] at h3; cases h3
    obtain ⟨m1, m2, m3, m4⟩ := move_facts z.dk.ok.names hhs hst c
    have hmb := move_back z.dk.ok.names hhs hst c
    have hb0 : openE l s [t] = 0 := open_ok h1g (one_good h3g) hhs
    have hR : renL l c s t = putD (delS l s) t (fileOf l s) c := by unfold renL; rw [if_pos hb0]
    have hht := sm_no z.sm h3'
    have hfl : fileOf l t = ([], []) := by unfold fileOf; rw [getS_none.2 hht]; rfl
    rw [hfl] at m3
    rw [← hR] at m1 m2 m3 m4 hmb
    have hE1 : openE (renL l c s t) t [] = 0 := open_ok h3g rfl m1
    have hF1 := openF_ok hE1
    rw [m2] at hF1
    have hU : used (renL l c s t) = used l := m3
    have hus := z.dk.ok.used
    clear m3 m2
    rw [h3]
    repeat (first | refine AL.nil ?_ | refine AWp.seq ?_ | refine AWp.region ?_ | refine AWp.condF rfl ?_ | refine AWp.skip ?_ | refine AL.set rfl rfl (op_moveI rfl ?_) | refine AL.set rfl rfl (op_moveB rfl ?_) | refine AL.set rfl rfl (op_moveP rfl ?_) | refine AL.set rfl rfl (op_moveStr rfl ?_) | refine AL.set rfl rfl (op_assignS rfl ?_) | refine AL.set rfl rfl (op_intF rfl rfl rfl (by omega) ?_) | refine AL.set rfl rfl (op_pick (v := .bool _) rfl rfl ?_))
    refine AL.set rfl rfl (op_call rfl rfl (cr.wf_post.mono ?_))
    rintro _ H3 ⟨⟨w3, rfl, o3, hx3⟩, wf3, _⟩
    obtain ⟨wa3, wc3, rfl⟩ := o3.rs.slice
    replace z := z.grow hx3 wf3
    replace rGn := rGn.ext hx3
    have cl := lasting_c i m rm l c s H3 z.dk hs
    rw [hE0, hF0] at cl
    have cn := rename_c i m rm l c s t H3 z.dk hs ht
    rw [hb0] at cn
    have k : Kn h H3 rm i m l c := ⟨z.dk, z.wf, z.ext, z.li, z.lm⟩
    have rk := z.rk
    have zne := z.ne
    have znv := z.nv
    have zsm := z.sm
    have zok := z.dk.ok
    clear z
    repeat (first | refine AL.nil ?_ | refine AL.skip rfl rfl ?_ | refine AWp.seq ?_ | refine AWp.region ?_ | refine AWp.condF rfl ?_ | refine AWp.skip ?_ | refine AL.set rfl rfl (op_moveI rfl ?_) | refine AL.set rfl rfl (op_moveB rfl ?_) | refine AL.set rfl rfl (op_moveP rfl ?_) | refine AL.set rfl rfl (op_moveStr rfl ?_) | refine AL.set rfl rfl (op_moveT rfl ?_) | refine AL.set rfl rfl (op_assignI rfl ?_) | refine AL.set rfl rfl (op_assignS rfl ?_) | refine AL.set rfl rfl (op_extract rfl rfl ?_) | refine AL.set rfl rfl (op_callS rfl rfl cl ?_) | refine AL.set rfl rfl (op_callS rfl rfl (used_c i m rm l c H3 k.dk) ?_) | refine AL.set rfl rfl (op_intF rfl rfl rfl (by omega) ?_) | refine AL.set rfl rfl (op_pick (v := .bool _) rfl rfl ?_))
    refine AL.set rfl rfl (op_call rfl rfl (cn.mono ?_))
    rintro _ _ ⟨rfl, rfl⟩
    have ch := k.ch (renL l c s t) (renC l c s t)
    replace rGn := RN.chB rGn ch nG
    replace rk := rk.ch ch (fun e => zne e.symm) znv
    replace o3 := OS.ch o3 ch li2
    replace k := k.st (DOk.renL k.dk.ok s t)
    generalize stD H3 i m rm (renL l c s t) (renC l c s t) = H4 at k rk rGn ch o3 ⊢
    clear ch
    generalize renL l c s t = l1 at k hE1 hF1 hU hmb m1 m4 ⊢
    generalize renC l c s t = c1 at k ⊢ ⊢
    repeat (first | refine AL.nil ?_ | refine AWp.seq ?_ | refine AWp.region ?_ | refine AWp.condF rfl ?_ | refine AWp.skip ?_ | refine AL.set rfl rfl (op_moveP rfl ?_) | refine AL.set rfl rfl (op_moveStr rfl ?_) | refine AL.set rfl rfl (op_callS rfl rfl (num_c _ H4) ?_) | refine AL.set rfl rfl (op_intF rfl rfl rfl (by exact fun e => e rfl) ?_))
    have cr1 := read_c i m rm l1 c1 t H4 k.dk ht
    rw [hE1, hF1] at cr1
    refine AL.set rfl rfl (op_call rfl rfl (cr1.wf_post.mono ?_))
    rintro _ H5 ⟨⟨w5, rfl, o5, hx5⟩, wf5, _⟩
    obtain ⟨wa5, wc5, rfl⟩ := o5.rs.slice
    replace k := k.grow hx5 wf5
    replace rk := rk.ext hx5
    replace rGn := rGn.ext hx5
    replace o3 := o3.ext hx5
    have cl1 := lasting_c i m rm l1 c1 t H5 k.dk ht
    rw [hE1, hF1] at cl1
    have cu1 := used_c i m rm l1 c1 H5 k.dk
    repeat (first | refine AL.nil ?_ | refine AWp.seq ?_ | refine AWp.region ?_ | refine AWp.condF rfl ?_ | refine AWp.skip ?_ | refine AL.set rfl rfl (op_moveI rfl ?_) | refine AL.set rfl rfl (op_moveS rfl ?_) | refine AL.set rfl rfl (op_moveB rfl ?_) | refine AL.set rfl rfl (op_moveP rfl ?_) | refine AL.set rfl rfl (op_moveStr rfl ?_) | refine AL.set rfl rfl (op_moveT rfl ?_) | refine AL.set rfl rfl (op_assignI rfl ?_) | refine AL.set rfl rfl (op_assignS rfl ?_) | refine AL.set rfl rfl (op_extract rfl rfl ?_) | refine AL.set rfl rfl (op_callS rfl rfl cl1 ?_) | refine AL.set rfl rfl (op_bytesStrR o5.rb rfl ?_) | refine AL.set rfl rfl (op_bytesStrR o3.rb rfl ?_) | refine AL.set rfl rfl (op_sNeF rfl rfl rfl ?_) | refine AL.set rfl rfl (op_callS rfl rfl (num_c _ H5) ?_) | refine AL.set rfl rfl (op_pick (v := .bool _) rfl rfl ?_) | refine AL.set rfl rfl (op_callS rfl rfl cu1 ?_) | refine AL.set rfl rfl (op_intF rfl rfl rfl (by omega) ?_) | refine AL.set rfl rfl (op_add64 rfl rfl (by omega) ?_) | refine AL.set rfl rfl (op_sub64 rfl rfl (by omega) ?_))
    have e6 : openE l1 s [] = 6 := open_miss h1g rfl m4
    have cr2 := read_c i m rm l1 c1 s H5 k.dk hs
    rw [e6] at cr2
    repeat (first | refine AL.nil ?_ | refine AWp.seq ?_ | refine AWp.region ?_ | refine AWp.condF rfl ?_ | refine AWp.skip ?_ | refine AL.set rfl rfl (op_moveP rfl ?_) | refine AL.set rfl rfl (op_moveStr rfl ?_) | refine AL.set rfl rfl (op_sEqF rfl rfl hst ?_))
    refine AL.set rfl rfl (op_call rfl rfl (cr2.wf_post.mono ?_))
    rintro _ H6 ⟨⟨w6, rfl, _, hx6⟩, wf6, _⟩
    replace k := k.grow hx6 wf6
    replace rk := rk.ext hx6
    have b1 : openE l1 t [s] = 0 := open_ok h3g (one_good h1g) m1
    have cn2 := rename_c i m rm l1 c1 t s H6 k.dk ht hs
    rw [b1] at cn2
    repeat (first | refine AL.nil ?_ | refine AWp.seq ?_ | refine AWp.region ?_ | refine AL.set rfl rfl (op_moveI rfl ?_) | refine AL.set rfl rfl (op_moveB rfl ?_) | refine AL.set rfl rfl (op_moveP rfl ?_) | refine AL.set rfl rfl (op_moveStr rfl ?_) | refine AL.set rfl rfl (op_moveT rfl ?_) | refine AL.set rfl rfl (op_assignI rfl ?_) | refine AL.set rfl rfl (op_extract rfl rfl ?_) | refine AL.set rfl rfl (op_callS rfl rfl (num_c _ H6) ?_) | refine AL.set rfl rfl (op_intF rfl rfl rfl (by exact fun e => e rfl) ?_) | refine AL.set rfl rfl (op_assign (by conv => lhs; whnf) ?_))
    refine AL.set rfl rfl (op_call rfl rfl (cn2.mono ?_))
    rintro _ _ ⟨rfl, rfl⟩
    have ch := k.ch (renL l1 c1 t s) (renC l1 c1 t s)
    replace rk := rk.ch ch (fun e => zne e.symm) znv
    replace k := k.st (DOk.renL k.dk.ok t s)
    have hR2 : renL l1 c1 t s = putD (delS l1 t) s (fileOf l1 t) c1 := by unfold renL; rw [if_pos b1]
    have hg2 : ∀ x, getS (renL l1 c1 t s) x = getS (delS l t) x := fun x => by rw [hR2]; exact hmb c1 x
    generalize stD H6 i m rm (renL l1 c1 t s) (renC l1 c1 t s) = H7 at k rk ch ⊢
    clear ch hR2 hmb
    generalize renL l1 c1 t s = l2 at k hg2 ⊢
    generalize renC l1 c1 t s = c2 at k ⊢
    repeat (first | refine AL.nil ?_ | refine AWp.seq ?_ | refine AWp.region ?_ | refine AWp.condF rfl ?_ | refine AWp.skip ?_ | refine AL.set rfl rfl (op_moveP rfl ?_) | refine AL.set rfl rfl (op_moveStr rfl ?_) | refine AL.set rfl rfl (op_callS rfl rfl (num_c _ H7) ?_) | refine AL.set rfl rfl (op_intF rfl rfl rfl (by exact fun e => e rfl) ?_) | refine AL.set rfl rfl (op_pick (v := .bool _) rfl rfl ?_))
    have cm := rremove_c j rm v F t H7 rk ht
    rw [h3] at cm
    refine AL.set rfl rfl (op_call rfl rfl (cm.mono ?_))
    rintro _ H8 ⟨rfl, hor⟩
    rcases hor with ⟨_, hH⟩ | ⟨_, _, e, _⟩
    rotate_left
    · cases e
    cases hH.symm
    have hs2 : Sm l2 F := Sm.copy zsm zok.names k.dk.ok.names (fun x => by rw [hg2, del_none hht])
    have kdk := k.dk
    repeat (first | refine AL.nil ?_ | refine AWp.seq ?_ | refine AWp.region ?_ | refine AL.set rfl rfl (op_moveI rfl ?_) | refine AL.set rfl rfl (op_moveP rfl ?_))
    refine AL.set rfl rfl (op_call rfl rfl ((files_c j rm v F _ rk (Sm.names hs2 k.dk.ok.names)).mono ?_))
    rintro u9 H9 ⟨G9, oG9, pG9, rG9, hx9, wf9, _⟩
    have kd9 : At H9 i m rm l2 c2 := ⟨hx9.c _ _ kdk.box, hx9.o _ _ kdk.map, kdk.ok, kdk.big⟩
    repeat (first | refine AL.nil ?_ | refine AWp.ret ?_ | refine AL.set rfl rfl (op_moveB rfl ?_) | refine AL.set rfl rfl (op_assignB rfl ?_) | refine AL.set rfl rfl (op_callS rfl rfl (has_c i m rm l2 c2 u9 G9 H9 kd9 ⟨hs2.trans pG9.symm, rG9⟩ oG9.rn) ?_) | refine AL.set rfl rfl (op_pick (v := .bool _) rfl rfl ?_) | refine AL.set rfl rfl (op_callS rfl rfl (known_c H9) ?_))
    exact ⟨_, ResV.tmp rfl, rfl⟩
  by_cases hst : s = t
  · subst hst
    clear hEE h2
    have hb0 : openE l s [s] = 0 := open_ok h1g (one_good h1g) hhs
    have hR : renL l c s s = putD (delS l s) s (fileOf l s) c := by unfold renL; rw [if_pos hb0]
    have dR := DOk.renL z.dk.ok s s
    have hS1 : Sm (renL l c s s) F := by rw [hR]; exact putD_same z.dk.ok.names z.sm hhs c
    have hE1 : openE (renL l c s s) s [] = 0 := open_ok h1g rfl (sm_has hS1 h1s)
    have hF1 := openF_ok hE1
    have f1 := (Sm.file hS1 dR.names (List.mem_of_getElem? h1x)).1
    have f2 := (Sm.file z.sm z.dk.ok.names (List.mem_of_getElem? h1x)).1
    rw [h1n] at f1 f2
    rw [f1, ← f2] at hF1
    have hU : used (renL l c s s) = used l := by rw [Sm.used hS1, Sm.used z.sm]
    have hus := z.dk.ok.used
    clear f1 f2 dR
    rw [h1]
    repeat (first | refine AL.nil ?_ | refine AWp.seq ?_ | refine AWp.region ?_ | refine AWp.condF rfl ?_ | refine AWp.skip ?_ | refine AL.set rfl rfl (op_moveI rfl ?_) | refine AL.set rfl rfl (op_moveB rfl ?_) | refine AL.set rfl rfl (op_moveP rfl ?_) | refine AL.set rfl rfl (op_moveStr rfl ?_) | refine AL.set rfl rfl (op_assignS rfl ?_) | refine AL.set rfl rfl (op_intF rfl rfl rfl (by omega) ?_) | refine AL.set rfl rfl (op_pick (v := .bool _) rfl rfl ?_))
    refine AL.set rfl rfl (op_call rfl rfl (cr.wf_post.mono ?_))
    rintro _ H3 ⟨⟨w3, rfl, o3, hx3⟩, wf3, _⟩
    obtain ⟨wa3, wc3, rfl⟩ := o3.rs.slice
    replace z := z.grow hx3 wf3
    replace rGn := rGn.ext hx3
    have cl := lasting_c i m rm l c s H3 z.dk hs
    rw [hE0, hF0] at cl
    have cn := rename_c i m rm l c s s H3 z.dk hs hs
    rw [hb0] at cn
    have k : Kn h H3 rm i m l c := ⟨z.dk, z.wf, z.ext, z.li, z.lm⟩
    have rk := z.rk
    have zne := z.ne
    have znv := z.nv
    have zsm := z.sm
    have zok := z.dk.ok
    clear z
    repeat (first | refine AL.nil ?_ | refine AWp.seq ?_ | refine AWp.region ?_ | refine AWp.condF rfl ?_ | refine AWp.skip ?_ | refine AL.set rfl rfl (op_moveI rfl ?_) | refine AL.set rfl rfl (op_moveB rfl ?_) | refine AL.set rfl rfl (op_moveP rfl ?_) | refine AL.set rfl rfl (op_moveStr rfl ?_) | refine AL.set rfl rfl (op_moveT rfl ?_) | refine AL.set rfl rfl (op_assignI rfl ?_) | refine AL.set rfl rfl (op_assignS rfl ?_) | refine AL.set rfl rfl (op_extract rfl rfl ?_) | refine AL.set rfl rfl (op_callS rfl rfl cl ?_) | refine AL.set rfl rfl (op_callS rfl rfl (used_c i m rm l c H3 k.dk) ?_) | refine AL.set rfl rfl (op_sNeF rfl rfl rfl ?_) | refine AL.set rfl rfl (op_intT rfl rfl rfl (by omega) ?_) | refine AL.set rfl rfl (op_pick (v := .bool _) rfl rfl ?_))
    refine AL.set rfl rfl (op_call rfl rfl (cn.mono ?_))
    rintro _ _ ⟨rfl, rfl⟩
    have ch := k.ch (renL l c s s) (renC l c s s)
    replace rGn := RN.chB rGn ch nG
    replace rk := rk.ch ch (fun e => zne e.symm) znv
    replace o3 := OS.ch o3 ch li2
    replace k := k.st (DOk.renL k.dk.ok s s)
    generalize stD H3 i m rm (renL l c s s) (renC l c s s) = H4 at k rk rGn ch o3 ⊢
    clear ch
    generalize renL l c s s = l1 at k hE1 hF1 hU hS1 ⊢
    generalize renC l c s s = c1 at k ⊢ ⊢
    repeat (first | refine AL.nil ?_ | refine AWp.seq ?_ | refine AWp.region ?_ | refine AWp.condF rfl ?_ | refine AWp.skip ?_ | refine AL.set rfl rfl (op_moveP rfl ?_) | refine AL.set rfl rfl (op_moveStr rfl ?_) | refine AL.set rfl rfl (op_callS rfl rfl (num_c _ H4) ?_) | refine AL.set rfl rfl (op_intF rfl rfl rfl (by exact fun e => e rfl) ?_))
    have cr1 := read_c i m rm l1 c1 s H4 k.dk ht
    rw [hE1, hF1] at cr1
    refine AL.set rfl rfl (op_call rfl rfl (cr1.wf_post.mono ?_))
    rintro _ H5 ⟨⟨w5, rfl, o5, hx5⟩, wf5, _⟩
    obtain ⟨wa5, wc5, rfl⟩ := o5.rs.slice
    replace k := k.grow hx5 wf5
    replace rk := rk.ext hx5
    replace rGn := rGn.ext hx5
    replace o3 := o3.ext hx5
    have cl1 := lasting_c i m rm l1 c1 s H5 k.dk ht
    rw [hE1, hF1] at cl1
    have cu1 := used_c i m rm l1 c1 H5 k.dk
    repeat (first | refine AL.nil ?_ | refine AWp.seq ?_ | refine AWp.region ?_ | refine AWp.condF rfl ?_ | refine AWp.skip ?_ | refine AL.set rfl rfl (op_moveI rfl ?_) | refine AL.set rfl rfl (op_moveS rfl ?_) | refine AL.set rfl rfl (op_moveB rfl ?_) | refine AL.set rfl rfl (op_moveP rfl ?_) | refine AL.set rfl rfl (op_moveStr rfl ?_) | refine AL.set rfl rfl (op_moveT rfl ?_) | refine AL.set rfl rfl (op_assignI rfl ?_) | refine AL.set rfl rfl (op_assignS rfl ?_) | refine AL.set rfl rfl (op_extract rfl rfl ?_) | refine AL.set rfl rfl (op_callS rfl rfl cl1 ?_) | refine AL.set rfl rfl (op_bytesStrR o5.rb rfl ?_) | refine AL.set rfl rfl (op_bytesStrR o3.rb rfl ?_) | refine AL.set rfl rfl (op_sNeF rfl rfl rfl ?_) | refine AL.set rfl rfl (op_callS rfl rfl (num_c _ H5) ?_) | refine AL.set rfl rfl (op_pick (v := .bool _) rfl rfl ?_) | refine AL.set rfl rfl (op_callS rfl rfl cu1 ?_) | refine AL.set rfl rfl (op_intF rfl rfl rfl (by omega) ?_) | refine AL.set rfl rfl (op_add64 rfl rfl (by omega) ?_) | refine AL.set rfl rfl (op_sub64 rfl rfl (by omega) ?_))
    repeat (first | refine AL.nil ?_ | refine AWp.seq ?_ | refine AWp.region ?_ | refine AWp.condT rfl ?_ | refine AWp.ret ?_ | refine AL.set rfl rfl (op_moveI rfl ?_) | refine AL.set rfl rfl (op_moveS rfl ?_) | refine AL.set rfl rfl (op_moveB rfl ?_) | refine AL.set rfl rfl (op_moveP rfl ?_) | refine AL.set rfl rfl (op_assignB rfl ?_) | refine AL.set rfl rfl (op_pick (v := .bool _) rfl rfl ?_) | refine AL.set rfl rfl (op_sEqT rfl rfl rfl ?_) | refine AL.set rfl rfl (op_callS rfl rfl (has_c i m rm l1 c1 (.slice ua G0 uc) G H5 k.dk ⟨hS1.trans pG.symm, rG⟩ rGn) ?_) | refine AL.set rfl rfl (op_callS rfl rfl (known_c H5) ?_))
    exact ⟨_, ResV.tmp rfl, rfl⟩
  · obtain ⟨m1, m2, m3, m4⟩ := move_facts z.dk.ok.names hhs hst c
    have hmb := move_back z.dk.ok.names hhs hst c
    have hb0 : openE l s [t] = 0 := open_ok h1g (one_good h3g) hhs
    have hR : renL l c s t = putD (delS l s) t (fileOf l s) c := by unfold renL; rw [if_pos hb0]
    have hfl := (Sm.file z.sm z.dk.ok.names (List.mem_of_getElem? h3x)).1
    rw [h3n] at hfl
    rw [hfl] at m3
    rw [← hR] at m1 m2 m3 m4 hmb
    have hE1 : openE (renL l c s t) t [] = 0 := open_ok h3g rfl m1
    have hF1 := openF_ok hE1
    rw [m2] at hF1
    have hU : used (renL l c s t) + (y.2.1 ++ y.2.2).length = used l := m3
    have hus := z.dk.ok.used
    have hyr := row_at h3x
    have hyu := usedR_in h3x
    have hyr2 := z.rk.used
    have hyl : (y.2.1 ++ y.2.2).length = y.2.1.length + y.2.2.length := List.length_append
    clear m3 m2
    rw [h3, h3']
    repeat (first | refine AL.nil ?_ | refine AWp.seq ?_ | refine AWp.region ?_ | refine AWp.condF rfl ?_ | refine AWp.skip ?_ | refine AL.set rfl rfl (op_moveI rfl ?_) | refine AL.set rfl rfl (op_moveB rfl ?_) | refine AL.set rfl rfl (op_moveP rfl ?_) | refine AL.set rfl rfl (op_moveStr rfl ?_) | refine AL.set rfl rfl (op_assignS rfl ?_) | refine AL.set rfl rfl (op_intF rfl rfl rfl (by omega) ?_) | refine AL.set rfl rfl (op_pick (v := .bool _) rfl rfl ?_))
    refine AL.set rfl rfl (op_call rfl rfl (cr.wf_post.mono ?_))
    rintro _ H3 ⟨⟨w3, rfl, o3, hx3⟩, wf3, _⟩
    obtain ⟨wa3, wc3, rfl⟩ := o3.rs.slice
    replace z := z.grow hx3 wf3
    replace rGn := rGn.ext hx3
    have cl := lasting_c i m rm l c s H3 z.dk hs
    rw [hE0, hF0] at cl
    have cn := rename_c i m rm l c s t H3 z.dk hs ht
    rw [hb0] at cn
    have k : Kn h H3 rm i m l c := ⟨z.dk, z.wf, z.ext, z.li, z.lm⟩
    have rk := z.rk
    have zne := z.ne
    have znv := z.nv
    have zsm := z.sm
    have zok := z.dk.ok
    clear z
    have hpy := rk.rn.elt hyr
    repeat (first | refine AL.nil ?_ | refine AWp.seq ?_ | refine AWp.region ?_ | refine AWp.condT rfl ?_ | refine AL.set rfl rfl (op_moveI rfl ?_) | refine AL.set rfl rfl (op_moveB rfl ?_) | refine AL.set rfl rfl (op_moveP rfl ?_) | refine AL.set rfl rfl (op_moveStr rfl ?_) | refine AL.set rfl rfl (op_moveT rfl ?_) | refine AL.set rfl rfl (op_assignI rfl ?_) | refine AL.set rfl rfl (op_assignS rfl ?_) | refine AL.set rfl rfl (op_extract rfl rfl ?_) | refine AL.set rfl rfl (op_callS rfl rfl cl ?_) | refine AL.set rfl rfl (op_callS rfl rfl (used_c i m rm l c H3 k.dk) ?_) | refine AL.set rfl rfl (op_sNeT rfl rfl hst ?_) | refine AL.set rfl rfl (op_intT rfl rfl rfl (by omega) ?_) | refine AL.set rfl rfl (op_pick (v := .bool _) rfl rfl ?_) | refine AL.set rfl rfl (op_nilCheck rfl ?_) | refine AL.set rfl rfl (op_fa rfl ?_) | refine AL.set rfl rfl (op_load rfl rfl rk.box rfl ?_) | refine AL.set rfl rfl (op_indexND rk.rn rfl rfl (by omega) hyr ?_) | refine AL.set rfl rfl (op_loadN hpy rfl rfl rfl ?_) | refine AL.set rfl rfl (op_callS rfl rfl (rall_c y H3 (by omega)) ?_) | refine AL.set rfl rfl (op_lenSB rfl ?_))
    refine AL.set rfl rfl (op_call rfl rfl (cn.mono ?_))
    rintro _ _ ⟨rfl, rfl⟩
    have ch := k.ch (renL l c s t) (renC l c s t)
    replace rGn := RN.chB rGn ch nG
    replace rk := rk.ch ch (fun e => zne e.symm) znv
    replace o3 := OS.ch o3 ch li2
    replace k := k.st (DOk.renL k.dk.ok s t)
    generalize stD H3 i m rm (renL l c s t) (renC l c s t) = H4 at k rk rGn ch o3 ⊢
    clear ch
    generalize renL l c s t = l1 at k hE1 hF1 hU hmb m1 m4 ⊢
    generalize renC l c s t = c1 at k ⊢ ⊢
    repeat (first | refine AL.nil ?_ | refine AWp.seq ?_ | refine AWp.region ?_ | refine AWp.condF rfl ?_ | refine AWp.skip ?_ | refine AL.set rfl rfl (op_moveP rfl ?_) | refine AL.set rfl rfl (op_moveStr rfl ?_) | refine AL.set rfl rfl (op_callS rfl rfl (num_c _ H4) ?_) | refine AL.set rfl rfl (op_intF rfl rfl rfl (by exact fun e => e rfl) ?_))
    have cr1 := read_c i m rm l1 c1 t H4 k.dk ht
    rw [hE1, hF1] at cr1
    refine AL.set rfl rfl (op_call rfl rfl (cr1.wf_post.mono ?_))
    rintro _ H5 ⟨⟨w5, rfl, o5, hx5⟩, wf5, _⟩
    obtain ⟨wa5, wc5, rfl⟩ := o5.rs.slice
    replace k := k.grow hx5 wf5
    replace rk := rk.ext hx5
    replace rGn := rGn.ext hx5
    replace o3 := o3.ext hx5
    have cl1 := lasting_c i m rm l1 c1 t H5 k.dk ht
    rw [hE1, hF1] at cl1
    have cu1 := used_c i m rm l1 c1 H5 k.dk
    repeat (first | refine AL.nil ?_ | refine AWp.seq ?_ | refine AWp.region ?_ | refine AWp.condF rfl ?_ | refine AWp.skip ?_ | refine AL.set rfl rfl (op_moveI rfl ?_) | refine AL.set rfl rfl (op_moveS rfl ?_) | refine AL.set rfl rfl (op_moveB rfl ?_) | refine AL.set rfl rfl (op_moveP rfl ?_) | refine AL.set rfl rfl (op_moveStr rfl ?_) | refine AL.set rfl rfl (op_moveT rfl ?_) | refine AL.set rfl rfl (op_assignI rfl ?_) | refine AL.set rfl rfl (op_assignS rfl ?_) | refine AL.set rfl rfl (op_extract rfl rfl ?_) | refine AL.set rfl rfl (op_callS rfl rfl cl1 ?_) | refine AL.set rfl rfl (op_bytesStrR o5.rb rfl ?_) | refine AL.set rfl rfl (op_bytesStrR o3.rb rfl ?_) | refine AL.set rfl rfl (op_sNeF rfl rfl rfl ?_) | refine AL.set rfl rfl (op_callS rfl rfl (num_c _ H5) ?_) | refine AL.set rfl rfl (op_pick (v := .bool _) rfl rfl ?_) | refine AL.set rfl rfl (op_callS rfl rfl cu1 ?_) | refine AL.set rfl rfl (op_intF rfl rfl rfl (by omega) ?_) | refine AL.set rfl rfl (op_add64 rfl rfl (by omega) ?_) | refine AL.set rfl rfl (op_sub64 rfl rfl (by omega) ?_))
    have e6 : openE l1 s [] = 6 := open_miss h1g rfl m4
    have cr2 := read_c i m rm l1 c1 s H5 k.dk hs
    rw [e6] at cr2
    repeat (first | refine AL.nil ?_ | refine AWp.seq ?_ | refine AWp.region ?_ | refine AWp.condF rfl ?_ | refine AWp.skip ?_ | refine AL.set rfl rfl (op_moveP rfl ?_) | refine AL.set rfl rfl (op_moveStr rfl ?_) | refine AL.set rfl rfl (op_sEqF rfl rfl hst ?_))
    refine AL.set rfl rfl (op_call rfl rfl (cr2.wf_post.mono ?_))
    rintro _ H6 ⟨⟨w6, rfl, _, hx6⟩, wf6, _⟩
    replace k := k.grow hx6 wf6
    replace rk := rk.ext hx6
    have b1 : openE l1 t [s] = 0 := open_ok h3g (one_good h1g) m1
    have cn2 := rename_c i m rm l1 c1 t s H6 k.dk ht hs
    rw [b1] at cn2
    repeat (first | refine AL.nil ?_ | refine AWp.seq ?_ | refine AWp.region ?_ | refine AL.set rfl rfl (op_moveI rfl ?_) | refine AL.set rfl rfl (op_moveB rfl ?_) | refine AL.set rfl rfl (op_moveP rfl ?_) | refine AL.set rfl rfl (op_moveStr rfl ?_) | refine AL.set rfl rfl (op_moveT rfl ?_) | refine AL.set rfl rfl (op_assignI rfl ?_) | refine AL.set rfl rfl (op_extract rfl rfl ?_) | refine AL.set rfl rfl (op_callS rfl rfl (num_c _ H6) ?_) | refine AL.set rfl rfl (op_intF rfl rfl rfl (by exact fun e => e rfl) ?_) | refine AL.set rfl rfl (op_assign (by conv => lhs; whnf) ?_))
    refine AL.set rfl rfl (op_call rfl rfl (cn2.mono ?_))
    rintro _ _ ⟨rfl, rfl⟩
    have ch := k.ch (renL l1 c1 t s) (renC l1 c1 t s)
    replace rk := rk.ch ch (fun e => zne e.symm) znv
    replace k := k.st (DOk.renL k.dk.ok t s)
    have hR2 : renL l1 c1 t s = putD (delS l1 t) s (fileOf l1 t) c1 := by unfold renL; rw [if_pos b1]
    have hg2 : ∀ x, getS (renL l1 c1 t s) x = getS (delS l t) x := fun x => by rw [hR2]; exact hmb c1 x
    generalize stD H6 i m rm (renL l1 c1 t s) (renC l1 c1 t s) = H7 at k rk ch ⊢
    clear ch hR2 hmb
    generalize renL l1 c1 t s = l2 at k hg2 ⊢
    generalize renC l1 c1 t s = c2 at k ⊢
    repeat (first | refine AL.nil ?_ | refine AWp.seq ?_ | refine AWp.region ?_ | refine AWp.condF rfl ?_ | refine AWp.skip ?_ | refine AL.set rfl rfl (op_moveP rfl ?_) | refine AL.set rfl rfl (op_moveStr rfl ?_) | refine AL.set rfl rfl (op_callS rfl rfl (num_c _ H7) ?_) | refine AL.set rfl rfl (op_intF rfl rfl rfl (by exact fun e => e rfl) ?_) | refine AL.set rfl rfl (op_pick (v := .bool _) rfl rfl ?_))
    have cm := rremove_c j rm v F t H7 rk ht
    rw [h3] at cm
    refine AL.set rfl rfl (op_call rfl rfl (cm.mono ?_))
    rintro _ H8 ⟨rfl, hor⟩
    rcases hor with ⟨e, _⟩ | ⟨k1, y1, _, e2, e3, e4, ⟨⟨v', rk', _⟩, md⟩⟩
    · exact absurd rfl e
    have hk1 : k1 < F.length := (List.getElem?_eq_some_iff.1 e3).1
    have hs3 : Sm (delS l t) (dropR F k1) := by
      have h9 := Sm.del zsm zok.names e3
      rw [e4] at h9
      exact h9.trans (dropR_perm hk1).symm
    have hs2 : Sm l2 (dropR F k1) := Sm.copy hs3 (zok.names.sublist ((del_sub l t).map _)) k.dk.ok.names hg2
    have kdk := At.md k.dk md zne
    replace rk := rk'
    repeat (first | refine AL.nil ?_ | refine AWp.seq ?_ | refine AWp.region ?_ | refine AL.set rfl rfl (op_moveI rfl ?_) | refine AL.set rfl rfl (op_moveP rfl ?_))
    refine AL.set rfl rfl (op_call rfl rfl ((files_c j rm v' (dropR F k1) _ rk (Sm.names hs2 k.dk.ok.names)).mono ?_))
    rintro u9 H9 ⟨G9, oG9, pG9, rG9, hx9, wf9, _⟩
    have kd9 : At H9 i m rm l2 c2 := ⟨hx9.c _ _ kdk.box, hx9.o _ _ kdk.map, kdk.ok, kdk.big⟩
    repeat (first | refine AL.nil ?_ | refine AWp.ret ?_ | refine AL.set rfl rfl (op_moveB rfl ?_) | refine AL.set rfl rfl (op_assignB rfl ?_) | refine AL.set rfl rfl (op_callS rfl rfl (has_c i m rm l2 c2 u9 G9 H9 kd9 ⟨hs2.trans pG9.symm, rG9⟩ oG9.rn) ?_) | refine AL.set rfl rfl (op_pick (v := .bool _) rfl rfl ?_) | refine AL.set rfl rfl (op_callS rfl rfl (known_c H9) ?_))
    exact ⟨_, ResV.tmp rfl, rfl⟩
end Go.Proofs.Ytiebmncpdnbcjaa
