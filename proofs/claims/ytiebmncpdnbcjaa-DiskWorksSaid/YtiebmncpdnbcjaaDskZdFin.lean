/-
  DiskWorks.
-/
import Derived.Test.YtiebmncpdnbcjaaMrgh
namespace Go.Proofs.Ytiebmncpdnbcjaa
open Go Go.Eng Go.Dsk
attribute [local irreducible] AWp AL DAL AOp TAL

theorem Lst.nil : Lst [] [] := ⟨List.Perm.nil, List.Pairwise.nil⟩
theorem Lst.of {l : FL} {F G : List RF} (m : Sm l F) (p : G.Perm F) (r : Rise (G.map (·.1))) : Lst l G := ⟨m.trans p.symm, r⟩
theorem St.kn {h0 h H : Heap} {room i m : Nat} {l : FL} {c j : Nat} {v : Value} {F : List RF} (s : St h0 h room i m l c j v F) (hx : Ext h H) (wf : WF H) : St h0 H room i m l c j v F := s.grow hx wf
set_option maxHeartbeats 4000000 in
theorem works_walk (room : Int) (lv : Value) (L : List StepT) (h : Heap) (r : Steps h lv L) :
    ACalls Try.prog 5 [.int .i64 room, lv] h fun v _ => v = .bool true := by
  refine ACalls.wf fun wf => ?_
  refine ACalls.body Try.func5 rfl rfl ?_
  have hlen : (L.map stepT).length = L.length := by simp
  have hll := r.len
  repeat (first | refine AL.nil ?_ | refine AWp.seq ?_ | refine AWp.region ?_ | refine AL.set rfl rfl (op_assignB rfl ?_) | refine AL.set rfl rfl (op_move (by conv => lhs; whnf) ?_))
  refine AL.set rfl rfl (op_call rfl rfl ((much_c lv L 60 h r).mono ?_))
  rintro _ H0 ⟨q, rfl, hH0, hq⟩
  cases hH0.symm
  cases q with
  | true =>
    repeat (first | refine AL.nil ?_ | refine AWp.seq ?_ | refine AWp.region ?_ | refine AWp.condT rfl ?_ | refine AWp.ret ?_ | refine AL.set rfl rfl (op_assignB rfl ?_) | refine AL.set rfl rfl (op_callS rfl rfl (known_c h) ?_))
    exact ⟨_, ResV.tmp rfl, rfl⟩
  | false =>
  obtain ⟨hl60, hf⟩ := hq rfl
  cases hn : newOk room with
  | false =>
    repeat (first | refine AL.nil ?_ | refine AWp.seq ?_ | refine AWp.region ?_ | refine AWp.condT rfl ?_ | refine AWp.condF rfl ?_ | refine AWp.ret ?_ | refine AWp.skip ?_ | refine AL.set rfl rfl (op_moveI rfl ?_) | refine AL.set rfl rfl (op_moveB rfl ?_) | refine AL.set rfl rfl (op_moveP rfl ?_) | refine AL.set rfl rfl (op_moveT rfl ?_) | refine AL.set rfl rfl (op_assignI rfl ?_) | refine AL.set rfl rfl (op_assignB rfl ?_) | refine AL.set rfl rfl (op_assignP rfl ?_) | refine AL.set rfl rfl (op_callS rfl rfl (new_no room h hn) ?_) | refine AL.set rfl rfl (op_callS rfl rfl (rnew_no room h hn) ?_) | refine AL.set rfl rfl (op_extract rfl rfl ?_) | refine AL.set rfl rfl (op_eqPtrNil rfl rfl ?_) | refine AL.set rfl rfl (op_pick (v := .bool _) rfl rfl ?_) | refine AL.set rfl rfl (op_callS rfl rfl (num_c _ h) ?_) | refine AL.set rfl rfl (op_intT rfl rfl rfl rfl ?_) | refine AL.set rfl rfl (op_callS rfl rfl (known_c h) ?_))
    exact ⟨_, ResV.tmp rfl, rfl⟩
  | true =>
    have hb : 1024 ≤ room ∧ room ≤ 1048576 := of_decide_eq_true hn
    obtain ⟨rm, rfl⟩ : ∃ n : Nat, room = n := ⟨room.toNat, by omega⟩
    repeat (first | refine AL.nil ?_ | refine AWp.seq ?_ | refine AWp.region ?_ | refine AWp.condF rfl ?_ | refine AWp.skip ?_ | refine AL.set rfl rfl (op_moveI rfl ?_))
    refine AL.set rfl rfl (op_call rfl rfl ((new_yes rm h (by omega) (by omega)).wf_post.mono ?_))
    rintro _ H1 ⟨⟨i, m, rfl, q1, q2, a1, hx1⟩, wf1, _⟩
    repeat (first | refine AL.nil ?_ | refine AWp.seq ?_ | refine AWp.region ?_ | refine AL.set rfl rfl (op_moveI rfl ?_) | refine AL.set rfl rfl (op_moveT rfl ?_) | refine AL.set rfl rfl (op_assignI rfl ?_) | refine AL.set rfl rfl (op_assignP rfl ?_) | refine AL.set rfl rfl (op_extract rfl rfl ?_))
    refine AL.set rfl rfl (op_call rfl rfl ((rnew_yes rm H1 (by omega) (by omega)).mono ?_))
    rintro _ H2 ⟨rfl, r2, hx2, wf2, n2⟩
    have s0 := St.new wf q1 q2 a1 hx1 wf1 r2 hx2 wf2
    repeat (first | refine AL.nil ?_ | refine AWp.seq ?_ | refine AWp.region ?_ | refine AWp.condF rfl ?_ | refine AWp.block ?_ | refine AWp.skip ?_ | refine AL.set rfl rfl (op_moveI rfl ?_) | refine AL.set rfl rfl (op_moveB rfl ?_) | refine AL.set rfl rfl (op_moveP rfl ?_) | refine AL.set rfl rfl (op_assignI rfl ?_) | refine AL.set rfl rfl (op_assignP rfl ?_) | refine AL.set rfl rfl (op_eqPtrNil rfl rfl ?_) | refine AL.set rfl rfl (op_pick (v := .bool _) rfl rfl ?_) | refine AL.set rfl rfl (op_callS rfl rfl (num_c _ H2) ?_) | refine AL.set rfl rfl (op_intF rfl rfl rfl (by exact fun e => e rfl) ?_) | refine AL.set rfl rfl (op_callS rfl rfl (has_c i m rm [] 0 _ [] H2 s0.dk Lst.nil (RN.nil 3 H2)) ?_) | refine AL.set rfl rfl (op_not rfl ?_))
    refine AWp.loop (α := Nat × Nat × Nat × FL × Nat × Nat × Value × Heap) (fun d => [(0, .int .i64 (rm : Nat)), (1, lv), (5, ptr d.2.1), (7, ptr d.2.2.2.2.2.1), (8, .int .i64 (d.1 : Nat))]) (fun d => d.2.2.2.2.2.2.2)
      (fun d => d.1 ≤ L.length ∧ St h d.2.2.2.2.2.2.2 rm d.2.1 d.2.2.1 d.2.2.2.1 d.2.2.2.2.1 d.2.2.2.2.2.1 d.2.2.2.2.2.2.1 (runF rm (L.take d.1))) (fun d => L.length - d.1) (0, i, m, [], 0, H1.next, .slice none 0 0, H2)
      ⟨Nat.zero_le _, s0⟩ (Weak.same (EW.cons rfl (EW.cons rfl (EW.cons rfl (EW.cons rfl (EW.cons rfl EW.nil)))))) ?_
    rintro ⟨k, i, m, l, c, j, v, H⟩ ⟨w1, s⟩
    replace w1 : k ≤ L.length := w1
    replace s : St h H rm i m l c j v (runF rm (L.take k)) := s
    show AWp _ _ _ _ [(0, .int .i64 (rm : Nat)), (1, lv), (5, ptr i), (7, ptr j), (8, .int .i64 (k : Nat))] H
    have rH := r.rn.ext s.ext
    by_cases hk : k < L.length
    · obtain ⟨t, ht⟩ : ∃ t, L[k]? = some t := ⟨_, List.getElem?_eq_getElem hk⟩
      have hx2 := stepT_at ht
      have hp := rH.elt hx2
      have hmem := List.mem_of_getElem? ht
      have so := (r.all t hmem).ok (hf t hmem)
      repeat (first | refine AL.nil ?_ | refine AWp.seq ?_ | refine AWp.region ?_ | refine AWp.condT rfl ?_ | refine AWp.block ?_ | refine AWp.skip ?_ | refine AL.set rfl rfl (op_moveI rfl ?_) | refine AL.set rfl rfl (op_moveP rfl ?_) | refine AL.set rfl rfl (op_lenN rH rfl ?_) | refine AL.set rfl rfl (op_intT rfl rfl rfl (by omega) ?_) | refine AL.set rfl rfl (op_indexND rH rfl rfl (by omega) hx2 ?_) | refine AL.set rfl rfl (op_loadN hp rfl rfl rfl ?_) | refine AL.set rfl rfl (op_move (by conv => lhs; whnf) ?_))
      refine AL.set rfl rfl (op_call rfl rfl ((do_c h H rm i m l c j v _ t.2.1 t.2.2 t.1 s so).mono ?_))
      rintro _ H5 ⟨i', m', l', c', j', v', rfl, s'⟩
      repeat (first | refine AL.nil ?_ | refine AWp.seq ?_ | refine AWp.region ?_ | refine AL.set rfl rfl (op_moveI rfl ?_) | refine AL.set rfl rfl (op_moveB rfl ?_) | refine AL.set rfl rfl (op_moveP rfl ?_) | refine AL.set rfl rfl (op_moveT rfl ?_) | refine AL.set rfl rfl (op_assignB rfl ?_) | refine AL.set rfl rfl (op_assignP rfl ?_) | refine AL.set rfl rfl (op_extract rfl rfl ?_) | refine AL.set rfl rfl (op_eqPtrNil rfl rfl ?_) | refine AL.set rfl rfl (op_pick (v := .bool _) rfl rfl ?_) | refine AL.set rfl rfl (op_not rfl ?_))
      refine AL.set rfl rfl (op_call rfl rfl ((files_c j' rm v' _ H5 s'.rk (s'.sm.names s'.dk.ok.names)).mono ?_))
      rintro u H6 ⟨G, oG, pG, rG, hx6, wf6, _⟩
      replace s' := s'.grow hx6 wf6
      repeat (first | refine AL.nil ?_ | refine AWp.region ?_ | refine AWp.condF rfl ?_ | refine AWp.skip ?_ | refine AL.set rfl rfl (op_moveI rfl ?_) | refine AL.set rfl rfl (op_moveP rfl ?_) | refine AL.set rfl rfl (op_assignI rfl ?_) | refine AL.set rfl rfl (op_assignP rfl ?_) | refine AL.set rfl rfl (op_callS rfl rfl (has_c i' m' rm l' c' u G H6 s'.dk (Lst.of s'.sm pG rG) oG.rn) ?_) | refine AL.set rfl rfl (op_pick (v := .bool _) rfl rfl ?_) | refine AL.set rfl rfl (op_add64 rfl rfl (by omega) ?_) | refine AL.set rfl rfl (op_not rfl ?_))
      refine ⟨(k + 1, i', m', l', c', j', v', H6), ⟨hk, ?_⟩, by show L.length - (k + 1) < L.length - k; omega, Weak.same (EW.cons rfl (EW.cons rfl (EW.cons rfl (EW.cons rfl (EW.cons rfl EW.nil)))))⟩
      show St h H6 rm i' m' l' c' j' v' (runF rm (L.take (k + 1)))
      rw [runF_take ht]
      exact s'
    · repeat (first | refine AL.nil ?_ | refine AWp.seq ?_ | refine AWp.region ?_ | refine AWp.condF rfl ?_ | refine AWp.ret ?_ | refine AWp.exit ?_ | refine AL.set rfl rfl (op_moveI rfl ?_) | refine AL.set rfl rfl (op_assignB rfl ?_) | refine AL.set rfl rfl (op_lenN rH rfl ?_) | refine AL.set rfl rfl (op_intF rfl rfl rfl (by omega) ?_) | refine AL.set rfl rfl (op_callS rfl rfl (known_c H) ?_) | refine AL.set rfl rfl (op_move (by conv => lhs; whnf) ?_))
      exact ⟨_, ResV.tmp rfl, rfl⟩
end Go.Proofs.Ytiebmncpdnbcjaa
