/-
  Texts of one claim, merged: 1 parts.
-/
import Derived.Test.YtigmojilaadbhaaGreatDoorMuo
set_option maxHeartbeats 16000000
/- . -/
namespace Go.Proofs.YtigmojilaadbhaaGreatDoor
open Go Go.Eng Go.Pln Go.Lib
attribute [local irreducible] AWp AL DAL AOp TAL
theorem read_c (k : Int) (hk : 1 ≤ k ∧ k ≤ 13) {h0 h : Heap} {i : Nat} {s : Bytes} (r : Rdr h0 i s h) (hl : s.length ≤ 1000000000) : ACalls Tryz.prog 48 [ptr i, .int .i64 k] h fun u h' => ∃ q s', u = .agg (actC q (readS k s)).toArray ∧ ((∃ B, ActO B h' q (readS k s)) ∧ (readS k s).keep.length ≤ 140737488351232) ∧ Rdr h0 i s' h' := by
 refine ACalls.body Tryz.func48 rfl rfl ?_
 have l1 := qcf s
 have l2 := qcf (numS s).2
 have l3 := qcf (numS (numS s).2).2
 repeat (first | refine W.w ?_ | refine zz rfl (qac rfl ?_) | refine zz rfl (qaw ?_))
 refine AL.heap (h := h.alloc ⟨actC actV0 act0, 40, true⟩) rfl ?_
 have g4 := Heap.alloc_new h ⟨actC actV0 act0, 40, true⟩
 have x1 := r.wf.ext ⟨actC actV0 act0, 40, true⟩
 have w1 := r.wf.alloc ⟨actC actV0 act0, 40, true⟩
 have r1 := r.grow x1 w1 (Nat.le_succ _)
 have nx := r.nx
 generalize h.alloc ⟨actC actV0 act0, 40, true⟩ = H1 at g4 x1 w1 r1 ⊢
 have ln := w1.lt g4
 by_cases k1 : k = 3 ∨ k = 4 ∨ k = 5
 ·
  have hr : readS k s = { act0 with kind := k, n := (numS s).1 } := by unfold readS; rw [if_pos k1]
  rcases k1 with e | e | e <;>
  ·
   repeat (first | refine W.w ?_ | refine AWp.c8 rfl ?_ | refine AWp.c9 rfl ?_ | refine AL.eff rfl (qaE (vs := actC actV0 { act0 with kind := k }) rfl rfl rfl rfl rfl ?_) | (refine zz rfl ?_; first | refine qac rfl ?_ | refine qay rfl ?_ | refine qaa rfl ?_ | refine qam rfl rfl rfl (by omega) ?_ | refine qak rfl rfl rfl (by omega) ?_ | refine qax (out := actC actV0 { act0 with kind := k }) rfl rfl ?_ | refine qaw ?_))
   have g5 := Heap.alloc_new H1 ⟨actC actV0 { act0 with kind := k }, 40, true⟩
   have x2 := w1.ext ⟨actC actV0 { act0 with kind := k }, 40, true⟩
   have w2 := w1.alloc ⟨actC actV0 { act0 with kind := k }, 40, true⟩
   have A2 : RdA h0 i s (H1.alloc ⟨actC actV0 { act0 with kind := k }, 40, true⟩) h.next H1.next actV0 { act0 with kind := k } := ⟨r1.grow x2 w2 (Nat.le_succ _), x2.c _ _ g4, g5, nx, by omega, by omega⟩
   generalize H1.alloc ⟨actC actV0 { act0 with kind := k }, 40, true⟩ = H2 at A2 ⊢
   generalize hb4 : h.next = b4 at A2 ⊢
   generalize hb5 : H1.next = b5 at A2 ⊢
   clear g4 x1 w1 r1 nx ln g5 x2 w2
   skip
   refine zz rfl (qar (evs := [ptr i]) rfl rfl ((qbl A2.rd (by omega)).mono ?_))
   rintro _ _ ⟨rfl, rfl⟩
   have B3 := A2.num (numS s).2
   generalize H2.set i (rdB (numS s).2) = G3 at B3 ⊢
   repeat (first | refine zz rfl (qao rfl ?_))
   refine AL.eff rfl (qau (v := .int .i64 (numS s).1) rfl rfl rfl B3.g5 rfl (by show 4 < 33; omega) ?_)
   refine AL.heap (h := G3.set b5 ⟨actC actV0 ({ act0 with kind := k, n := (numS s).1 }), 40, true⟩) rfl ?_
   have A3 := B3.put actV0 ({ act0 with kind := k, n := (numS s).1 })
   generalize G3.set b5 ⟨actC actV0 ({ act0 with kind := k, n := (numS s).1 }), 40, true⟩ = H3 at A3 ⊢
   have O3 : ActO h.next H3 actV0 ({ act0 with kind := k, n := (numS s).1 }) := ActO.nil _ _ _ rfl rfl rfl
   repeat (first | refine W.w ?_ | refine zz rfl (qaj (sz := 33) rfl rfl A3.g5 (Nat.le_refl _) ?_) | refine AL.eff rfl (qan (vs := actC (actV0) ({ act0 with kind := k, n := (numS s).1 })) rfl rfl rfl (qaF (O3.r (Nat.zero_le _))) A3.g4 rfl ?_))
   exact ⟨_, ResV.cellA rfl rfl rfl (Heap.set_at _ _ _) (Nat.le_refl _), actV0, _, by rw [hr]; rfl, by rw [hr]; exact ⟨⟨_, ActO.put O3 A3.g4 (Nat.ne_of_beq_eq_false rfl) (Nat.ne_of_beq_eq_false rfl)⟩, (Nat.zero_le _)⟩, A3.rd.put A3.n4 (A3.rd.wf.lt A3.g4) _⟩
 by_cases k2 : k = 11
 ·
  have hr : readS k s = { act0 with kind := k, client := (numS s).1, node := (numS (numS s).2).1, group := (numS (numS (numS s).2).2).1 } := by subst k2; rfl
  repeat (first | refine W.w ?_ | refine AWp.c8 rfl ?_ | refine AWp.c9 rfl ?_ | refine AL.eff rfl (qaE (vs := actC actV0 { act0 with kind := k }) rfl rfl rfl rfl rfl ?_) | (refine zz rfl ?_; first | refine qac rfl ?_ | refine qay rfl ?_ | refine qaa rfl ?_ | refine qam rfl rfl rfl (by omega) ?_ | refine qak rfl rfl rfl (by omega) ?_ | refine qax (out := actC actV0 { act0 with kind := k }) rfl rfl ?_ | refine qaw ?_))
  have g5 := Heap.alloc_new H1 ⟨actC actV0 { act0 with kind := k }, 40, true⟩
  have x2 := w1.ext ⟨actC actV0 { act0 with kind := k }, 40, true⟩
  have w2 := w1.alloc ⟨actC actV0 { act0 with kind := k }, 40, true⟩
  have A2 : RdA h0 i s (H1.alloc ⟨actC actV0 { act0 with kind := k }, 40, true⟩) h.next H1.next actV0 { act0 with kind := k } := ⟨r1.grow x2 w2 (Nat.le_succ _), x2.c _ _ g4, g5, nx, by omega, by omega⟩
  generalize H1.alloc ⟨actC actV0 { act0 with kind := k }, 40, true⟩ = H2 at A2 ⊢
  generalize hb4 : h.next = b4 at A2 ⊢
  generalize hb5 : H1.next = b5 at A2 ⊢
  clear g4 x1 w1 r1 nx ln g5 x2 w2
  skip
  refine zz rfl (qar (evs := [ptr i]) rfl rfl ((qbl A2.rd (by omega)).mono ?_))
  rintro _ _ ⟨rfl, rfl⟩
  have B3 := A2.num (numS s).2
  generalize H2.set i (rdB (numS s).2) = G3 at B3 ⊢
  repeat (first | refine zz rfl (qao rfl ?_))
  refine AL.eff rfl (qau (v := .int .i64 (numS s).1) rfl rfl rfl B3.g5 rfl (by show 3 < 33; omega) ?_)
  refine AL.heap (h := G3.set b5 ⟨actC actV0 ({ act0 with kind := k, client := (numS s).1 }), 40, true⟩) rfl ?_
  have A3 := B3.put actV0 ({ act0 with kind := k, client := (numS s).1 })
  generalize G3.set b5 ⟨actC actV0 ({ act0 with kind := k, client := (numS s).1 }), 40, true⟩ = H3 at A3 ⊢
  repeat (first | refine W.w ?_ | refine zz rfl (qay rfl ?_))
  refine zz rfl (qar (evs := [ptr i]) rfl rfl ((qbl A3.rd (by omega)).mono ?_))
  rintro _ _ ⟨rfl, rfl⟩
  have B4 := A3.num (numS (numS s).2).2
  generalize H3.set i (rdB (numS (numS s).2).2) = G4 at B4 ⊢
  repeat (first | refine zz rfl (qao rfl ?_))
  refine AL.eff rfl (qau (v := .int .i64 (numS (numS s).2).1) rfl rfl rfl B4.g5 rfl (by show 1 < 33; omega) ?_)
  refine AL.heap (h := G4.set b5 ⟨actC actV0 ({ act0 with kind := k, client := (numS s).1, node := (numS (numS s).2).1 }), 40, true⟩) rfl ?_
  have A4 := B4.put actV0 ({ act0 with kind := k, client := (numS s).1, node := (numS (numS s).2).1 })
  generalize G4.set b5 ⟨actC actV0 ({ act0 with kind := k, client := (numS s).1, node := (numS (numS s).2).1 }), 40, true⟩ = H4 at A4 ⊢
  repeat (first | refine W.w ?_ | refine AWp.c9 rfl ?_ | (refine zz rfl ?_; first | refine qac rfl ?_ | refine qay rfl ?_ | refine qaa rfl ?_ | refine qak rfl rfl rfl (by omega) ?_))
  refine zz rfl (qar (evs := [ptr i]) rfl rfl ((qbl A4.rd (by omega)).mono ?_))
  rintro _ _ ⟨rfl, rfl⟩
  have B5 := A4.num (numS (numS (numS s).2).2).2
  generalize H4.set i (rdB (numS (numS (numS s).2).2).2) = G5 at B5 ⊢
  repeat (first | refine zz rfl (qao rfl ?_))
  refine AL.eff rfl (qau (v := .int .i64 (numS (numS (numS s).2).2).1) rfl rfl rfl B5.g5 rfl (by show 2 < 33; omega) ?_)
  refine AL.heap (h := G5.set b5 ⟨actC actV0 ({ act0 with kind := k, client := (numS s).1, node := (numS (numS s).2).1, group := (numS (numS (numS s).2).2).1 }), 40, true⟩) rfl ?_
  have A5 := B5.put actV0 ({ act0 with kind := k, client := (numS s).1, node := (numS (numS s).2).1, group := (numS (numS (numS s).2).2).1 })
  generalize G5.set b5 ⟨actC actV0 ({ act0 with kind := k, client := (numS s).1, node := (numS (numS s).2).1, group := (numS (numS (numS s).2).2).1 }), 40, true⟩ = H5 at A5 ⊢
  have O5 : ActO h.next H5 actV0 ({ act0 with kind := k, client := (numS s).1, node := (numS (numS s).2).1, group := (numS (numS (numS s).2).2).1 }) := ActO.nil _ _ _ rfl rfl rfl
  repeat (first | refine W.w ?_ | refine AWp.c9 rfl ?_ | refine AL.eff rfl (qan (vs := actC (actV0) ({ act0 with kind := k, client := (numS s).1, node := (numS (numS s).2).1, group := (numS (numS (numS s).2).2).1 })) rfl rfl rfl (qaF (O5.r (Nat.zero_le _))) A5.g4 rfl ?_) | (refine zz rfl ?_; first | refine qac rfl ?_ | refine qak rfl rfl rfl (by omega) ?_ | refine qaj (sz := 33) rfl rfl A5.g5 (Nat.le_refl _) ?_))
  exact ⟨_, ResV.cellA rfl rfl rfl (Heap.set_at _ _ _) (Nat.le_refl _), actV0, _, by rw [hr]; rfl, by rw [hr]; exact ⟨⟨_, ActO.put O5 A5.g4 (Nat.ne_of_beq_eq_false rfl) (Nat.ne_of_beq_eq_false rfl)⟩, (Nat.zero_le _)⟩, A5.rd.put A5.n4 (A5.rd.wf.lt A5.g4) _⟩
 by_cases k3 : k = 10
 ·
  have hr0 : readS k s = { act0 with kind := k, client := (numS s).1, node := (numS (numS s).2).1, group := (numS (numS (numS s).2).2).1, ask := askS (numS (numS (numS s).2).2).2 } := by subst k3; rfl
  repeat (first | refine W.w ?_ | refine AWp.c8 rfl ?_ | refine AWp.c9 rfl ?_ | refine AL.eff rfl (qaE (vs := actC actV0 { act0 with kind := k }) rfl rfl rfl rfl rfl ?_) | (refine zz rfl ?_; first | refine qac rfl ?_ | refine qay rfl ?_ | refine qaa rfl ?_ | refine qam rfl rfl rfl (by omega) ?_ | refine qak rfl rfl rfl (by omega) ?_ | refine qax (out := actC actV0 { act0 with kind := k }) rfl rfl ?_ | refine qaw ?_))
  have g5 := Heap.alloc_new H1 ⟨actC actV0 { act0 with kind := k }, 40, true⟩
  have x2 := w1.ext ⟨actC actV0 { act0 with kind := k }, 40, true⟩
  have w2 := w1.alloc ⟨actC actV0 { act0 with kind := k }, 40, true⟩
  have A2 : RdA h0 i s (H1.alloc ⟨actC actV0 { act0 with kind := k }, 40, true⟩) h.next H1.next actV0 { act0 with kind := k } := ⟨r1.grow x2 w2 (Nat.le_succ _), x2.c _ _ g4, g5, nx, by omega, by omega⟩
  generalize H1.alloc ⟨actC actV0 { act0 with kind := k }, 40, true⟩ = H2 at A2 ⊢
  generalize hb4 : h.next = b4 at A2 ⊢
  generalize hb5 : H1.next = b5 at A2 ⊢
  clear g4 x1 w1 r1 nx ln g5 x2 w2
  skip
  refine zz rfl (qar (evs := [ptr i]) rfl rfl ((qbl A2.rd (by omega)).mono ?_))
  rintro _ _ ⟨rfl, rfl⟩
  have B3 := A2.num (numS s).2
  generalize H2.set i (rdB (numS s).2) = G3 at B3 ⊢
  repeat (first | refine zz rfl (qao rfl ?_))
  refine AL.eff rfl (qau (v := .int .i64 (numS s).1) rfl rfl rfl B3.g5 rfl (by show 3 < 33; omega) ?_)
  refine AL.heap (h := G3.set b5 ⟨actC actV0 ({ act0 with kind := k, client := (numS s).1 }), 40, true⟩) rfl ?_
  have A3 := B3.put actV0 ({ act0 with kind := k, client := (numS s).1 })
  generalize G3.set b5 ⟨actC actV0 ({ act0 with kind := k, client := (numS s).1 }), 40, true⟩ = H3 at A3 ⊢
  repeat (first | refine W.w ?_ | refine zz rfl (qay rfl ?_))
  refine zz rfl (qar (evs := [ptr i]) rfl rfl ((qbl A3.rd (by omega)).mono ?_))
  rintro _ _ ⟨rfl, rfl⟩
  have B4 := A3.num (numS (numS s).2).2
  generalize H3.set i (rdB (numS (numS s).2).2) = G4 at B4 ⊢
  repeat (first | refine zz rfl (qao rfl ?_))
  refine AL.eff rfl (qau (v := .int .i64 (numS (numS s).2).1) rfl rfl rfl B4.g5 rfl (by show 1 < 33; omega) ?_)
  refine AL.heap (h := G4.set b5 ⟨actC actV0 ({ act0 with kind := k, client := (numS s).1, node := (numS (numS s).2).1 }), 40, true⟩) rfl ?_
  have A4 := B4.put actV0 ({ act0 with kind := k, client := (numS s).1, node := (numS (numS s).2).1 })
  generalize G4.set b5 ⟨actC actV0 ({ act0 with kind := k, client := (numS s).1, node := (numS (numS s).2).1 }), 40, true⟩ = H4 at A4 ⊢
  repeat (first | refine W.w ?_ | refine AWp.c9 rfl ?_ | (refine zz rfl ?_; first | refine qac rfl ?_ | refine qay rfl ?_ | refine qaa rfl ?_ | refine qak rfl rfl rfl (by omega) ?_))
  refine zz rfl (qar (evs := [ptr i]) rfl rfl ((qbl A4.rd (by omega)).mono ?_))
  rintro _ _ ⟨rfl, rfl⟩
  have B5 := A4.num (numS (numS (numS s).2).2).2
  generalize H4.set i (rdB (numS (numS (numS s).2).2).2) = G5 at B5 ⊢
  repeat (first | refine zz rfl (qao rfl ?_))
  refine AL.eff rfl (qau (v := .int .i64 (numS (numS (numS s).2).2).1) rfl rfl rfl B5.g5 rfl (by show 2 < 33; omega) ?_)
  refine AL.heap (h := G5.set b5 ⟨actC actV0 ({ act0 with kind := k, client := (numS s).1, node := (numS (numS s).2).1, group := (numS (numS (numS s).2).2).1 }), 40, true⟩) rfl ?_
  have A5 := B5.put actV0 ({ act0 with kind := k, client := (numS s).1, node := (numS (numS s).2).1, group := (numS (numS (numS s).2).2).1 })
  generalize G5.set b5 ⟨actC actV0 ({ act0 with kind := k, client := (numS s).1, node := (numS (numS s).2).1, group := (numS (numS (numS s).2).2).1 }), 40, true⟩ = H5 at A5 ⊢
  repeat (first | refine W.w ?_ | refine AWp.c8 rfl ?_ | (refine zz rfl ?_; first | refine qac rfl ?_ | refine qay rfl ?_ | refine qam rfl rfl rfl (by omega) ?_))
  refine zz rfl (qar (evs := [ptr i]) rfl rfl ((rasks_c i H5).wf_post.mono ?_))
  rintro _ G0 ⟨⟨m, bx, rfl, F⟩, wfG, nG⟩
  have AG : RdA h0 i ((numS (numS (numS s).2).2).2) G0 b4 b5 actV0 ({ act0 with kind := k, client := (numS s).1, node := (numS (numS s).2).1, group := (numS (numS (numS s).2).2).1 }) := A5.over (A5.rd.self.grow F.ext wfG nG)
  have nbx : bx ≠ i := fun e => by have := F.nb; have := A5.rd.lt; have := A5.rd.nx; omega
  have fbx := F.box
  obtain ⟨kv, ck, hm, hget⟩ := F.map
  repeat (first | refine zz rfl (qay rfl ?_))
  refine zz rfl (qar (evs := [ptr i]) rfl rfl ((qcV AG.rd (by omega)).mono ?_))
  rintro _ _ ⟨rfl, rfl⟩
  have AN := AG.num (cutS ((numS (numS (numS s).2).2).2)).2
  have hm1 : (G0.set i (rdB (cutS ((numS (numS (numS s).2).2).2)).2)).obj m = some (.map (ents kv) ck) := hm
  have fb1 : (G0.set i (rdB (cutS ((numS (numS (numS s).2).2).2)).2)).get bx = some (pB i) := (Heap.set_other nbx).trans fbx
  have hcl := (qbw ((numS (numS (numS s).2).2).2)).2
  generalize G0.set i (rdB (cutS ((numS (numS (numS s).2).2).2)).2) = G1 at AN hm1 fb1 ⊢
  generalize hw : (cutS ((numS (numS (numS s).2).2).2)).1 = w
  by_cases h0 : w = wGet
  ·
   have hr : readS k s = { act0 with kind := k, client := (numS s).1, node := (numS (numS s).2).1, group := (numS (numS (numS s).2).2).1, ask := { ask0 with kind := 1, key := (rawS (cutS ((numS (numS (numS s).2).2).2)).2).1 } } := by
    rw [hr0]
    unfold askS
    rw [hw]
    unfold askT
    rw [if_pos h0]
   repeat (first | refine W.w ?_ | refine AWp.c8 rfl ?_ | (refine zz rfl ?_; first | refine qa4 rfl ?_ | refine qaY rfl ?_ | refine qa7 (u := fnB 134 bx) rfl rfl hm1 (by simp [plainV, scalar]) (by rw [hget]; unfold askF; rw [if_pos h0]; rfl) ?_ | refine qa9 rfl rfl ?_))
   refine zz rfl (qar (evs := [ptr bx]) rfl rfl ((ask1_c AN.rd.self fb1 nbx (by omega)).mono ?_))
   rintro _ G2 ⟨q, s', rfl, oq, r2⟩
   have B2 := AN.over r2
   repeat (first | refine zz rfl (qao rfl ?_))
   refine AL.eff rfl (qbd (vs := (askC q ({ ask0 with kind := 1, key := (rawS (cutS ((numS (numS (numS s).2).2).2)).2).1 })).toArray) rfl rfl (by simpa using qaU oq.r) rfl B2.g5 rfl (by show 5 + 7 ≤ 33; omega) ?_)
   refine AL.heap (h := G2.set b5 ⟨actC ({ actV0 with q := q }) ({ act0 with kind := k, client := (numS s).1, node := (numS (numS s).2).1, group := (numS (numS (numS s).2).2).1, ask := { ask0 with kind := 1, key := (rawS (cutS ((numS (numS (numS s).2).2).2)).2).1 } }), 40, true⟩) rfl ?_
   have A9 := B2.put ({ actV0 with q := q }) ({ act0 with kind := k, client := (numS s).1, node := (numS (numS s).2).1, group := (numS (numS (numS s).2).2).1, ask := { ask0 with kind := 1, key := (rawS (cutS ((numS (numS (numS s).2).2).2)).2).1 } })
   have O9 : ActO G1.next (G2.set b5 ⟨actC ({ actV0 with q := q }) ({ act0 with kind := k, client := (numS s).1, node := (numS (numS s).2).1, group := (numS (numS (numS s).2).2).1, ask := { ask0 with kind := 1, key := (rawS (cutS ((numS (numS (numS s).2).2).2)).2).1 } }), 40, true⟩) ({ actV0 with q := q }) ({ act0 with kind := k, client := (numS s).1, node := (numS (numS s).2).1, group := (numS (numS (numS s).2).2).1, ask := { ask0 with kind := 1, key := (rawS (cutS ((numS (numS (numS s).2).2).2)).2).1 } }) := ActO.put (b := ⟨actC actV0 _, 40, true⟩) ⟨oq, CmdO.nil _ _, ON.nil _ _ _ _⟩ B2.g5 (Nat.ne_of_beq_eq_false rfl) (Nat.ne_of_beq_eq_false rfl)
   generalize G2.set b5 ⟨actC ({ actV0 with q := q }) ({ act0 with kind := k, client := (numS s).1, node := (numS (numS s).2).1, group := (numS (numS (numS s).2).2).1, ask := { ask0 with kind := 1, key := (rawS (cutS ((numS (numS (numS s).2).2).2)).2).1 } }), 40, true⟩ = H9 at A9 O9 ⊢
   repeat (first | refine W.w ?_ | refine zz rfl (qaj (sz := 33) rfl rfl A9.g5 (Nat.le_refl _) ?_) | refine AL.eff rfl (qan (vs := actC ({ actV0 with q := q }) ({ act0 with kind := k, client := (numS s).1, node := (numS (numS s).2).1, group := (numS (numS (numS s).2).2).1, ask := { ask0 with kind := 1, key := (rawS (cutS ((numS (numS (numS s).2).2).2)).2).1 } })) rfl rfl rfl (qaF (O9.r (Nat.zero_le _))) A9.g4 rfl ?_))
   exact ⟨_, ResV.cellA rfl rfl rfl (Heap.set_at _ _ _) (Nat.le_refl _), { actV0 with q := q }, _, by rw [hr]; rfl, by rw [hr]; exact ⟨⟨_, ActO.put O9 A9.g4 (Nat.ne_of_beq_eq_false rfl) (Nat.ne_of_beq_eq_false rfl)⟩, (Nat.zero_le _)⟩, A9.rd.put A9.n4 (A9.rd.wf.lt A9.g4) _⟩
  by_cases h1 : w = wDelete
  ·
   have hr : readS k s = { act0 with kind := k, client := (numS s).1, node := (numS (numS s).2).1, group := (numS (numS (numS s).2).2).1, ask := { ask0 with kind := 3, key := (rawS (cutS ((numS (numS (numS s).2).2).2)).2).1 } } := by
    rw [hr0]
    unfold askS
    rw [hw]
    unfold askT
    rw [if_neg h0, if_pos h1]
   repeat (first | refine W.w ?_ | refine AWp.c8 rfl ?_ | (refine zz rfl ?_; first | refine qa4 rfl ?_ | refine qaY rfl ?_ | refine qa7 (u := fnB 135 bx) rfl rfl hm1 (by simp [plainV, scalar]) (by rw [hget]; unfold askF; rw [if_neg h0, if_pos h1]; rfl) ?_ | refine qa9 rfl rfl ?_))
   refine zz rfl (qar (evs := [ptr bx]) rfl rfl ((ask2_c AN.rd.self fb1 nbx (by omega)).mono ?_))
   rintro _ G2 ⟨q, s', rfl, oq, r2⟩
   have B2 := AN.over r2
   repeat (first | refine zz rfl (qao rfl ?_))
   refine AL.eff rfl (qbd (vs := (askC q ({ ask0 with kind := 3, key := (rawS (cutS ((numS (numS (numS s).2).2).2)).2).1 })).toArray) rfl rfl (by simpa using qaU oq.r) rfl B2.g5 rfl (by show 5 + 7 ≤ 33; omega) ?_)
   refine AL.heap (h := G2.set b5 ⟨actC ({ actV0 with q := q }) ({ act0 with kind := k, client := (numS s).1, node := (numS (numS s).2).1, group := (numS (numS (numS s).2).2).1, ask := { ask0 with kind := 3, key := (rawS (cutS ((numS (numS (numS s).2).2).2)).2).1 } }), 40, true⟩) rfl ?_
   have A9 := B2.put ({ actV0 with q := q }) ({ act0 with kind := k, client := (numS s).1, node := (numS (numS s).2).1, group := (numS (numS (numS s).2).2).1, ask := { ask0 with kind := 3, key := (rawS (cutS ((numS (numS (numS s).2).2).2)).2).1 } })
   have O9 : ActO G1.next (G2.set b5 ⟨actC ({ actV0 with q := q }) ({ act0 with kind := k, client := (numS s).1, node := (numS (numS s).2).1, group := (numS (numS (numS s).2).2).1, ask := { ask0 with kind := 3, key := (rawS (cutS ((numS (numS (numS s).2).2).2)).2).1 } }), 40, true⟩) ({ actV0 with q := q }) ({ act0 with kind := k, client := (numS s).1, node := (numS (numS s).2).1, group := (numS (numS (numS s).2).2).1, ask := { ask0 with kind := 3, key := (rawS (cutS ((numS (numS (numS s).2).2).2)).2).1 } }) := ActO.put (b := ⟨actC actV0 _, 40, true⟩) ⟨oq, CmdO.nil _ _, ON.nil _ _ _ _⟩ B2.g5 (Nat.ne_of_beq_eq_false rfl) (Nat.ne_of_beq_eq_false rfl)
   generalize G2.set b5 ⟨actC ({ actV0 with q := q }) ({ act0 with kind := k, client := (numS s).1, node := (numS (numS s).2).1, group := (numS (numS (numS s).2).2).1, ask := { ask0 with kind := 3, key := (rawS (cutS ((numS (numS (numS s).2).2).2)).2).1 } }), 40, true⟩ = H9 at A9 O9 ⊢
   repeat (first | refine W.w ?_ | refine zz rfl (qaj (sz := 33) rfl rfl A9.g5 (Nat.le_refl _) ?_) | refine AL.eff rfl (qan (vs := actC ({ actV0 with q := q }) ({ act0 with kind := k, client := (numS s).1, node := (numS (numS s).2).1, group := (numS (numS (numS s).2).2).1, ask := { ask0 with kind := 3, key := (rawS (cutS ((numS (numS (numS s).2).2).2)).2).1 } })) rfl rfl rfl (qaF (O9.r (Nat.zero_le _))) A9.g4 rfl ?_))
   exact ⟨_, ResV.cellA rfl rfl rfl (Heap.set_at _ _ _) (Nat.le_refl _), { actV0 with q := q }, _, by rw [hr]; rfl, by rw [hr]; exact ⟨⟨_, ActO.put O9 A9.g4 (Nat.ne_of_beq_eq_false rfl) (Nat.ne_of_beq_eq_false rfl)⟩, (Nat.zero_le _)⟩, A9.rd.put A9.n4 (A9.rd.wf.lt A9.g4) _⟩
  by_cases h2 : w = wPut
  ·
   have hr : readS k s = { act0 with kind := k, client := (numS s).1, node := (numS (numS s).2).1, group := (numS (numS (numS s).2).2).1, ask := { ask0 with kind := 2, key := (rawS (cutS ((numS (numS (numS s).2).2).2)).2).1, value := (rawS (rawS (cutS ((numS (numS (numS s).2).2).2)).2).2).1 } } := by
    rw [hr0]
    unfold askS
    rw [hw]
    unfold askT
    rw [if_neg h0, if_neg h1, if_pos h2]
   repeat (first | refine W.w ?_ | refine AWp.c8 rfl ?_ | (refine zz rfl ?_; first | refine qa4 rfl ?_ | refine qaY rfl ?_ | refine qa7 (u := fnB 136 bx) rfl rfl hm1 (by simp [plainV, scalar]) (by rw [hget]; unfold askF; rw [if_neg h0, if_neg h1, if_pos h2]; rfl) ?_ | refine qa9 rfl rfl ?_))
   refine zz rfl (qar (evs := [ptr bx]) rfl rfl ((ask3_c AN.rd.self fb1 nbx (by omega)).mono ?_))
   rintro _ G2 ⟨q, s', rfl, oq, r2⟩
   have B2 := AN.over r2
   repeat (first | refine zz rfl (qao rfl ?_))
   refine AL.eff rfl (qbd (vs := (askC q ({ ask0 with kind := 2, key := (rawS (cutS ((numS (numS (numS s).2).2).2)).2).1, value := (rawS (rawS (cutS ((numS (numS (numS s).2).2).2)).2).2).1 })).toArray) rfl rfl (by simpa using qaU oq.r) rfl B2.g5 rfl (by show 5 + 7 ≤ 33; omega) ?_)
   refine AL.heap (h := G2.set b5 ⟨actC ({ actV0 with q := q }) ({ act0 with kind := k, client := (numS s).1, node := (numS (numS s).2).1, group := (numS (numS (numS s).2).2).1, ask := { ask0 with kind := 2, key := (rawS (cutS ((numS (numS (numS s).2).2).2)).2).1, value := (rawS (rawS (cutS ((numS (numS (numS s).2).2).2)).2).2).1 } }), 40, true⟩) rfl ?_
   have A9 := B2.put ({ actV0 with q := q }) ({ act0 with kind := k, client := (numS s).1, node := (numS (numS s).2).1, group := (numS (numS (numS s).2).2).1, ask := { ask0 with kind := 2, key := (rawS (cutS ((numS (numS (numS s).2).2).2)).2).1, value := (rawS (rawS (cutS ((numS (numS (numS s).2).2).2)).2).2).1 } })
   have O9 : ActO G1.next (G2.set b5 ⟨actC ({ actV0 with q := q }) ({ act0 with kind := k, client := (numS s).1, node := (numS (numS s).2).1, group := (numS (numS (numS s).2).2).1, ask := { ask0 with kind := 2, key := (rawS (cutS ((numS (numS (numS s).2).2).2)).2).1, value := (rawS (rawS (cutS ((numS (numS (numS s).2).2).2)).2).2).1 } }), 40, true⟩) ({ actV0 with q := q }) ({ act0 with kind := k, client := (numS s).1, node := (numS (numS s).2).1, group := (numS (numS (numS s).2).2).1, ask := { ask0 with kind := 2, key := (rawS (cutS ((numS (numS (numS s).2).2).2)).2).1, value := (rawS (rawS (cutS ((numS (numS (numS s).2).2).2)).2).2).1 } }) := ActO.put (b := ⟨actC actV0 _, 40, true⟩) ⟨oq, CmdO.nil _ _, ON.nil _ _ _ _⟩ B2.g5 (Nat.ne_of_beq_eq_false rfl) (Nat.ne_of_beq_eq_false rfl)
   generalize G2.set b5 ⟨actC ({ actV0 with q := q }) ({ act0 with kind := k, client := (numS s).1, node := (numS (numS s).2).1, group := (numS (numS (numS s).2).2).1, ask := { ask0 with kind := 2, key := (rawS (cutS ((numS (numS (numS s).2).2).2)).2).1, value := (rawS (rawS (cutS ((numS (numS (numS s).2).2).2)).2).2).1 } }), 40, true⟩ = H9 at A9 O9 ⊢
   repeat (first | refine W.w ?_ | refine zz rfl (qaj (sz := 33) rfl rfl A9.g5 (Nat.le_refl _) ?_) | refine AL.eff rfl (qan (vs := actC ({ actV0 with q := q }) ({ act0 with kind := k, client := (numS s).1, node := (numS (numS s).2).1, group := (numS (numS (numS s).2).2).1, ask := { ask0 with kind := 2, key := (rawS (cutS ((numS (numS (numS s).2).2).2)).2).1, value := (rawS (rawS (cutS ((numS (numS (numS s).2).2).2)).2).2).1 } })) rfl rfl rfl (qaF (O9.r (Nat.zero_le _))) A9.g4 rfl ?_))
   exact ⟨_, ResV.cellA rfl rfl rfl (Heap.set_at _ _ _) (Nat.le_refl _), { actV0 with q := q }, _, by rw [hr]; rfl, by rw [hr]; exact ⟨⟨_, ActO.put O9 A9.g4 (Nat.ne_of_beq_eq_false rfl) (Nat.ne_of_beq_eq_false rfl)⟩, (Nat.zero_le _)⟩, A9.rd.put A9.n4 (A9.rd.wf.lt A9.g4) _⟩
  by_cases h3 : w = wSwap
  ·
   have hr : readS k s = { act0 with kind := k, client := (numS s).1, node := (numS (numS s).2).1, group := (numS (numS (numS s).2).2).1, ask := { ask0 with kind := 4, key := (rawS (cutS ((numS (numS (numS s).2).2).2)).2).1, value := (rawS (rawS (cutS ((numS (numS (numS s).2).2).2)).2).2).1, was := (rawS (rawS (rawS (cutS ((numS (numS (numS s).2).2).2)).2).2).2).1 } } := by
    rw [hr0]
    unfold askS
    rw [hw]
    unfold askT
    rw [if_neg h0, if_neg h1, if_neg h2, if_pos h3]
   repeat (first | refine W.w ?_ | refine AWp.c8 rfl ?_ | (refine zz rfl ?_; first | refine qa4 rfl ?_ | refine qaY rfl ?_ | refine qa7 (u := fnB 137 bx) rfl rfl hm1 (by simp [plainV, scalar]) (by rw [hget]; unfold askF; rw [if_neg h0, if_neg h1, if_neg h2, if_pos h3]; rfl) ?_ | refine qa9 rfl rfl ?_))
   refine zz rfl (qar (evs := [ptr bx]) rfl rfl ((ask4_c AN.rd.self fb1 nbx (by omega)).mono ?_))
   rintro _ G2 ⟨q, s', rfl, oq, r2⟩
   have B2 := AN.over r2
   repeat (first | refine zz rfl (qao rfl ?_))
   refine AL.eff rfl (qbd (vs := (askC q ({ ask0 with kind := 4, key := (rawS (cutS ((numS (numS (numS s).2).2).2)).2).1, value := (rawS (rawS (cutS ((numS (numS (numS s).2).2).2)).2).2).1, was := (rawS (rawS (rawS (cutS ((numS (numS (numS s).2).2).2)).2).2).2).1 })).toArray) rfl rfl (by simpa using qaU oq.r) rfl B2.g5 rfl (by show 5 + 7 ≤ 33; omega) ?_)
   refine AL.heap (h := G2.set b5 ⟨actC ({ actV0 with q := q }) ({ act0 with kind := k, client := (numS s).1, node := (numS (numS s).2).1, group := (numS (numS (numS s).2).2).1, ask := { ask0 with kind := 4, key := (rawS (cutS ((numS (numS (numS s).2).2).2)).2).1, value := (rawS (rawS (cutS ((numS (numS (numS s).2).2).2)).2).2).1, was := (rawS (rawS (rawS (cutS ((numS (numS (numS s).2).2).2)).2).2).2).1 } }), 40, true⟩) rfl ?_
   have A9 := B2.put ({ actV0 with q := q }) ({ act0 with kind := k, client := (numS s).1, node := (numS (numS s).2).1, group := (numS (numS (numS s).2).2).1, ask := { ask0 with kind := 4, key := (rawS (cutS ((numS (numS (numS s).2).2).2)).2).1, value := (rawS (rawS (cutS ((numS (numS (numS s).2).2).2)).2).2).1, was := (rawS (rawS (rawS (cutS ((numS (numS (numS s).2).2).2)).2).2).2).1 } })
   have O9 : ActO G1.next (G2.set b5 ⟨actC ({ actV0 with q := q }) ({ act0 with kind := k, client := (numS s).1, node := (numS (numS s).2).1, group := (numS (numS (numS s).2).2).1, ask := { ask0 with kind := 4, key := (rawS (cutS ((numS (numS (numS s).2).2).2)).2).1, value := (rawS (rawS (cutS ((numS (numS (numS s).2).2).2)).2).2).1, was := (rawS (rawS (rawS (cutS ((numS (numS (numS s).2).2).2)).2).2).2).1 } }), 40, true⟩) ({ actV0 with q := q }) ({ act0 with kind := k, client := (numS s).1, node := (numS (numS s).2).1, group := (numS (numS (numS s).2).2).1, ask := { ask0 with kind := 4, key := (rawS (cutS ((numS (numS (numS s).2).2).2)).2).1, value := (rawS (rawS (cutS ((numS (numS (numS s).2).2).2)).2).2).1, was := (rawS (rawS (rawS (cutS ((numS (numS (numS s).2).2).2)).2).2).2).1 } }) := ActO.put (b := ⟨actC actV0 _, 40, true⟩) ⟨oq, CmdO.nil _ _, ON.nil _ _ _ _⟩ B2.g5 (Nat.ne_of_beq_eq_false rfl) (Nat.ne_of_beq_eq_false rfl)
   generalize G2.set b5 ⟨actC ({ actV0 with q := q }) ({ act0 with kind := k, client := (numS s).1, node := (numS (numS s).2).1, group := (numS (numS (numS s).2).2).1, ask := { ask0 with kind := 4, key := (rawS (cutS ((numS (numS (numS s).2).2).2)).2).1, value := (rawS (rawS (cutS ((numS (numS (numS s).2).2).2)).2).2).1, was := (rawS (rawS (rawS (cutS ((numS (numS (numS s).2).2).2)).2).2).2).1 } }), 40, true⟩ = H9 at A9 O9 ⊢
   repeat (first | refine W.w ?_ | refine zz rfl (qaj (sz := 33) rfl rfl A9.g5 (Nat.le_refl _) ?_) | refine AL.eff rfl (qan (vs := actC ({ actV0 with q := q }) ({ act0 with kind := k, client := (numS s).1, node := (numS (numS s).2).1, group := (numS (numS (numS s).2).2).1, ask := { ask0 with kind := 4, key := (rawS (cutS ((numS (numS (numS s).2).2).2)).2).1, value := (rawS (rawS (cutS ((numS (numS (numS s).2).2).2)).2).2).1, was := (rawS (rawS (rawS (cutS ((numS (numS (numS s).2).2).2)).2).2).2).1 } })) rfl rfl rfl (qaF (O9.r (Nat.zero_le _))) A9.g4 rfl ?_))
   exact ⟨_, ResV.cellA rfl rfl rfl (Heap.set_at _ _ _) (Nat.le_refl _), { actV0 with q := q }, _, by rw [hr]; rfl, by rw [hr]; exact ⟨⟨_, ActO.put O9 A9.g4 (Nat.ne_of_beq_eq_false rfl) (Nat.ne_of_beq_eq_false rfl)⟩, (Nat.zero_le _)⟩, A9.rd.put A9.n4 (A9.rd.wf.lt A9.g4) _⟩
  by_cases h4 : w = wFresh
  ·
   have hr : readS k s = { act0 with kind := k, client := (numS s).1, node := (numS (numS s).2).1, group := (numS (numS (numS s).2).2).1, ask := { ask0 with kind := 4, key := (rawS (cutS ((numS (numS (numS s).2).2).2)).2).1, value := (rawS (rawS (cutS ((numS (numS (numS s).2).2).2)).2).2).1, none := true } } := by
    rw [hr0]
    unfold askS
    rw [hw]
    unfold askT
    rw [if_neg h0, if_neg h1, if_neg h2, if_neg h3, if_pos h4]
   repeat (first | refine W.w ?_ | refine AWp.c8 rfl ?_ | (refine zz rfl ?_; first | refine qa4 rfl ?_ | refine qaY rfl ?_ | refine qa7 (u := fnB 138 bx) rfl rfl hm1 (by simp [plainV, scalar]) (by rw [hget]; unfold askF; rw [if_neg h0, if_neg h1, if_neg h2, if_neg h3, if_pos h4]; rfl) ?_ | refine qa9 rfl rfl ?_))
   refine zz rfl (qar (evs := [ptr bx]) rfl rfl ((ask5_c AN.rd.self fb1 nbx (by omega)).mono ?_))
   rintro _ G2 ⟨q, s', rfl, oq, r2⟩
   have B2 := AN.over r2
   repeat (first | refine zz rfl (qao rfl ?_))
   refine AL.eff rfl (qbd (vs := (askC q ({ ask0 with kind := 4, key := (rawS (cutS ((numS (numS (numS s).2).2).2)).2).1, value := (rawS (rawS (cutS ((numS (numS (numS s).2).2).2)).2).2).1, none := true })).toArray) rfl rfl (by simpa using qaU oq.r) rfl B2.g5 rfl (by show 5 + 7 ≤ 33; omega) ?_)
   refine AL.heap (h := G2.set b5 ⟨actC ({ actV0 with q := q }) ({ act0 with kind := k, client := (numS s).1, node := (numS (numS s).2).1, group := (numS (numS (numS s).2).2).1, ask := { ask0 with kind := 4, key := (rawS (cutS ((numS (numS (numS s).2).2).2)).2).1, value := (rawS (rawS (cutS ((numS (numS (numS s).2).2).2)).2).2).1, none := true } }), 40, true⟩) rfl ?_
   have A9 := B2.put ({ actV0 with q := q }) ({ act0 with kind := k, client := (numS s).1, node := (numS (numS s).2).1, group := (numS (numS (numS s).2).2).1, ask := { ask0 with kind := 4, key := (rawS (cutS ((numS (numS (numS s).2).2).2)).2).1, value := (rawS (rawS (cutS ((numS (numS (numS s).2).2).2)).2).2).1, none := true } })
   have O9 : ActO G1.next (G2.set b5 ⟨actC ({ actV0 with q := q }) ({ act0 with kind := k, client := (numS s).1, node := (numS (numS s).2).1, group := (numS (numS (numS s).2).2).1, ask := { ask0 with kind := 4, key := (rawS (cutS ((numS (numS (numS s).2).2).2)).2).1, value := (rawS (rawS (cutS ((numS (numS (numS s).2).2).2)).2).2).1, none := true } }), 40, true⟩) ({ actV0 with q := q }) ({ act0 with kind := k, client := (numS s).1, node := (numS (numS s).2).1, group := (numS (numS (numS s).2).2).1, ask := { ask0 with kind := 4, key := (rawS (cutS ((numS (numS (numS s).2).2).2)).2).1, value := (rawS (rawS (cutS ((numS (numS (numS s).2).2).2)).2).2).1, none := true } }) := ActO.put (b := ⟨actC actV0 _, 40, true⟩) ⟨oq, CmdO.nil _ _, ON.nil _ _ _ _⟩ B2.g5 (Nat.ne_of_beq_eq_false rfl) (Nat.ne_of_beq_eq_false rfl)
   generalize G2.set b5 ⟨actC ({ actV0 with q := q }) ({ act0 with kind := k, client := (numS s).1, node := (numS (numS s).2).1, group := (numS (numS (numS s).2).2).1, ask := { ask0 with kind := 4, key := (rawS (cutS ((numS (numS (numS s).2).2).2)).2).1, value := (rawS (rawS (cutS ((numS (numS (numS s).2).2).2)).2).2).1, none := true } }), 40, true⟩ = H9 at A9 O9 ⊢
   repeat (first | refine W.w ?_ | refine zz rfl (qaj (sz := 33) rfl rfl A9.g5 (Nat.le_refl _) ?_) | refine AL.eff rfl (qan (vs := actC ({ actV0 with q := q }) ({ act0 with kind := k, client := (numS s).1, node := (numS (numS s).2).1, group := (numS (numS (numS s).2).2).1, ask := { ask0 with kind := 4, key := (rawS (cutS ((numS (numS (numS s).2).2).2)).2).1, value := (rawS (rawS (cutS ((numS (numS (numS s).2).2).2)).2).2).1, none := true } })) rfl rfl rfl (qaF (O9.r (Nat.zero_le _))) A9.g4 rfl ?_))
   exact ⟨_, ResV.cellA rfl rfl rfl (Heap.set_at _ _ _) (Nat.le_refl _), { actV0 with q := q }, _, by rw [hr]; rfl, by rw [hr]; exact ⟨⟨_, ActO.put O9 A9.g4 (Nat.ne_of_beq_eq_false rfl) (Nat.ne_of_beq_eq_false rfl)⟩, (Nat.zero_le _)⟩, A9.rd.put A9.n4 (A9.rd.wf.lt A9.g4) _⟩
  by_cases h5 : w = wScan
  ·
   have hr : readS k s = { act0 with kind := k, client := (numS s).1, node := (numS (numS s).2).1, group := (numS (numS (numS s).2).2).1, ask := { ask0 with kind := 5, key := (rawS (cutS ((numS (numS (numS s).2).2).2)).2).1, «to» := (rawS (rawS (cutS ((numS (numS (numS s).2).2).2)).2).2).1, most := (numS (rawS (rawS (cutS ((numS (numS (numS s).2).2).2)).2).2).2).1 } } := by
    rw [hr0]
    unfold askS
    rw [hw]
    unfold askT
    rw [if_neg h0, if_neg h1, if_neg h2, if_neg h3, if_neg h4, if_pos h5]
   repeat (first | refine W.w ?_ | refine AWp.c8 rfl ?_ | (refine zz rfl ?_; first | refine qa4 rfl ?_ | refine qaY rfl ?_ | refine qa7 (u := fnB 139 bx) rfl rfl hm1 (by simp [plainV, scalar]) (by rw [hget]; unfold askF; rw [if_neg h0, if_neg h1, if_neg h2, if_neg h3, if_neg h4, if_pos h5]; rfl) ?_ | refine qa9 rfl rfl ?_))
   refine zz rfl (qar (evs := [ptr bx]) rfl rfl ((ask6_c AN.rd.self fb1 nbx (by omega)).mono ?_))
   rintro _ G2 ⟨q, s', rfl, oq, r2⟩
   have B2 := AN.over r2
   repeat (first | refine zz rfl (qao rfl ?_))
   refine AL.eff rfl (qbd (vs := (askC q ({ ask0 with kind := 5, key := (rawS (cutS ((numS (numS (numS s).2).2).2)).2).1, «to» := (rawS (rawS (cutS ((numS (numS (numS s).2).2).2)).2).2).1, most := (numS (rawS (rawS (cutS ((numS (numS (numS s).2).2).2)).2).2).2).1 })).toArray) rfl rfl (by simpa using qaU oq.r) rfl B2.g5 rfl (by show 5 + 7 ≤ 33; omega) ?_)
   refine AL.heap (h := G2.set b5 ⟨actC ({ actV0 with q := q }) ({ act0 with kind := k, client := (numS s).1, node := (numS (numS s).2).1, group := (numS (numS (numS s).2).2).1, ask := { ask0 with kind := 5, key := (rawS (cutS ((numS (numS (numS s).2).2).2)).2).1, «to» := (rawS (rawS (cutS ((numS (numS (numS s).2).2).2)).2).2).1, most := (numS (rawS (rawS (cutS ((numS (numS (numS s).2).2).2)).2).2).2).1 } }), 40, true⟩) rfl ?_
   have A9 := B2.put ({ actV0 with q := q }) ({ act0 with kind := k, client := (numS s).1, node := (numS (numS s).2).1, group := (numS (numS (numS s).2).2).1, ask := { ask0 with kind := 5, key := (rawS (cutS ((numS (numS (numS s).2).2).2)).2).1, «to» := (rawS (rawS (cutS ((numS (numS (numS s).2).2).2)).2).2).1, most := (numS (rawS (rawS (cutS ((numS (numS (numS s).2).2).2)).2).2).2).1 } })
   have O9 : ActO G1.next (G2.set b5 ⟨actC ({ actV0 with q := q }) ({ act0 with kind := k, client := (numS s).1, node := (numS (numS s).2).1, group := (numS (numS (numS s).2).2).1, ask := { ask0 with kind := 5, key := (rawS (cutS ((numS (numS (numS s).2).2).2)).2).1, «to» := (rawS (rawS (cutS ((numS (numS (numS s).2).2).2)).2).2).1, most := (numS (rawS (rawS (cutS ((numS (numS (numS s).2).2).2)).2).2).2).1 } }), 40, true⟩) ({ actV0 with q := q }) ({ act0 with kind := k, client := (numS s).1, node := (numS (numS s).2).1, group := (numS (numS (numS s).2).2).1, ask := { ask0 with kind := 5, key := (rawS (cutS ((numS (numS (numS s).2).2).2)).2).1, «to» := (rawS (rawS (cutS ((numS (numS (numS s).2).2).2)).2).2).1, most := (numS (rawS (rawS (cutS ((numS (numS (numS s).2).2).2)).2).2).2).1 } }) := ActO.put (b := ⟨actC actV0 _, 40, true⟩) ⟨oq, CmdO.nil _ _, ON.nil _ _ _ _⟩ B2.g5 (Nat.ne_of_beq_eq_false rfl) (Nat.ne_of_beq_eq_false rfl)
   generalize G2.set b5 ⟨actC ({ actV0 with q := q }) ({ act0 with kind := k, client := (numS s).1, node := (numS (numS s).2).1, group := (numS (numS (numS s).2).2).1, ask := { ask0 with kind := 5, key := (rawS (cutS ((numS (numS (numS s).2).2).2)).2).1, «to» := (rawS (rawS (cutS ((numS (numS (numS s).2).2).2)).2).2).1, most := (numS (rawS (rawS (cutS ((numS (numS (numS s).2).2).2)).2).2).2).1 } }), 40, true⟩ = H9 at A9 O9 ⊢
   repeat (first | refine W.w ?_ | refine zz rfl (qaj (sz := 33) rfl rfl A9.g5 (Nat.le_refl _) ?_) | refine AL.eff rfl (qan (vs := actC ({ actV0 with q := q }) ({ act0 with kind := k, client := (numS s).1, node := (numS (numS s).2).1, group := (numS (numS (numS s).2).2).1, ask := { ask0 with kind := 5, key := (rawS (cutS ((numS (numS (numS s).2).2).2)).2).1, «to» := (rawS (rawS (cutS ((numS (numS (numS s).2).2).2)).2).2).1, most := (numS (rawS (rawS (cutS ((numS (numS (numS s).2).2).2)).2).2).2).1 } })) rfl rfl rfl (qaF (O9.r (Nat.zero_le _))) A9.g4 rfl ?_))
   exact ⟨_, ResV.cellA rfl rfl rfl (Heap.set_at _ _ _) (Nat.le_refl _), { actV0 with q := q }, _, by rw [hr]; rfl, by rw [hr]; exact ⟨⟨_, ActO.put O9 A9.g4 (Nat.ne_of_beq_eq_false rfl) (Nat.ne_of_beq_eq_false rfl)⟩, (Nat.zero_le _)⟩, A9.rd.put A9.n4 (A9.rd.wf.lt A9.g4) _⟩
  ·
   have hr : readS k s = { act0 with kind := k, client := (numS s).1, node := (numS (numS s).2).1, group := (numS (numS (numS s).2).2).1 } := by
    rw [hr0]
    unfold askS
    rw [hw]
    unfold askT
    rw [if_neg h0, if_neg h1, if_neg h2, if_neg h3, if_neg h4, if_neg h5]
    rfl
   repeat (first | refine W.w ?_ | refine AWp.c9 rfl ?_ | (refine zz rfl ?_; first | refine qa7 (u := .nilFunc) rfl rfl hm1 (by simp [plainV, scalar]) (by rw [hget]; unfold askF; rw [if_neg h0, if_neg h1, if_neg h2, if_neg h3, if_neg h4, if_neg h5]; rfl) ?_ | refine qal (v := .nilFunc) rfl ?_ | refine qaq (v := .nilFunc) rfl ?_ | refine qcY rfl rfl ?_))
   have AN0 := AN
   have O0 : ActO h.next G1 actV0 ({ act0 with kind := k, client := (numS s).1, node := (numS (numS s).2).1, group := (numS (numS (numS s).2).2).1 }) := ActO.nil _ _ _ rfl rfl rfl
   repeat (first | refine W.w ?_ | refine zz rfl (qaj (sz := 33) rfl rfl AN0.g5 (Nat.le_refl _) ?_) | refine AL.eff rfl (qan (vs := actC actV0 ({ act0 with kind := k, client := (numS s).1, node := (numS (numS s).2).1, group := (numS (numS (numS s).2).2).1 })) rfl rfl rfl (qaF (O0.r (Nat.zero_le _))) AN0.g4 rfl ?_))
   exact ⟨_, ResV.cellA rfl rfl rfl (Heap.set_at _ _ _) (Nat.le_refl _), actV0, _, by rw [hr]; rfl, by rw [hr]; exact ⟨⟨_, ActO.put O0 AN0.g4 (Nat.ne_of_beq_eq_false rfl) (Nat.ne_of_beq_eq_false rfl)⟩, Nat.zero_le _⟩, AN0.rd.put AN0.n4 (AN0.rd.wf.lt AN0.g4) _⟩
 by_cases k4 : k = 9
 ·
  have hr0 : readS k s = { act0 with kind := k, node := (numS s).1, cmd := planS (numS s).2 } := by subst k4; rfl
  repeat (first | refine W.w ?_ | refine AWp.c9 rfl ?_ | refine AL.eff rfl (qaE (vs := actC actV0 { act0 with kind := k }) rfl rfl rfl rfl rfl ?_) | (refine zz rfl ?_; first | refine qac rfl ?_ | refine qay rfl ?_ | refine qaa rfl ?_ | refine qak rfl rfl rfl (by omega) ?_ | refine qax (out := actC actV0 { act0 with kind := k }) rfl rfl ?_ | refine qaw ?_))
  have g5 := Heap.alloc_new H1 ⟨actC actV0 { act0 with kind := k }, 40, true⟩
  have x2 := w1.ext ⟨actC actV0 { act0 with kind := k }, 40, true⟩
  have w2 := w1.alloc ⟨actC actV0 { act0 with kind := k }, 40, true⟩
  have A2 : RdA h0 i s (H1.alloc ⟨actC actV0 { act0 with kind := k }, 40, true⟩) h.next H1.next actV0 { act0 with kind := k } := ⟨r1.grow x2 w2 (Nat.le_succ _), x2.c _ _ g4, g5, nx, by omega, by omega⟩
  generalize H1.alloc ⟨actC actV0 { act0 with kind := k }, 40, true⟩ = H2 at A2 ⊢
  generalize hb4 : h.next = b4 at A2 ⊢
  generalize hb5 : H1.next = b5 at A2 ⊢
  clear g4 x1 w1 r1 nx ln g5 x2 w2
  skip
  refine zz rfl (qar (evs := [ptr i]) rfl rfl ((qbl A2.rd (by omega)).mono ?_))
  rintro _ _ ⟨rfl, rfl⟩
  have B3 := A2.num (numS s).2
  generalize H2.set i (rdB (numS s).2) = G3 at B3 ⊢
  repeat (first | refine zz rfl (qao rfl ?_))
  refine AL.eff rfl (qau (v := .int .i64 (numS s).1) rfl rfl rfl B3.g5 rfl (by show 1 < 33; omega) ?_)
  refine AL.heap (h := G3.set b5 ⟨actC actV0 ({ act0 with kind := k, node := (numS s).1 }), 40, true⟩) rfl ?_
  have A3 := B3.put actV0 ({ act0 with kind := k, node := (numS s).1 })
  generalize G3.set b5 ⟨actC actV0 ({ act0 with kind := k, node := (numS s).1 }), 40, true⟩ = H3 at A3 ⊢
  repeat (first | refine W.w ?_ | refine AWp.c8 rfl ?_ | (refine zz rfl ?_; first | refine qac rfl ?_ | refine qay rfl ?_ | refine qaa rfl ?_ | refine qam rfl rfl rfl (by omega) ?_))
  refine zz rfl (qar (evs := [ptr i]) rfl rfl ((rplans_c i H3).wf_post.mono ?_))
  rintro _ G0 ⟨⟨m, bx, rfl, F⟩, wfG, nG⟩
  have AG : RdA h0 i ((numS s).2) G0 b4 b5 actV0 ({ act0 with kind := k, node := (numS s).1 }) := A3.over (A3.rd.self.grow F.ext wfG nG)
  have nbx : bx ≠ i := fun e => by have := F.nb; have := A3.rd.lt; have := A3.rd.nx; omega
  have fbx := F.box
  obtain ⟨kv, ck, hm, hget⟩ := F.map
  repeat (first | refine zz rfl (qay rfl ?_))
  refine zz rfl (qar (evs := [ptr i]) rfl rfl ((qcV AG.rd (by omega)).mono ?_))
  rintro _ _ ⟨rfl, rfl⟩
  have AN := AG.num (cutS ((numS s).2)).2
  have hm1 : (G0.set i (rdB (cutS ((numS s).2)).2)).obj m = some (.map (ents kv) ck) := hm
  have fb1 : (G0.set i (rdB (cutS ((numS s).2)).2)).get bx = some (pB i) := (Heap.set_other nbx).trans fbx
  have hcl := (qbw ((numS s).2)).2
  generalize G0.set i (rdB (cutS ((numS s).2)).2) = G1 at AN hm1 fb1 ⊢
  generalize hw : (cutS ((numS s).2)).1 = w
  by_cases h0 : w = wSplit
  ·
   have hr : readS k s = { act0 with kind := k, node := (numS s).1, cmd := { cmd0 with kind := 6, key := (rawS (cutS ((numS s).2)).2).1 } } := by
    rw [hr0]
    unfold planS
    rw [hw]
    unfold planT
    rw [if_pos h0]
   repeat (first | refine W.w ?_ | refine AWp.c8 rfl ?_ | (refine zz rfl ?_; first | refine qa4 rfl ?_ | refine qaY rfl ?_ | refine qa7 (u := fnB 130 bx) rfl rfl hm1 (by simp [plainV, scalar]) (by rw [hget]; unfold planF; rw [if_pos h0]; rfl) ?_ | refine qa9 rfl rfl ?_))
   refine zz rfl (qar (evs := [ptr bx]) rfl rfl ((plan1_c AN.rd.self fb1 nbx (by omega)).mono ?_))
   rintro _ G2 ⟨q, s', rfl, oq, r2⟩
   have B2 := AN.over r2
   repeat (first | refine zz rfl (qao rfl ?_))
   refine AL.eff rfl (qbd (vs := (cmdC q ({ cmd0 with kind := 6, key := (rawS (cutS ((numS s).2)).2).1 })).toArray) rfl rfl (by simpa using qa5 oq.r) rfl B2.g5 rfl (by show 12 + 20 ≤ 33; omega) ?_)
   refine AL.heap (h := G2.set b5 ⟨actC ({ actV0 with c := q }) ({ act0 with kind := k, node := (numS s).1, cmd := { cmd0 with kind := 6, key := (rawS (cutS ((numS s).2)).2).1 } }), 40, true⟩) rfl ?_
   have A9 := B2.put ({ actV0 with c := q }) ({ act0 with kind := k, node := (numS s).1, cmd := { cmd0 with kind := 6, key := (rawS (cutS ((numS s).2)).2).1 } })
   have O9 : ActO G1.next (G2.set b5 ⟨actC ({ actV0 with c := q }) ({ act0 with kind := k, node := (numS s).1, cmd := { cmd0 with kind := 6, key := (rawS (cutS ((numS s).2)).2).1 } }), 40, true⟩) ({ actV0 with c := q }) ({ act0 with kind := k, node := (numS s).1, cmd := { cmd0 with kind := 6, key := (rawS (cutS ((numS s).2)).2).1 } }) := ActO.put (b := ⟨actC actV0 _, 40, true⟩) ⟨AskO.nil _ _, oq, ON.nil _ _ _ _⟩ B2.g5 (Nat.ne_of_beq_eq_false rfl) (Nat.ne_of_beq_eq_false rfl)
   generalize G2.set b5 ⟨actC ({ actV0 with c := q }) ({ act0 with kind := k, node := (numS s).1, cmd := { cmd0 with kind := 6, key := (rawS (cutS ((numS s).2)).2).1 } }), 40, true⟩ = H9 at A9 O9 ⊢
   repeat (first | refine W.w ?_ | refine AWp.c9 rfl ?_ | refine AL.eff rfl (qan (vs := actC ({ actV0 with c := q }) ({ act0 with kind := k, node := (numS s).1, cmd := { cmd0 with kind := 6, key := (rawS (cutS ((numS s).2)).2).1 } })) rfl rfl rfl (qaF (O9.r (Nat.zero_le _))) A9.g4 rfl ?_) | (refine zz rfl ?_; first | refine qac rfl ?_ | refine qak rfl rfl rfl (by omega) ?_ | refine qaj (sz := 33) rfl rfl A9.g5 (Nat.le_refl _) ?_))
   exact ⟨_, ResV.cellA rfl rfl rfl (Heap.set_at _ _ _) (Nat.le_refl _), { actV0 with c := q }, _, by rw [hr]; rfl, by rw [hr]; exact ⟨⟨_, ActO.put O9 A9.g4 (Nat.ne_of_beq_eq_false rfl) (Nat.ne_of_beq_eq_false rfl)⟩, (Nat.zero_le _)⟩, A9.rd.put A9.n4 (A9.rd.wf.lt A9.g4) _⟩
  by_cases h1 : w = wUnion
  ·
   have hr : readS k s = { act0 with kind := k, node := (numS s).1, cmd := { cmd0 with kind := 7, key := (rawS (cutS ((numS s).2)).2).1 } } := by
    rw [hr0]
    unfold planS
    rw [hw]
    unfold planT
    rw [if_neg h0, if_pos h1]
   repeat (first | refine W.w ?_ | refine AWp.c8 rfl ?_ | (refine zz rfl ?_; first | refine qa4 rfl ?_ | refine qaY rfl ?_ | refine qa7 (u := fnB 132 bx) rfl rfl hm1 (by simp [plainV, scalar]) (by rw [hget]; unfold planF; rw [if_neg h0, if_pos h1]; rfl) ?_ | refine qa9 rfl rfl ?_))
   refine zz rfl (qar (evs := [ptr bx]) rfl rfl ((plan2_c AN.rd.self fb1 nbx (by omega)).mono ?_))
   rintro _ G2 ⟨q, s', rfl, oq, r2⟩
   have B2 := AN.over r2
   repeat (first | refine zz rfl (qao rfl ?_))
   refine AL.eff rfl (qbd (vs := (cmdC q ({ cmd0 with kind := 7, key := (rawS (cutS ((numS s).2)).2).1 })).toArray) rfl rfl (by simpa using qa5 oq.r) rfl B2.g5 rfl (by show 12 + 20 ≤ 33; omega) ?_)
   refine AL.heap (h := G2.set b5 ⟨actC ({ actV0 with c := q }) ({ act0 with kind := k, node := (numS s).1, cmd := { cmd0 with kind := 7, key := (rawS (cutS ((numS s).2)).2).1 } }), 40, true⟩) rfl ?_
   have A9 := B2.put ({ actV0 with c := q }) ({ act0 with kind := k, node := (numS s).1, cmd := { cmd0 with kind := 7, key := (rawS (cutS ((numS s).2)).2).1 } })
   have O9 : ActO G1.next (G2.set b5 ⟨actC ({ actV0 with c := q }) ({ act0 with kind := k, node := (numS s).1, cmd := { cmd0 with kind := 7, key := (rawS (cutS ((numS s).2)).2).1 } }), 40, true⟩) ({ actV0 with c := q }) ({ act0 with kind := k, node := (numS s).1, cmd := { cmd0 with kind := 7, key := (rawS (cutS ((numS s).2)).2).1 } }) := ActO.put (b := ⟨actC actV0 _, 40, true⟩) ⟨AskO.nil _ _, oq, ON.nil _ _ _ _⟩ B2.g5 (Nat.ne_of_beq_eq_false rfl) (Nat.ne_of_beq_eq_false rfl)
   generalize G2.set b5 ⟨actC ({ actV0 with c := q }) ({ act0 with kind := k, node := (numS s).1, cmd := { cmd0 with kind := 7, key := (rawS (cutS ((numS s).2)).2).1 } }), 40, true⟩ = H9 at A9 O9 ⊢
   repeat (first | refine W.w ?_ | refine AWp.c9 rfl ?_ | refine AL.eff rfl (qan (vs := actC ({ actV0 with c := q }) ({ act0 with kind := k, node := (numS s).1, cmd := { cmd0 with kind := 7, key := (rawS (cutS ((numS s).2)).2).1 } })) rfl rfl rfl (qaF (O9.r (Nat.zero_le _))) A9.g4 rfl ?_) | (refine zz rfl ?_; first | refine qac rfl ?_ | refine qak rfl rfl rfl (by omega) ?_ | refine qaj (sz := 33) rfl rfl A9.g5 (Nat.le_refl _) ?_))
   exact ⟨_, ResV.cellA rfl rfl rfl (Heap.set_at _ _ _) (Nat.le_refl _), { actV0 with c := q }, _, by rw [hr]; rfl, by rw [hr]; exact ⟨⟨_, ActO.put O9 A9.g4 (Nat.ne_of_beq_eq_false rfl) (Nat.ne_of_beq_eq_false rfl)⟩, (Nat.zero_le _)⟩, A9.rd.put A9.n4 (A9.rd.wf.lt A9.g4) _⟩
  by_cases h2 : w = wMove
  ·
   have hr : readS k s = { act0 with kind := k, node := (numS s).1, cmd := { cmd0 with kind := 8, key := (rawS (cutS ((numS s).2)).2).1, group := (numS (rawS (cutS ((numS s).2)).2).2).1 } } := by
    rw [hr0]
    unfold planS
    rw [hw]
    unfold planT
    rw [if_neg h0, if_neg h1, if_pos h2]
   repeat (first | refine W.w ?_ | refine AWp.c8 rfl ?_ | (refine zz rfl ?_; first | refine qa4 rfl ?_ | refine qaY rfl ?_ | refine qa7 (u := fnB 133 bx) rfl rfl hm1 (by simp [plainV, scalar]) (by rw [hget]; unfold planF; rw [if_neg h0, if_neg h1, if_pos h2]; rfl) ?_ | refine qa9 rfl rfl ?_))
   refine zz rfl (qar (evs := [ptr bx]) rfl rfl ((plan3_c AN.rd.self fb1 nbx (by omega)).mono ?_))
   rintro _ G2 ⟨q, s', rfl, oq, r2⟩
   have B2 := AN.over r2
   repeat (first | refine zz rfl (qao rfl ?_))
   refine AL.eff rfl (qbd (vs := (cmdC q ({ cmd0 with kind := 8, key := (rawS (cutS ((numS s).2)).2).1, group := (numS (rawS (cutS ((numS s).2)).2).2).1 })).toArray) rfl rfl (by simpa using qa5 oq.r) rfl B2.g5 rfl (by show 12 + 20 ≤ 33; omega) ?_)
   refine AL.heap (h := G2.set b5 ⟨actC ({ actV0 with c := q }) ({ act0 with kind := k, node := (numS s).1, cmd := { cmd0 with kind := 8, key := (rawS (cutS ((numS s).2)).2).1, group := (numS (rawS (cutS ((numS s).2)).2).2).1 } }), 40, true⟩) rfl ?_
   have A9 := B2.put ({ actV0 with c := q }) ({ act0 with kind := k, node := (numS s).1, cmd := { cmd0 with kind := 8, key := (rawS (cutS ((numS s).2)).2).1, group := (numS (rawS (cutS ((numS s).2)).2).2).1 } })
   have O9 : ActO G1.next (G2.set b5 ⟨actC ({ actV0 with c := q }) ({ act0 with kind := k, node := (numS s).1, cmd := { cmd0 with kind := 8, key := (rawS (cutS ((numS s).2)).2).1, group := (numS (rawS (cutS ((numS s).2)).2).2).1 } }), 40, true⟩) ({ actV0 with c := q }) ({ act0 with kind := k, node := (numS s).1, cmd := { cmd0 with kind := 8, key := (rawS (cutS ((numS s).2)).2).1, group := (numS (rawS (cutS ((numS s).2)).2).2).1 } }) := ActO.put (b := ⟨actC actV0 _, 40, true⟩) ⟨AskO.nil _ _, oq, ON.nil _ _ _ _⟩ B2.g5 (Nat.ne_of_beq_eq_false rfl) (Nat.ne_of_beq_eq_false rfl)
   generalize G2.set b5 ⟨actC ({ actV0 with c := q }) ({ act0 with kind := k, node := (numS s).1, cmd := { cmd0 with kind := 8, key := (rawS (cutS ((numS s).2)).2).1, group := (numS (rawS (cutS ((numS s).2)).2).2).1 } }), 40, true⟩ = H9 at A9 O9 ⊢
   repeat (first | refine W.w ?_ | refine AWp.c9 rfl ?_ | refine AL.eff rfl (qan (vs := actC ({ actV0 with c := q }) ({ act0 with kind := k, node := (numS s).1, cmd := { cmd0 with kind := 8, key := (rawS (cutS ((numS s).2)).2).1, group := (numS (rawS (cutS ((numS s).2)).2).2).1 } })) rfl rfl rfl (qaF (O9.r (Nat.zero_le _))) A9.g4 rfl ?_) | (refine zz rfl ?_; first | refine qac rfl ?_ | refine qak rfl rfl rfl (by omega) ?_ | refine qaj (sz := 33) rfl rfl A9.g5 (Nat.le_refl _) ?_))
   exact ⟨_, ResV.cellA rfl rfl rfl (Heap.set_at _ _ _) (Nat.le_refl _), { actV0 with c := q }, _, by rw [hr]; rfl, by rw [hr]; exact ⟨⟨_, ActO.put O9 A9.g4 (Nat.ne_of_beq_eq_false rfl) (Nat.ne_of_beq_eq_false rfl)⟩, (Nat.zero_le _)⟩, A9.rd.put A9.n4 (A9.rd.wf.lt A9.g4) _⟩
  ·
   have hr : readS k s = { act0 with kind := k, node := (numS s).1 } := by
    rw [hr0]
    unfold planS
    rw [hw]
    unfold planT
    rw [if_neg h0, if_neg h1, if_neg h2]
    rfl
   repeat (first | refine W.w ?_ | refine AWp.c9 rfl ?_ | (refine zz rfl ?_; first | refine qac rfl ?_ | refine qak rfl rfl rfl (by omega) ?_ | refine qa7 (u := .nilFunc) rfl rfl hm1 (by simp [plainV, scalar]) (by rw [hget]; unfold planF; rw [if_neg h0, if_neg h1, if_neg h2]; rfl) ?_ | refine qal (v := .nilFunc) rfl ?_ | refine qaq (v := .nilFunc) rfl ?_ | refine qcY rfl rfl ?_))
   have AN0 := AN
   have O0 : ActO h.next G1 actV0 ({ act0 with kind := k, node := (numS s).1 }) := ActO.nil _ _ _ rfl rfl rfl
   repeat (first | refine W.w ?_ | refine zz rfl (qaj (sz := 33) rfl rfl AN0.g5 (Nat.le_refl _) ?_) | refine AL.eff rfl (qan (vs := actC actV0 ({ act0 with kind := k, node := (numS s).1 })) rfl rfl rfl (qaF (O0.r (Nat.zero_le _))) AN0.g4 rfl ?_))
   exact ⟨_, ResV.cellA rfl rfl rfl (Heap.set_at _ _ _) (Nat.le_refl _), actV0, _, by rw [hr]; rfl, by rw [hr]; exact ⟨⟨_, ActO.put O0 AN0.g4 (Nat.ne_of_beq_eq_false rfl) (Nat.ne_of_beq_eq_false rfl)⟩, Nat.zero_le _⟩, AN0.rd.put AN0.n4 (AN0.rd.wf.lt AN0.g4) _⟩
 by_cases k5 : k = 12
 ·
  have hr : readS k s = { act0 with kind := k, node := (numS s).1, keep := keepS 129 (numS s).2 } := by subst k5; rfl
  repeat (first | refine W.w ?_ | refine AWp.c9 rfl ?_ | refine AL.eff rfl (qaE (vs := actC actV0 { act0 with kind := k }) rfl rfl rfl rfl rfl ?_) | (refine zz rfl ?_; first | refine qac rfl ?_ | refine qay rfl ?_ | refine qaa rfl ?_ | refine qak rfl rfl rfl (by omega) ?_ | refine qax (out := actC actV0 { act0 with kind := k }) rfl rfl ?_ | refine qaw ?_))
  have g5 := Heap.alloc_new H1 ⟨actC actV0 { act0 with kind := k }, 40, true⟩
  have x2 := w1.ext ⟨actC actV0 { act0 with kind := k }, 40, true⟩
  have w2 := w1.alloc ⟨actC actV0 { act0 with kind := k }, 40, true⟩
  have A2 : RdA h0 i s (H1.alloc ⟨actC actV0 { act0 with kind := k }, 40, true⟩) h.next H1.next actV0 { act0 with kind := k } := ⟨r1.grow x2 w2 (Nat.le_succ _), x2.c _ _ g4, g5, nx, by omega, by omega⟩
  generalize H1.alloc ⟨actC actV0 { act0 with kind := k }, 40, true⟩ = H2 at A2 ⊢
  generalize hb4 : h.next = b4 at A2 ⊢
  generalize hb5 : H1.next = b5 at A2 ⊢
  clear g4 x1 w1 r1 nx ln g5 x2 w2
  skip
  refine zz rfl (qar (evs := [ptr i]) rfl rfl ((qbl A2.rd (by omega)).mono ?_))
  rintro _ _ ⟨rfl, rfl⟩
  have B3 := A2.num (numS s).2
  generalize H2.set i (rdB (numS s).2) = G3 at B3 ⊢
  repeat (first | refine zz rfl (qao rfl ?_))
  refine AL.eff rfl (qau (v := .int .i64 (numS s).1) rfl rfl rfl B3.g5 rfl (by show 1 < 33; omega) ?_)
  refine AL.heap (h := G3.set b5 ⟨actC actV0 ({ act0 with kind := k, node := (numS s).1 }), 40, true⟩) rfl ?_
  have A3 := B3.put actV0 ({ act0 with kind := k, node := (numS s).1 })
  generalize G3.set b5 ⟨actC actV0 ({ act0 with kind := k, node := (numS s).1 }), 40, true⟩ = H3 at A3 ⊢
  repeat (first | refine W.w ?_ | refine AWp.c8 rfl ?_ | refine AWp.c9 rfl ?_ | (refine zz rfl ?_; first | refine qac rfl ?_ | refine qay rfl ?_ | refine qaa rfl ?_ | refine qam rfl rfl rfl (by omega) ?_ | refine qak rfl rfl rfl (by omega) ?_))
  refine zz rfl (qar (evs := [ptr i]) rfl rfl ((keep_c A3.rd.self (by omega)).mono ?_))
  rintro u G2 ⟨ru, ou, nu, s', r2⟩
  have B2 := A3.over r2
  repeat (first | refine zz rfl (qao rfl ?_))
  refine AL.eff rfl (qau (v := u) rfl rfl ou B2.g5 rfl (by show 32 < 33; omega) ?_)
  refine AL.heap (h := G2.set b5 ⟨actC { actV0 with k := u } ({ act0 with kind := k, node := (numS s).1, keep := keepS 129 (numS s).2 }), 40, true⟩) rfl ?_
  have A9 := B2.put { actV0 with k := u } ({ act0 with kind := k, node := (numS s).1, keep := keepS 129 (numS s).2 })
  have O9 : ActO H3.next (G2.set b5 ⟨actC { actV0 with k := u } ({ act0 with kind := k, node := (numS s).1, keep := keepS 129 (numS s).2 }), 40, true⟩) { actV0 with k := u } ({ act0 with kind := k, node := (numS s).1, keep := keepS 129 (numS s).2 }) := ActO.put (b := ⟨actC actV0 _, 40, true⟩) ⟨AskO.nil _ _, CmdO.nil _ _, nu⟩ B2.g5 (Nat.ne_of_beq_eq_false rfl) (Nat.ne_of_beq_eq_false rfl)
  generalize G2.set b5 ⟨actC { actV0 with k := u } ({ act0 with kind := k, node := (numS s).1, keep := keepS 129 (numS s).2 }), 40, true⟩ = H9 at A9 O9 ⊢
  repeat (first | refine W.w ?_ | refine AWp.c9 rfl ?_ | refine AL.eff rfl (qan (vs := actC ({ actV0 with k := u }) ({ act0 with kind := k, node := (numS s).1, keep := keepS 129 (numS s).2 })) rfl rfl rfl (qaF (O9.r ru.len)) A9.g4 rfl ?_) | (refine zz rfl ?_; first | refine qac rfl ?_ | refine qak rfl rfl rfl (by omega) ?_ | refine qaj (sz := 33) rfl rfl A9.g5 (Nat.le_refl _) ?_))
  exact ⟨_, ResV.cellA rfl rfl rfl (Heap.set_at _ _ _) (Nat.le_refl _), { actV0 with k := u }, _, by rw [hr]; rfl, by rw [hr]; exact ⟨⟨_, ActO.put O9 A9.g4 (Nat.ne_of_beq_eq_false rfl) (Nat.ne_of_beq_eq_false rfl)⟩, ru.len⟩, A9.rd.put A9.n4 (A9.rd.wf.lt A9.g4) _⟩
 by_cases k6 : k = 8 ∨ k = 13
 ·
  have hr : readS k s = { act0 with kind := k, node := (numS s).1 } := by rcases k6 with rfl | rfl <;> rfl
  rcases k6 with e | e <;>
  ·
   repeat (first | refine W.w ?_ | refine AWp.c9 rfl ?_ | refine AL.eff rfl (qaE (vs := actC actV0 { act0 with kind := k }) rfl rfl rfl rfl rfl ?_) | (refine zz rfl ?_; first | refine qac rfl ?_ | refine qay rfl ?_ | refine qaa rfl ?_ | refine qak rfl rfl rfl (by omega) ?_ | refine qax (out := actC actV0 { act0 with kind := k }) rfl rfl ?_ | refine qaw ?_))
   have g5 := Heap.alloc_new H1 ⟨actC actV0 { act0 with kind := k }, 40, true⟩
   have x2 := w1.ext ⟨actC actV0 { act0 with kind := k }, 40, true⟩
   have w2 := w1.alloc ⟨actC actV0 { act0 with kind := k }, 40, true⟩
   have A2 : RdA h0 i s (H1.alloc ⟨actC actV0 { act0 with kind := k }, 40, true⟩) h.next H1.next actV0 { act0 with kind := k } := ⟨r1.grow x2 w2 (Nat.le_succ _), x2.c _ _ g4, g5, nx, by omega, by omega⟩
   generalize H1.alloc ⟨actC actV0 { act0 with kind := k }, 40, true⟩ = H2 at A2 ⊢
   generalize hb4 : h.next = b4 at A2 ⊢
   generalize hb5 : H1.next = b5 at A2 ⊢
   clear g4 x1 w1 r1 nx ln g5 x2 w2
   skip
   refine zz rfl (qar (evs := [ptr i]) rfl rfl ((qbl A2.rd (by omega)).mono ?_))
   rintro _ _ ⟨rfl, rfl⟩
   have B3 := A2.num (numS s).2
   generalize H2.set i (rdB (numS s).2) = G3 at B3 ⊢
   repeat (first | refine zz rfl (qao rfl ?_))
   refine AL.eff rfl (qau (v := .int .i64 (numS s).1) rfl rfl rfl B3.g5 rfl (by show 1 < 33; omega) ?_)
   refine AL.heap (h := G3.set b5 ⟨actC actV0 ({ act0 with kind := k, node := (numS s).1 }), 40, true⟩) rfl ?_
   have A3 := B3.put actV0 ({ act0 with kind := k, node := (numS s).1 })
   generalize G3.set b5 ⟨actC actV0 ({ act0 with kind := k, node := (numS s).1 }), 40, true⟩ = H3 at A3 ⊢
   have O3 : ActO h.next H3 actV0 ({ act0 with kind := k, node := (numS s).1 }) := ActO.nil _ _ _ rfl rfl rfl
   repeat (first | refine W.w ?_ | refine AWp.c8 rfl ?_ | refine AWp.c9 rfl ?_ | refine AL.eff rfl (qan (vs := actC (actV0) ({ act0 with kind := k, node := (numS s).1 })) rfl rfl rfl (qaF (O3.r (Nat.zero_le _))) A3.g4 rfl ?_) | (refine zz rfl ?_; first | refine qac rfl ?_ | refine qaa rfl ?_ | refine qam rfl rfl rfl (by omega) ?_ | refine qak rfl rfl rfl (by omega) ?_ | refine qaj (sz := 33) rfl rfl A3.g5 (Nat.le_refl _) ?_))
   exact ⟨_, ResV.cellA rfl rfl rfl (Heap.set_at _ _ _) (Nat.le_refl _), actV0, _, by rw [hr]; rfl, by rw [hr]; exact ⟨⟨_, ActO.put O3 A3.g4 (Nat.ne_of_beq_eq_false rfl) (Nat.ne_of_beq_eq_false rfl)⟩, (Nat.zero_le _)⟩, A3.rd.put A3.n4 (A3.rd.wf.lt A3.g4) _⟩
 ·
  have k7 : k = 1 ∨ k = 2 ∨ k = 6 ∨ k = 7 := by omega
  have hr : readS k s = { act0 with kind := k, node := (numS s).1, group := (numS (numS s).2).1 } := by rcases k7 with rfl | rfl | rfl | rfl <;> rfl
  repeat (first | refine W.w ?_ | refine AWp.c9 rfl ?_ | refine AL.eff rfl (qaE (vs := actC actV0 { act0 with kind := k }) rfl rfl rfl rfl rfl ?_) | (refine zz rfl ?_; first | refine qac rfl ?_ | refine qay rfl ?_ | refine qaa rfl ?_ | refine qak rfl rfl rfl (by omega) ?_ | refine qax (out := actC actV0 { act0 with kind := k }) rfl rfl ?_ | refine qaw ?_))
  have g5 := Heap.alloc_new H1 ⟨actC actV0 { act0 with kind := k }, 40, true⟩
  have x2 := w1.ext ⟨actC actV0 { act0 with kind := k }, 40, true⟩
  have w2 := w1.alloc ⟨actC actV0 { act0 with kind := k }, 40, true⟩
  have A2 : RdA h0 i s (H1.alloc ⟨actC actV0 { act0 with kind := k }, 40, true⟩) h.next H1.next actV0 { act0 with kind := k } := ⟨r1.grow x2 w2 (Nat.le_succ _), x2.c _ _ g4, g5, nx, by omega, by omega⟩
  generalize H1.alloc ⟨actC actV0 { act0 with kind := k }, 40, true⟩ = H2 at A2 ⊢
  generalize hb4 : h.next = b4 at A2 ⊢
  generalize hb5 : H1.next = b5 at A2 ⊢
  clear g4 x1 w1 r1 nx ln g5 x2 w2
  skip
  refine zz rfl (qar (evs := [ptr i]) rfl rfl ((qbl A2.rd (by omega)).mono ?_))
  rintro _ _ ⟨rfl, rfl⟩
  have B3 := A2.num (numS s).2
  generalize H2.set i (rdB (numS s).2) = G3 at B3 ⊢
  repeat (first | refine zz rfl (qao rfl ?_))
  refine AL.eff rfl (qau (v := .int .i64 (numS s).1) rfl rfl rfl B3.g5 rfl (by show 1 < 33; omega) ?_)
  refine AL.heap (h := G3.set b5 ⟨actC actV0 ({ act0 with kind := k, node := (numS s).1 }), 40, true⟩) rfl ?_
  have A3 := B3.put actV0 ({ act0 with kind := k, node := (numS s).1 })
  generalize G3.set b5 ⟨actC actV0 ({ act0 with kind := k, node := (numS s).1 }), 40, true⟩ = H3 at A3 ⊢
  repeat (first | refine W.w ?_ | refine AWp.c9 rfl ?_ | (refine zz rfl ?_; first | refine qac rfl ?_ | refine qay rfl ?_ | refine qaa rfl ?_ | refine qak rfl rfl rfl (by omega) ?_))
  refine zz rfl (qar (evs := [ptr i]) rfl rfl ((qbl A3.rd (by omega)).mono ?_))
  rintro _ _ ⟨rfl, rfl⟩
  have B4 := A3.num (numS (numS s).2).2
  generalize H3.set i (rdB (numS (numS s).2).2) = G4 at B4 ⊢
  repeat (first | refine zz rfl (qao rfl ?_))
  refine AL.eff rfl (qau (v := .int .i64 (numS (numS s).2).1) rfl rfl rfl B4.g5 rfl (by show 2 < 33; omega) ?_)
  refine AL.heap (h := G4.set b5 ⟨actC actV0 ({ act0 with kind := k, node := (numS s).1, group := (numS (numS s).2).1 }), 40, true⟩) rfl ?_
  have A4 := B4.put actV0 ({ act0 with kind := k, node := (numS s).1, group := (numS (numS s).2).1 })
  generalize G4.set b5 ⟨actC actV0 ({ act0 with kind := k, node := (numS s).1, group := (numS (numS s).2).1 }), 40, true⟩ = H4 at A4 ⊢
  have O4 : ActO h.next H4 actV0 ({ act0 with kind := k, node := (numS s).1, group := (numS (numS s).2).1 }) := ActO.nil _ _ _ rfl rfl rfl
  repeat (first | refine W.w ?_ | refine AWp.c9 rfl ?_ | refine AL.eff rfl (qan (vs := actC (actV0) ({ act0 with kind := k, node := (numS s).1, group := (numS (numS s).2).1 })) rfl rfl rfl (qaF (O4.r (Nat.zero_le _))) A4.g4 rfl ?_) | (refine zz rfl ?_; first | refine qac rfl ?_ | refine qak rfl rfl rfl (by omega) ?_ | refine qaj (sz := 33) rfl rfl A4.g5 (Nat.le_refl _) ?_))
  exact ⟨_, ResV.cellA rfl rfl rfl (Heap.set_at _ _ _) (Nat.le_refl _), actV0, _, by rw [hr]; rfl, by rw [hr]; exact ⟨⟨_, ActO.put O4 A4.g4 (Nat.ne_of_beq_eq_false rfl) (Nat.ne_of_beq_eq_false rfl)⟩, (Nat.zero_le _)⟩, A4.rd.put A4.n4 (A4.rd.wf.lt A4.g4) _⟩
end Go.Proofs.YtigmojilaadbhaaGreatDoor
