/-
  Texts of one claim, merged: 2 parts.
-/
import Derived.Test.YtigmojilaadbhaaGreatDoorMlim
import Derived.Test.YtigmojilaadbhaaGreatDoorMlih
import Derived.Test.YtigmojilaadbhaaGreatDoorMlii
import Derived.Test.YtigmojilaadbhaaGreatDoorMlig
/-
 Scripts: an act, read.
-/
namespace Go.Proofs.YtigmojilaadbhaaGreatDoor
open Go Go.Eng Go.Pln Go.Lib
attribute [local irreducible] AWp AL DAL AOp TAL

set_option maxHeartbeats 16000000 in
theorem read_c (k : Int) (hk : 1 ≤ k ∧ k ≤ 13) {h0 h : Heap} {i : Nat} {s : Bytes} (r : Rdr h0 i s h) (hl : s.length ≤ 1000000000) : ACalls Tryz.prog 48 [ptr i, .int .i64 k] h fun u h' => ∃ q s', u = .agg (actC q (readS k s)).toArray ∧ ((∃ B, ActO B h' q (readS k s)) ∧ (readS k s).keep.length ≤ 140737488351232) ∧ Rdr h0 i s' h' := by
 refine ACalls.body Tryz.func48 rfl rfl ?_
 have l1 := qcg s
 have l2 := qcg (numS s).2
 have l3 := qcg (numS (numS s).2).2
 repeat (first | refine AL.nil ?_ | refine AWp.seq ?_ | refine AWp.r9 ?_ | refine AL.set rfl rfl (qac rfl ?_) | refine AL.set rfl rfl (qas ?_))
 refine AL.heap (h := h.alloc ⟨actC actV0 act0, 40, true⟩) rfl ?_
 have g4 := Heap.alloc_new h ⟨actC actV0 act0, 40, true⟩
 have x1 := r.wf.ext ⟨actC actV0 act0, 40, true⟩
 have w1 := r.wf.alloc ⟨actC actV0 act0, 40, true⟩
 have r1 := r.grow x1 w1 (Nat.le_succ _)
 have nx := r.nx
 generalize h.alloc ⟨actC actV0 act0, 40, true⟩ = H1 at g4 x1 w1 r1 ⊢
 have ln := w1.lt g4
 by_cases k1 : k = 3 ∨ k = 4 ∨ k = 5
 ·
  have hr : readS k s = { act0 with kind := k, n := (numS s).1 } := by unfold readS; rw [if_pos k1]
  rcases k1 with e | e | e <;>
  ·
   repeat (first | refine AL.nil ?_ | refine AWp.seq ?_ | refine AWp.r9 ?_ | refine AWp.c8 rfl ?_ | refine AWp.c9 rfl ?_ | refine AWp.b9 ?_ | refine AWp.k9 ?_ | refine AL.set rfl rfl (qac rfl ?_) | refine AL.set rfl rfl (qau rfl ?_) | refine AL.set rfl rfl (qaa rfl ?_) | refine AL.set rfl rfl (qaj rfl rfl rfl (by omega) ?_) | refine AL.set rfl rfl (qak rfl rfl rfl (by omega) ?_) | refine AL.set rfl rfl (qaw (out := actC actV0 { act0 with kind := k }) rfl rfl ?_) | refine AL.set rfl rfl (qas ?_) | refine AL.eff rfl (qaF (vs := actC actV0 { act0 with kind := k }) rfl rfl rfl rfl rfl ?_))
   have g5 := Heap.alloc_new H1 ⟨actC actV0 { act0 with kind := k }, 40, true⟩
   have x2 := w1.ext ⟨actC actV0 { act0 with kind := k }, 40, true⟩
   have w2 := w1.alloc ⟨actC actV0 { act0 with kind := k }, 40, true⟩
   have A2 : RdA h0 i s (H1.alloc ⟨actC actV0 { act0 with kind := k }, 40, true⟩) h.next H1.next actV0 { act0 with kind := k } := ⟨r1.grow x2 w2 (Nat.le_succ _), x2.c _ _ g4, g5, nx, by omega, by omega⟩
   generalize H1.alloc ⟨actC actV0 { act0 with kind := k }, 40, true⟩ = H2 at A2 ⊢
   generalize hb4 : h.next = b4 at A2 ⊢
   generalize hb5 : H1.next = b5 at A2 ⊢
   clear g4 x1 w1 r1 nx ln g5 x2 w2
   skip
   refine AL.set rfl rfl (qaq (evs := [ptr i]) rfl rfl ((qbk A2.rd (by omega)).mono ?_))
   rintro _ _ ⟨rfl, rfl⟩
   have B3 := A2.num (numS s).2
   generalize H2.set i (rdB (numS s).2) = G3 at B3 ⊢
   repeat (first | refine AL.set rfl rfl (qao rfl ?_))
   refine AL.eff rfl (qaQ (v := .int .i64 (numS s).1) rfl rfl rfl B3.g5 rfl (by show 4 < 33; omega) ?_)
   refine AL.heap (h := G3.set b5 ⟨actC actV0 ({ act0 with kind := k, n := (numS s).1 }), 40, true⟩) rfl ?_
   have A3 := B3.put actV0 ({ act0 with kind := k, n := (numS s).1 })
   generalize G3.set b5 ⟨actC actV0 ({ act0 with kind := k, n := (numS s).1 }), 40, true⟩ = H3 at A3 ⊢
   have O3 : ActO h.next H3 actV0 ({ act0 with kind := k, n := (numS s).1 }) := ActO.nil _ _ _ rfl rfl rfl
   repeat (first | refine AL.nil ?_ | refine AWp.seq ?_ | refine AWp.r9 ?_ | refine AWp.ret ?_ | refine AL.set rfl rfl (qah (sz := 33) rfl rfl A3.g5 (Nat.le_refl _) ?_) | refine AL.eff rfl (qap (vs := actC (actV0) ({ act0 with kind := k, n := (numS s).1 })) rfl rfl rfl (qaC (O3.r (Nat.zero_le _))) A3.g4 rfl ?_))
   exact ⟨_, ResV.cellA rfl rfl rfl (Heap.set_at _ _ _) (Nat.le_refl _), actV0, _, by rw [hr]; rfl, by rw [hr]; exact ⟨⟨_, ActO.put O3 A3.g4 (Nat.ne_of_beq_eq_false rfl) (Nat.ne_of_beq_eq_false rfl)⟩, (Nat.zero_le _)⟩, A3.rd.put A3.n4 (A3.rd.wf.lt A3.g4) _⟩
 by_cases k2 : k = 11
 ·
  have hr : readS k s = { act0 with kind := k, client := (numS s).1, node := (numS (numS s).2).1, group := (numS (numS (numS s).2).2).1 } := by subst k2; rfl
  repeat (first | refine AL.nil ?_ | refine AWp.seq ?_ | refine AWp.r9 ?_ | refine AWp.c8 rfl ?_ | refine AWp.c9 rfl ?_ | refine AWp.b9 ?_ | refine AL.set rfl rfl (qac rfl ?_) | refine AL.set rfl rfl (qau rfl ?_) | refine AL.set rfl rfl (qaa rfl ?_) | refine AL.set rfl rfl (qaj rfl rfl rfl (by omega) ?_) | refine AL.set rfl rfl (qak rfl rfl rfl (by omega) ?_) | refine AL.set rfl rfl (qaw (out := actC actV0 { act0 with kind := k }) rfl rfl ?_) | refine AL.set rfl rfl (qas ?_) | refine AL.eff rfl (qaF (vs := actC actV0 { act0 with kind := k }) rfl rfl rfl rfl rfl ?_))
  have g5 := Heap.alloc_new H1 ⟨actC actV0 { act0 with kind := k }, 40, true⟩
  have x2 := w1.ext ⟨actC actV0 { act0 with kind := k }, 40, true⟩
  have w2 := w1.alloc ⟨actC actV0 { act0 with kind := k }, 40, true⟩
  have A2 : RdA h0 i s (H1.alloc ⟨actC actV0 { act0 with kind := k }, 40, true⟩) h.next H1.next actV0 { act0 with kind := k } := ⟨r1.grow x2 w2 (Nat.le_succ _), x2.c _ _ g4, g5, nx, by omega, by omega⟩
  generalize H1.alloc ⟨actC actV0 { act0 with kind := k }, 40, true⟩ = H2 at A2 ⊢
  generalize hb4 : h.next = b4 at A2 ⊢
  generalize hb5 : H1.next = b5 at A2 ⊢
  clear g4 x1 w1 r1 nx ln g5 x2 w2
  skip
  refine AL.set rfl rfl (qaq (evs := [ptr i]) rfl rfl ((qbk A2.rd (by omega)).mono ?_))
  rintro _ _ ⟨rfl, rfl⟩
  have B3 := A2.num (numS s).2
  generalize H2.set i (rdB (numS s).2) = G3 at B3 ⊢
  repeat (first | refine AL.set rfl rfl (qao rfl ?_))
  refine AL.eff rfl (qaQ (v := .int .i64 (numS s).1) rfl rfl rfl B3.g5 rfl (by show 3 < 33; omega) ?_)
  refine AL.heap (h := G3.set b5 ⟨actC actV0 ({ act0 with kind := k, client := (numS s).1 }), 40, true⟩) rfl ?_
  have A3 := B3.put actV0 ({ act0 with kind := k, client := (numS s).1 })
  generalize G3.set b5 ⟨actC actV0 ({ act0 with kind := k, client := (numS s).1 }), 40, true⟩ = H3 at A3 ⊢
  repeat (first | refine AL.nil ?_ | refine AWp.seq ?_ | refine AWp.r9 ?_ | refine AL.set rfl rfl (qau rfl ?_))
  refine AL.set rfl rfl (qaq (evs := [ptr i]) rfl rfl ((qbk A3.rd (by omega)).mono ?_))
  rintro _ _ ⟨rfl, rfl⟩
  have B4 := A3.num (numS (numS s).2).2
  generalize H3.set i (rdB (numS (numS s).2).2) = G4 at B4 ⊢
  repeat (first | refine AL.set rfl rfl (qao rfl ?_))
  refine AL.eff rfl (qaQ (v := .int .i64 (numS (numS s).2).1) rfl rfl rfl B4.g5 rfl (by show 1 < 33; omega) ?_)
  refine AL.heap (h := G4.set b5 ⟨actC actV0 ({ act0 with kind := k, client := (numS s).1, node := (numS (numS s).2).1 }), 40, true⟩) rfl ?_
  have A4 := B4.put actV0 ({ act0 with kind := k, client := (numS s).1, node := (numS (numS s).2).1 })
  generalize G4.set b5 ⟨actC actV0 ({ act0 with kind := k, client := (numS s).1, node := (numS (numS s).2).1 }), 40, true⟩ = H4 at A4 ⊢
  repeat (first | refine AL.nil ?_ | refine AWp.seq ?_ | refine AWp.r9 ?_ | refine AWp.c9 rfl ?_ | refine AWp.b9 ?_ | refine AL.set rfl rfl (qac rfl ?_) | refine AL.set rfl rfl (qau rfl ?_) | refine AL.set rfl rfl (qaa rfl ?_) | refine AL.set rfl rfl (qak rfl rfl rfl (by omega) ?_))
  refine AL.set rfl rfl (qaq (evs := [ptr i]) rfl rfl ((qbk A4.rd (by omega)).mono ?_))
  rintro _ _ ⟨rfl, rfl⟩
  have B5 := A4.num (numS (numS (numS s).2).2).2
  generalize H4.set i (rdB (numS (numS (numS s).2).2).2) = G5 at B5 ⊢
  repeat (first | refine AL.set rfl rfl (qao rfl ?_))
  refine AL.eff rfl (qaQ (v := .int .i64 (numS (numS (numS s).2).2).1) rfl rfl rfl B5.g5 rfl (by show 2 < 33; omega) ?_)
  refine AL.heap (h := G5.set b5 ⟨actC actV0 ({ act0 with kind := k, client := (numS s).1, node := (numS (numS s).2).1, group := (numS (numS (numS s).2).2).1 }), 40, true⟩) rfl ?_
  have A5 := B5.put actV0 ({ act0 with kind := k, client := (numS s).1, node := (numS (numS s).2).1, group := (numS (numS (numS s).2).2).1 })
  generalize G5.set b5 ⟨actC actV0 ({ act0 with kind := k, client := (numS s).1, node := (numS (numS s).2).1, group := (numS (numS (numS s).2).2).1 }), 40, true⟩ = H5 at A5 ⊢
  have O5 : ActO h.next H5 actV0 ({ act0 with kind := k, client := (numS s).1, node := (numS (numS s).2).1, group := (numS (numS (numS s).2).2).1 }) := ActO.nil _ _ _ rfl rfl rfl
  repeat (first | refine AL.nil ?_ | refine AWp.seq ?_ | refine AWp.r9 ?_ | refine AWp.c9 rfl ?_ | refine AWp.ret ?_ | refine AWp.k9 ?_ | refine AL.set rfl rfl (qac rfl ?_) | refine AL.set rfl rfl (qak rfl rfl rfl (by omega) ?_) | refine AL.set rfl rfl (qah (sz := 33) rfl rfl A5.g5 (Nat.le_refl _) ?_) | refine AL.eff rfl (qap (vs := actC (actV0) ({ act0 with kind := k, client := (numS s).1, node := (numS (numS s).2).1, group := (numS (numS (numS s).2).2).1 })) rfl rfl rfl (qaC (O5.r (Nat.zero_le _))) A5.g4 rfl ?_))
  exact ⟨_, ResV.cellA rfl rfl rfl (Heap.set_at _ _ _) (Nat.le_refl _), actV0, _, by rw [hr]; rfl, by rw [hr]; exact ⟨⟨_, ActO.put O5 A5.g4 (Nat.ne_of_beq_eq_false rfl) (Nat.ne_of_beq_eq_false rfl)⟩, (Nat.zero_le _)⟩, A5.rd.put A5.n4 (A5.rd.wf.lt A5.g4) _⟩
 by_cases k3 : k = 10
 ·
  have hr0 : readS k s = { act0 with kind := k, client := (numS s).1, node := (numS (numS s).2).1, group := (numS (numS (numS s).2).2).1, ask := askS (numS (numS (numS s).2).2).2 } := by subst k3; rfl
  repeat (first | refine AL.nil ?_ | refine AWp.seq ?_ | refine AWp.r9 ?_ | refine AWp.c8 rfl ?_ | refine AWp.c9 rfl ?_ | refine AWp.b9 ?_ | refine AWp.k9 ?_ | refine AL.set rfl rfl (qac rfl ?_) | refine AL.set rfl rfl (qau rfl ?_) | refine AL.set rfl rfl (qaa rfl ?_) | refine AL.set rfl rfl (qaj rfl rfl rfl (by omega) ?_) | refine AL.set rfl rfl (qak rfl rfl rfl (by omega) ?_) | refine AL.set rfl rfl (qaw (out := actC actV0 { act0 with kind := k }) rfl rfl ?_) | refine AL.set rfl rfl (qas ?_) | refine AL.eff rfl (qaF (vs := actC actV0 { act0 with kind := k }) rfl rfl rfl rfl rfl ?_))
  have g5 := Heap.alloc_new H1 ⟨actC actV0 { act0 with kind := k }, 40, true⟩
  have x2 := w1.ext ⟨actC actV0 { act0 with kind := k }, 40, true⟩
  have w2 := w1.alloc ⟨actC actV0 { act0 with kind := k }, 40, true⟩
  have A2 : RdA h0 i s (H1.alloc ⟨actC actV0 { act0 with kind := k }, 40, true⟩) h.next H1.next actV0 { act0 with kind := k } := ⟨r1.grow x2 w2 (Nat.le_succ _), x2.c _ _ g4, g5, nx, by omega, by omega⟩
  generalize H1.alloc ⟨actC actV0 { act0 with kind := k }, 40, true⟩ = H2 at A2 ⊢
  generalize hb4 : h.next = b4 at A2 ⊢
  generalize hb5 : H1.next = b5 at A2 ⊢
  clear g4 x1 w1 r1 nx ln g5 x2 w2
  skip
  refine AL.set rfl rfl (qaq (evs := [ptr i]) rfl rfl ((qbk A2.rd (by omega)).mono ?_))
  rintro _ _ ⟨rfl, rfl⟩
  have B3 := A2.num (numS s).2
  generalize H2.set i (rdB (numS s).2) = G3 at B3 ⊢
  repeat (first | refine AL.set rfl rfl (qao rfl ?_))
  refine AL.eff rfl (qaQ (v := .int .i64 (numS s).1) rfl rfl rfl B3.g5 rfl (by show 3 < 33; omega) ?_)
  refine AL.heap (h := G3.set b5 ⟨actC actV0 ({ act0 with kind := k, client := (numS s).1 }), 40, true⟩) rfl ?_
  have A3 := B3.put actV0 ({ act0 with kind := k, client := (numS s).1 })
  generalize G3.set b5 ⟨actC actV0 ({ act0 with kind := k, client := (numS s).1 }), 40, true⟩ = H3 at A3 ⊢
  repeat (first | refine AL.nil ?_ | refine AWp.seq ?_ | refine AWp.r9 ?_ | refine AL.set rfl rfl (qau rfl ?_))
  refine AL.set rfl rfl (qaq (evs := [ptr i]) rfl rfl ((qbk A3.rd (by omega)).mono ?_))
  rintro _ _ ⟨rfl, rfl⟩
  have B4 := A3.num (numS (numS s).2).2
  generalize H3.set i (rdB (numS (numS s).2).2) = G4 at B4 ⊢
  repeat (first | refine AL.set rfl rfl (qao rfl ?_))
  refine AL.eff rfl (qaQ (v := .int .i64 (numS (numS s).2).1) rfl rfl rfl B4.g5 rfl (by show 1 < 33; omega) ?_)
  refine AL.heap (h := G4.set b5 ⟨actC actV0 ({ act0 with kind := k, client := (numS s).1, node := (numS (numS s).2).1 }), 40, true⟩) rfl ?_
  have A4 := B4.put actV0 ({ act0 with kind := k, client := (numS s).1, node := (numS (numS s).2).1 })
  generalize G4.set b5 ⟨actC actV0 ({ act0 with kind := k, client := (numS s).1, node := (numS (numS s).2).1 }), 40, true⟩ = H4 at A4 ⊢
  repeat (first | refine AL.nil ?_ | refine AWp.seq ?_ | refine AWp.r9 ?_ | refine AWp.c9 rfl ?_ | refine AWp.b9 ?_ | refine AL.set rfl rfl (qac rfl ?_) | refine AL.set rfl rfl (qau rfl ?_) | refine AL.set rfl rfl (qaa rfl ?_) | refine AL.set rfl rfl (qak rfl rfl rfl (by omega) ?_))
  refine AL.set rfl rfl (qaq (evs := [ptr i]) rfl rfl ((qbk A4.rd (by omega)).mono ?_))
  rintro _ _ ⟨rfl, rfl⟩
  have B5 := A4.num (numS (numS (numS s).2).2).2
  generalize H4.set i (rdB (numS (numS (numS s).2).2).2) = G5 at B5 ⊢
  repeat (first | refine AL.set rfl rfl (qao rfl ?_))
  refine AL.eff rfl (qaQ (v := .int .i64 (numS (numS (numS s).2).2).1) rfl rfl rfl B5.g5 rfl (by show 2 < 33; omega) ?_)
  refine AL.heap (h := G5.set b5 ⟨actC actV0 ({ act0 with kind := k, client := (numS s).1, node := (numS (numS s).2).1, group := (numS (numS (numS s).2).2).1 }), 40, true⟩) rfl ?_
  have A5 := B5.put actV0 ({ act0 with kind := k, client := (numS s).1, node := (numS (numS s).2).1, group := (numS (numS (numS s).2).2).1 })
  generalize G5.set b5 ⟨actC actV0 ({ act0 with kind := k, client := (numS s).1, node := (numS (numS s).2).1, group := (numS (numS (numS s).2).2).1 }), 40, true⟩ = H5 at A5 ⊢
  repeat (first | refine AL.nil ?_ | refine AWp.seq ?_ | refine AWp.r9 ?_ | refine AWp.c8 rfl ?_ | refine AL.set rfl rfl (qac rfl ?_) | refine AL.set rfl rfl (qau rfl ?_) | refine AL.set rfl rfl (qaj rfl rfl rfl (by omega) ?_))
  refine AL.set rfl rfl (qaq (evs := [ptr i]) rfl rfl ((rasks_c i H5).wf_post.mono ?_))
  rintro _ G0 ⟨⟨m, bx, rfl, F⟩, wfG, nG⟩
  have AG : RdA h0 i ((numS (numS (numS s).2).2).2) G0 b4 b5 actV0 ({ act0 with kind := k, client := (numS s).1, node := (numS (numS s).2).1, group := (numS (numS (numS s).2).2).1 }) := A5.over (A5.rd.self.grow F.ext wfG nG)
  have nbx : bx ≠ i := fun e => by have := F.nb; have := A5.rd.lt; have := A5.rd.nx; omega
  have fbx := F.box
  obtain ⟨kv, ck, hm, hget⟩ := F.map
  repeat (first | refine AL.set rfl rfl (qau rfl ?_))
  refine AL.set rfl rfl (qaq (evs := [ptr i]) rfl rfl ((qcO AG.rd (by omega)).mono ?_))
  rintro _ _ ⟨rfl, rfl⟩
  have AN := AG.num (cutS ((numS (numS (numS s).2).2).2)).2
  have hm1 : (G0.set i (rdB (cutS ((numS (numS (numS s).2).2).2)).2)).obj m = some (.map (ents kv) ck) := hm
  have fb1 : (G0.set i (rdB (cutS ((numS (numS (numS s).2).2).2)).2)).get bx = some (pB i) := (Heap.set_other nbx).trans fbx
  have hcl := (qbs ((numS (numS (numS s).2).2).2)).2
  generalize G0.set i (rdB (cutS ((numS (numS (numS s).2).2).2)).2) = G1 at AN hm1 fb1 ⊢
  generalize hw : (cutS ((numS (numS (numS s).2).2).2)).1 = w
  by_cases h0 : w = wGet
  ·
   have hr : readS k s = { act0 with kind := k, client := (numS s).1, node := (numS (numS s).2).1, group := (numS (numS (numS s).2).2).1, ask := { ask0 with kind := 1, key := (rawS (cutS ((numS (numS (numS s).2).2).2)).2).1 } } := by
    rw [hr0]
    unfold askS
    rw [hw]
    unfold askT
    rw [if_pos h0]
   repeat (first | refine AL.nil ?_ | refine AWp.seq ?_ | refine AWp.r9 ?_ | refine AWp.c8 rfl ?_ | refine AL.set rfl rfl (qaX rfl ?_) | refine AL.set rfl rfl (qaR rfl ?_) | refine AL.set rfl rfl (qaY (u := fnB 134 bx) rfl rfl hm1 (by simp [plainV, scalar]) (by rw [hget]; unfold askF; rw [if_pos h0]; rfl) ?_) | refine AL.set rfl rfl (qa1 rfl rfl ?_))
   refine AL.set rfl rfl (qaq (evs := [ptr bx]) rfl rfl ((ask1_c AN.rd.self fb1 nbx (by omega)).mono ?_))
   rintro _ G2 ⟨q, s', rfl, oq, r2⟩
   have B2 := AN.over r2
   repeat (first | refine AL.set rfl rfl (qao rfl ?_))
   refine AL.eff rfl (qbf (vs := (askC q ({ ask0 with kind := 1, key := (rawS (cutS ((numS (numS (numS s).2).2).2)).2).1 })).toArray) rfl rfl (by simpa using qbK oq.r) rfl B2.g5 rfl (by show 5 + 7 ≤ 33; omega) ?_)
   refine AL.heap (h := G2.set b5 ⟨actC ({ actV0 with q := q }) ({ act0 with kind := k, client := (numS s).1, node := (numS (numS s).2).1, group := (numS (numS (numS s).2).2).1, ask := { ask0 with kind := 1, key := (rawS (cutS ((numS (numS (numS s).2).2).2)).2).1 } }), 40, true⟩) rfl ?_
   have A9 := B2.put ({ actV0 with q := q }) ({ act0 with kind := k, client := (numS s).1, node := (numS (numS s).2).1, group := (numS (numS (numS s).2).2).1, ask := { ask0 with kind := 1, key := (rawS (cutS ((numS (numS (numS s).2).2).2)).2).1 } })
   have O9 : ActO G1.next (G2.set b5 ⟨actC ({ actV0 with q := q }) ({ act0 with kind := k, client := (numS s).1, node := (numS (numS s).2).1, group := (numS (numS (numS s).2).2).1, ask := { ask0 with kind := 1, key := (rawS (cutS ((numS (numS (numS s).2).2).2)).2).1 } }), 40, true⟩) ({ actV0 with q := q }) ({ act0 with kind := k, client := (numS s).1, node := (numS (numS s).2).1, group := (numS (numS (numS s).2).2).1, ask := { ask0 with kind := 1, key := (rawS (cutS ((numS (numS (numS s).2).2).2)).2).1 } }) := ActO.put (b := ⟨actC actV0 _, 40, true⟩) ⟨oq, CmdO.nil _ _, ON.nil _ _ _ _⟩ B2.g5 (Nat.ne_of_beq_eq_false rfl) (Nat.ne_of_beq_eq_false rfl)
   generalize G2.set b5 ⟨actC ({ actV0 with q := q }) ({ act0 with kind := k, client := (numS s).1, node := (numS (numS s).2).1, group := (numS (numS (numS s).2).2).1, ask := { ask0 with kind := 1, key := (rawS (cutS ((numS (numS (numS s).2).2).2)).2).1 } }), 40, true⟩ = H9 at A9 O9 ⊢
   repeat (first | refine AL.nil ?_ | refine AWp.seq ?_ | refine AWp.r9 ?_ | refine AWp.ret ?_ | refine AL.set rfl rfl (qah (sz := 33) rfl rfl A9.g5 (Nat.le_refl _) ?_) | refine AL.eff rfl (qap (vs := actC ({ actV0 with q := q }) ({ act0 with kind := k, client := (numS s).1, node := (numS (numS s).2).1, group := (numS (numS (numS s).2).2).1, ask := { ask0 with kind := 1, key := (rawS (cutS ((numS (numS (numS s).2).2).2)).2).1 } })) rfl rfl rfl (qaC (O9.r (Nat.zero_le _))) A9.g4 rfl ?_))
   exact ⟨_, ResV.cellA rfl rfl rfl (Heap.set_at _ _ _) (Nat.le_refl _), { actV0 with q := q }, _, by rw [hr]; rfl, by rw [hr]; exact ⟨⟨_, ActO.put O9 A9.g4 (Nat.ne_of_beq_eq_false rfl) (Nat.ne_of_beq_eq_false rfl)⟩, (Nat.zero_le _)⟩, A9.rd.put A9.n4 (A9.rd.wf.lt A9.g4) _⟩
  by_cases h1 : w = wDelete
  ·
   have hr : readS k s = { act0 with kind := k, client := (numS s).1, node := (numS (numS s).2).1, group := (numS (numS (numS s).2).2).1, ask := { ask0 with kind := 3, key := (rawS (cutS ((numS (numS (numS s).2).2).2)).2).1 } } := by
    rw [hr0]
    unfold askS
    rw [hw]
    unfold askT
    rw [if_neg h0, if_pos h1]
   repeat (first | refine AL.nil ?_ | refine AWp.seq ?_ | refine AWp.r9 ?_ | refine AWp.c8 rfl ?_ | refine AL.set rfl rfl (qaX rfl ?_) | refine AL.set rfl rfl (qaR rfl ?_) | refine AL.set rfl rfl (qaY (u := fnB 135 bx) rfl rfl hm1 (by simp [plainV, scalar]) (by rw [hget]; unfold askF; rw [if_neg h0, if_pos h1]; rfl) ?_) | refine AL.set rfl rfl (qa1 rfl rfl ?_))
   refine AL.set rfl rfl (qaq (evs := [ptr bx]) rfl rfl ((ask2_c AN.rd.self fb1 nbx (by omega)).mono ?_))
   rintro _ G2 ⟨q, s', rfl, oq, r2⟩
   have B2 := AN.over r2
   repeat (first | refine AL.set rfl rfl (qao rfl ?_))
   refine AL.eff rfl (qbf (vs := (askC q ({ ask0 with kind := 3, key := (rawS (cutS ((numS (numS (numS s).2).2).2)).2).1 })).toArray) rfl rfl (by simpa using qbK oq.r) rfl B2.g5 rfl (by show 5 + 7 ≤ 33; omega) ?_)
   refine AL.heap (h := G2.set b5 ⟨actC ({ actV0 with q := q }) ({ act0 with kind := k, client := (numS s).1, node := (numS (numS s).2).1, group := (numS (numS (numS s).2).2).1, ask := { ask0 with kind := 3, key := (rawS (cutS ((numS (numS (numS s).2).2).2)).2).1 } }), 40, true⟩) rfl ?_
   have A9 := B2.put ({ actV0 with q := q }) ({ act0 with kind := k, client := (numS s).1, node := (numS (numS s).2).1, group := (numS (numS (numS s).2).2).1, ask := { ask0 with kind := 3, key := (rawS (cutS ((numS (numS (numS s).2).2).2)).2).1 } })
   have O9 : ActO G1.next (G2.set b5 ⟨actC ({ actV0 with q := q }) ({ act0 with kind := k, client := (numS s).1, node := (numS (numS s).2).1, group := (numS (numS (numS s).2).2).1, ask := { ask0 with kind := 3, key := (rawS (cutS ((numS (numS (numS s).2).2).2)).2).1 } }), 40, true⟩) ({ actV0 with q := q }) ({ act0 with kind := k, client := (numS s).1, node := (numS (numS s).2).1, group := (numS (numS (numS s).2).2).1, ask := { ask0 with kind := 3, key := (rawS (cutS ((numS (numS (numS s).2).2).2)).2).1 } }) := ActO.put (b := ⟨actC actV0 _, 40, true⟩) ⟨oq, CmdO.nil _ _, ON.nil _ _ _ _⟩ B2.g5 (Nat.ne_of_beq_eq_false rfl) (Nat.ne_of_beq_eq_false rfl)
   generalize G2.set b5 ⟨actC ({ actV0 with q := q }) ({ act0 with kind := k, client := (numS s).1, node := (numS (numS s).2).1, group := (numS (numS (numS s).2).2).1, ask := { ask0 with kind := 3, key := (rawS (cutS ((numS (numS (numS s).2).2).2)).2).1 } }), 40, true⟩ = H9 at A9 O9 ⊢
   repeat (first | refine AL.nil ?_ | refine AWp.seq ?_ | refine AWp.r9 ?_ | refine AWp.ret ?_ | refine AL.set rfl rfl (qah (sz := 33) rfl rfl A9.g5 (Nat.le_refl _) ?_) | refine AL.eff rfl (qap (vs := actC ({ actV0 with q := q }) ({ act0 with kind := k, client := (numS s).1, node := (numS (numS s).2).1, group := (numS (numS (numS s).2).2).1, ask := { ask0 with kind := 3, key := (rawS (cutS ((numS (numS (numS s).2).2).2)).2).1 } })) rfl rfl rfl (qaC (O9.r (Nat.zero_le _))) A9.g4 rfl ?_))
   exact ⟨_, ResV.cellA rfl rfl rfl (Heap.set_at _ _ _) (Nat.le_refl _), { actV0 with q := q }, _, by rw [hr]; rfl, by rw [hr]; exact ⟨⟨_, ActO.put O9 A9.g4 (Nat.ne_of_beq_eq_false rfl) (Nat.ne_of_beq_eq_false rfl)⟩, (Nat.zero_le _)⟩, A9.rd.put A9.n4 (A9.rd.wf.lt A9.g4) _⟩
  by_cases h2 : w = wPut
  ·
   have hr : readS k s = { act0 with kind := k, client := (numS s).1, node := (numS (numS s).2).1, group := (numS (numS (numS s).2).2).1, ask := { ask0 with kind := 2, key := (rawS (cutS ((numS (numS (numS s).2).2).2)).2).1, value := (rawS (rawS (cutS ((numS (numS (numS s).2).2).2)).2).2).1 } } := by
    rw [hr0]
    unfold askS
    rw [hw]
    unfold askT
    rw [if_neg h0, if_neg h1, if_pos h2]
   repeat (first | refine AL.nil ?_ | refine AWp.seq ?_ | refine AWp.r9 ?_ | refine AWp.c8 rfl ?_ | refine AL.set rfl rfl (qaX rfl ?_) | refine AL.set rfl rfl (qaR rfl ?_) | refine AL.set rfl rfl (qaY (u := fnB 136 bx) rfl rfl hm1 (by simp [plainV, scalar]) (by rw [hget]; unfold askF; rw [if_neg h0, if_neg h1, if_pos h2]; rfl) ?_) | refine AL.set rfl rfl (qa1 rfl rfl ?_))
   refine AL.set rfl rfl (qaq (evs := [ptr bx]) rfl rfl ((ask3_c AN.rd.self fb1 nbx (by omega)).mono ?_))
   rintro _ G2 ⟨q, s', rfl, oq, r2⟩
   have B2 := AN.over r2
   repeat (first | refine AL.set rfl rfl (qao rfl ?_))
   refine AL.eff rfl (qbf (vs := (askC q ({ ask0 with kind := 2, key := (rawS (cutS ((numS (numS (numS s).2).2).2)).2).1, value := (rawS (rawS (cutS ((numS (numS (numS s).2).2).2)).2).2).1 })).toArray) rfl rfl (by simpa using qbK oq.r) rfl B2.g5 rfl (by show 5 + 7 ≤ 33; omega) ?_)
   refine AL.heap (h := G2.set b5 ⟨actC ({ actV0 with q := q }) ({ act0 with kind := k, client := (numS s).1, node := (numS (numS s).2).1, group := (numS (numS (numS s).2).2).1, ask := { ask0 with kind := 2, key := (rawS (cutS ((numS (numS (numS s).2).2).2)).2).1, value := (rawS (rawS (cutS ((numS (numS (numS s).2).2).2)).2).2).1 } }), 40, true⟩) rfl ?_
   have A9 := B2.put ({ actV0 with q := q }) ({ act0 with kind := k, client := (numS s).1, node := (numS (numS s).2).1, group := (numS (numS (numS s).2).2).1, ask := { ask0 with kind := 2, key := (rawS (cutS ((numS (numS (numS s).2).2).2)).2).1, value := (rawS (rawS (cutS ((numS (numS (numS s).2).2).2)).2).2).1 } })
   have O9 : ActO G1.next (G2.set b5 ⟨actC ({ actV0 with q := q }) ({ act0 with kind := k, client := (numS s).1, node := (numS (numS s).2).1, group := (numS (numS (numS s).2).2).1, ask := { ask0 with kind := 2, key := (rawS (cutS ((numS (numS (numS s).2).2).2)).2).1, value := (rawS (rawS (cutS ((numS (numS (numS s).2).2).2)).2).2).1 } }), 40, true⟩) ({ actV0 with q := q }) ({ act0 with kind := k, client := (numS s).1, node := (numS (numS s).2).1, group := (numS (numS (numS s).2).2).1, ask := { ask0 with kind := 2, key := (rawS (cutS ((numS (numS (numS s).2).2).2)).2).1, value := (rawS (rawS (cutS ((numS (numS (numS s).2).2).2)).2).2).1 } }) := ActO.put (b := ⟨actC actV0 _, 40, true⟩) ⟨oq, CmdO.nil _ _, ON.nil _ _ _ _⟩ B2.g5 (Nat.ne_of_beq_eq_false rfl) (Nat.ne_of_beq_eq_false rfl)
   generalize G2.set b5 ⟨actC ({ actV0 with q := q }) ({ act0 with kind := k, client := (numS s).1, node := (numS (numS s).2).1, group := (numS (numS (numS s).2).2).1, ask := { ask0 with kind := 2, key := (rawS (cutS ((numS (numS (numS s).2).2).2)).2).1, value := (rawS (rawS (cutS ((numS (numS (numS s).2).2).2)).2).2).1 } }), 40, true⟩ = H9 at A9 O9 ⊢
   repeat (first | refine AL.nil ?_ | refine AWp.seq ?_ | refine AWp.r9 ?_ | refine AWp.ret ?_ | refine AL.set rfl rfl (qah (sz := 33) rfl rfl A9.g5 (Nat.le_refl _) ?_) | refine AL.eff rfl (qap (vs := actC ({ actV0 with q := q }) ({ act0 with kind := k, client := (numS s).1, node := (numS (numS s).2).1, group := (numS (numS (numS s).2).2).1, ask := { ask0 with kind := 2, key := (rawS (cutS ((numS (numS (numS s).2).2).2)).2).1, value := (rawS (rawS (cutS ((numS (numS (numS s).2).2).2)).2).2).1 } })) rfl rfl rfl (qaC (O9.r (Nat.zero_le _))) A9.g4 rfl ?_))
   exact ⟨_, ResV.cellA rfl rfl rfl (Heap.set_at _ _ _) (Nat.le_refl _), { actV0 with q := q }, _, by rw [hr]; rfl, by rw [hr]; exact ⟨⟨_, ActO.put O9 A9.g4 (Nat.ne_of_beq_eq_false rfl) (Nat.ne_of_beq_eq_false rfl)⟩, (Nat.zero_le _)⟩, A9.rd.put A9.n4 (A9.rd.wf.lt A9.g4) _⟩
  by_cases h3 : w = wSwap
  ·
   have hr : readS k s = { act0 with kind := k, client := (numS s).1, node := (numS (numS s).2).1, group := (numS (numS (numS s).2).2).1, ask := { ask0 with kind := 4, key := (rawS (cutS ((numS (numS (numS s).2).2).2)).2).1, value := (rawS (rawS (cutS ((numS (numS (numS s).2).2).2)).2).2).1, was := (rawS (rawS (rawS (cutS ((numS (numS (numS s).2).2).2)).2).2).2).1 } } := by
    rw [hr0]
    unfold askS
    rw [hw]
    unfold askT
    rw [if_neg h0, if_neg h1, if_neg h2, if_pos h3]
   repeat (first | refine AL.nil ?_ | refine AWp.seq ?_ | refine AWp.r9 ?_ | refine AWp.c8 rfl ?_ | refine AL.set rfl rfl (qaX rfl ?_) | refine AL.set rfl rfl (qaR rfl ?_) | refine AL.set rfl rfl (qaY (u := fnB 137 bx) rfl rfl hm1 (by simp [plainV, scalar]) (by rw [hget]; unfold askF; rw [if_neg h0, if_neg h1, if_neg h2, if_pos h3]; rfl) ?_) | refine AL.set rfl rfl (qa1 rfl rfl ?_))
   refine AL.set rfl rfl (qaq (evs := [ptr bx]) rfl rfl ((ask4_c AN.rd.self fb1 nbx (by omega)).mono ?_))
   rintro _ G2 ⟨q, s', rfl, oq, r2⟩
   have B2 := AN.over r2
   repeat (first | refine AL.set rfl rfl (qao rfl ?_))
   refine AL.eff rfl (qbf (vs := (askC q ({ ask0 with kind := 4, key := (rawS (cutS ((numS (numS (numS s).2).2).2)).2).1, value := (rawS (rawS (cutS ((numS (numS (numS s).2).2).2)).2).2).1, was := (rawS (rawS (rawS (cutS ((numS (numS (numS s).2).2).2)).2).2).2).1 })).toArray) rfl rfl (by simpa using qbK oq.r) rfl B2.g5 rfl (by show 5 + 7 ≤ 33; omega) ?_)
   refine AL.heap (h := G2.set b5 ⟨actC ({ actV0 with q := q }) ({ act0 with kind := k, client := (numS s).1, node := (numS (numS s).2).1, group := (numS (numS (numS s).2).2).1, ask := { ask0 with kind := 4, key := (rawS (cutS ((numS (numS (numS s).2).2).2)).2).1, value := (rawS (rawS (cutS ((numS (numS (numS s).2).2).2)).2).2).1, was := (rawS (rawS (rawS (cutS ((numS (numS (numS s).2).2).2)).2).2).2).1 } }), 40, true⟩) rfl ?_
   have A9 := B2.put ({ actV0 with q := q }) ({ act0 with kind := k, client := (numS s).1, node := (numS (numS s).2).1, group := (numS (numS (numS s).2).2).1, ask := { ask0 with kind := 4, key := (rawS (cutS ((numS (numS (numS s).2).2).2)).2).1, value := (rawS (rawS (cutS ((numS (numS (numS s).2).2).2)).2).2).1, was := (rawS (rawS (rawS (cutS ((numS (numS (numS s).2).2).2)).2).2).2).1 } })
   have O9 : ActO G1.next (G2.set b5 ⟨actC ({ actV0 with q := q }) ({ act0 with kind := k, client := (numS s).1, node := (numS (numS s).2).1, group := (numS (numS (numS s).2).2).1, ask := { ask0 with kind := 4, key := (rawS (cutS ((numS (numS (numS s).2).2).2)).2).1, value := (rawS (rawS (cutS ((numS (numS (numS s).2).2).2)).2).2).1, was := (rawS (rawS (rawS (cutS ((numS (numS (numS s).2).2).2)).2).2).2).1 } }), 40, true⟩) ({ actV0 with q := q }) ({ act0 with kind := k, client := (numS s).1, node := (numS (numS s).2).1, group := (numS (numS (numS s).2).2).1, ask := { ask0 with kind := 4, key := (rawS (cutS ((numS (numS (numS s).2).2).2)).2).1, value := (rawS (rawS (cutS ((numS (numS (numS s).2).2).2)).2).2).1, was := (rawS (rawS (rawS (cutS ((numS (numS (numS s).2).2).2)).2).2).2).1 } }) := ActO.put (b := ⟨actC actV0 _, 40, true⟩) ⟨oq, CmdO.nil _ _, ON.nil _ _ _ _⟩ B2.g5 (Nat.ne_of_beq_eq_false rfl) (Nat.ne_of_beq_eq_false rfl)
   generalize G2.set b5 ⟨actC ({ actV0 with q := q }) ({ act0 with kind := k, client := (numS s).1, node := (numS (numS s).2).1, group := (numS (numS (numS s).2).2).1, ask := { ask0 with kind := 4, key := (rawS (cutS ((numS (numS (numS s).2).2).2)).2).1, value := (rawS (rawS (cutS ((numS (numS (numS s).2).2).2)).2).2).1, was := (rawS (rawS (rawS (cutS ((numS (numS (numS s).2).2).2)).2).2).2).1 } }), 40, true⟩ = H9 at A9 O9 ⊢
   repeat (first | refine AL.nil ?_ | refine AWp.seq ?_ | refine AWp.r9 ?_ | refine AWp.ret ?_ | refine AL.set rfl rfl (qah (sz := 33) rfl rfl A9.g5 (Nat.le_refl _) ?_) | refine AL.eff rfl (qap (vs := actC ({ actV0 with q := q }) ({ act0 with kind := k, client := (numS s).1, node := (numS (numS s).2).1, group := (numS (numS (numS s).2).2).1, ask := { ask0 with kind := 4, key := (rawS (cutS ((numS (numS (numS s).2).2).2)).2).1, value := (rawS (rawS (cutS ((numS (numS (numS s).2).2).2)).2).2).1, was := (rawS (rawS (rawS (cutS ((numS (numS (numS s).2).2).2)).2).2).2).1 } })) rfl rfl rfl (qaC (O9.r (Nat.zero_le _))) A9.g4 rfl ?_))
   exact ⟨_, ResV.cellA rfl rfl rfl (Heap.set_at _ _ _) (Nat.le_refl _), { actV0 with q := q }, _, by rw [hr]; rfl, by rw [hr]; exact ⟨⟨_, ActO.put O9 A9.g4 (Nat.ne_of_beq_eq_false rfl) (Nat.ne_of_beq_eq_false rfl)⟩, (Nat.zero_le _)⟩, A9.rd.put A9.n4 (A9.rd.wf.lt A9.g4) _⟩
  by_cases h4 : w = wFresh
  ·
   have hr : readS k s = { act0 with kind := k, client := (numS s).1, node := (numS (numS s).2).1, group := (numS (numS (numS s).2).2).1, ask := { ask0 with kind := 4, key := (rawS (cutS ((numS (numS (numS s).2).2).2)).2).1, value := (rawS (rawS (cutS ((numS (numS (numS s).2).2).2)).2).2).1, none := true } } := by
    rw [hr0]
    unfold askS
    rw [hw]
    unfold askT
    rw [if_neg h0, if_neg h1, if_neg h2, if_neg h3, if_pos h4]
   repeat (first | refine AL.nil ?_ | refine AWp.seq ?_ | refine AWp.r9 ?_ | refine AWp.c8 rfl ?_ | refine AL.set rfl rfl (qaX rfl ?_) | refine AL.set rfl rfl (qaR rfl ?_) | refine AL.set rfl rfl (qaY (u := fnB 138 bx) rfl rfl hm1 (by simp [plainV, scalar]) (by rw [hget]; unfold askF; rw [if_neg h0, if_neg h1, if_neg h2, if_neg h3, if_pos h4]; rfl) ?_) | refine AL.set rfl rfl (qa1 rfl rfl ?_))
   refine AL.set rfl rfl (qaq (evs := [ptr bx]) rfl rfl ((ask5_c AN.rd.self fb1 nbx (by omega)).mono ?_))
   rintro _ G2 ⟨q, s', rfl, oq, r2⟩
   have B2 := AN.over r2
   repeat (first | refine AL.set rfl rfl (qao rfl ?_))
   refine AL.eff rfl (qbf (vs := (askC q ({ ask0 with kind := 4, key := (rawS (cutS ((numS (numS (numS s).2).2).2)).2).1, value := (rawS (rawS (cutS ((numS (numS (numS s).2).2).2)).2).2).1, none := true })).toArray) rfl rfl (by simpa using qbK oq.r) rfl B2.g5 rfl (by show 5 + 7 ≤ 33; omega) ?_)
   refine AL.heap (h := G2.set b5 ⟨actC ({ actV0 with q := q }) ({ act0 with kind := k, client := (numS s).1, node := (numS (numS s).2).1, group := (numS (numS (numS s).2).2).1, ask := { ask0 with kind := 4, key := (rawS (cutS ((numS (numS (numS s).2).2).2)).2).1, value := (rawS (rawS (cutS ((numS (numS (numS s).2).2).2)).2).2).1, none := true } }), 40, true⟩) rfl ?_
   have A9 := B2.put ({ actV0 with q := q }) ({ act0 with kind := k, client := (numS s).1, node := (numS (numS s).2).1, group := (numS (numS (numS s).2).2).1, ask := { ask0 with kind := 4, key := (rawS (cutS ((numS (numS (numS s).2).2).2)).2).1, value := (rawS (rawS (cutS ((numS (numS (numS s).2).2).2)).2).2).1, none := true } })
   have O9 : ActO G1.next (G2.set b5 ⟨actC ({ actV0 with q := q }) ({ act0 with kind := k, client := (numS s).1, node := (numS (numS s).2).1, group := (numS (numS (numS s).2).2).1, ask := { ask0 with kind := 4, key := (rawS (cutS ((numS (numS (numS s).2).2).2)).2).1, value := (rawS (rawS (cutS ((numS (numS (numS s).2).2).2)).2).2).1, none := true } }), 40, true⟩) ({ actV0 with q := q }) ({ act0 with kind := k, client := (numS s).1, node := (numS (numS s).2).1, group := (numS (numS (numS s).2).2).1, ask := { ask0 with kind := 4, key := (rawS (cutS ((numS (numS (numS s).2).2).2)).2).1, value := (rawS (rawS (cutS ((numS (numS (numS s).2).2).2)).2).2).1, none := true } }) := ActO.put (b := ⟨actC actV0 _, 40, true⟩) ⟨oq, CmdO.nil _ _, ON.nil _ _ _ _⟩ B2.g5 (Nat.ne_of_beq_eq_false rfl) (Nat.ne_of_beq_eq_false rfl)
   generalize G2.set b5 ⟨actC ({ actV0 with q := q }) ({ act0 with kind := k, client := (numS s).1, node := (numS (numS s).2).1, group := (numS (numS (numS s).2).2).1, ask := { ask0 with kind := 4, key := (rawS (cutS ((numS (numS (numS s).2).2).2)).2).1, value := (rawS (rawS (cutS ((numS (numS (numS s).2).2).2)).2).2).1, none := true } }), 40, true⟩ = H9 at A9 O9 ⊢
   repeat (first | refine AL.nil ?_ | refine AWp.seq ?_ | refine AWp.r9 ?_ | refine AWp.ret ?_ | refine AL.set rfl rfl (qah (sz := 33) rfl rfl A9.g5 (Nat.le_refl _) ?_) | refine AL.eff rfl (qap (vs := actC ({ actV0 with q := q }) ({ act0 with kind := k, client := (numS s).1, node := (numS (numS s).2).1, group := (numS (numS (numS s).2).2).1, ask := { ask0 with kind := 4, key := (rawS (cutS ((numS (numS (numS s).2).2).2)).2).1, value := (rawS (rawS (cutS ((numS (numS (numS s).2).2).2)).2).2).1, none := true } })) rfl rfl rfl (qaC (O9.r (Nat.zero_le _))) A9.g4 rfl ?_))
   exact ⟨_, ResV.cellA rfl rfl rfl (Heap.set_at _ _ _) (Nat.le_refl _), { actV0 with q := q }, _, by rw [hr]; rfl, by rw [hr]; exact ⟨⟨_, ActO.put O9 A9.g4 (Nat.ne_of_beq_eq_false rfl) (Nat.ne_of_beq_eq_false rfl)⟩, (Nat.zero_le _)⟩, A9.rd.put A9.n4 (A9.rd.wf.lt A9.g4) _⟩
  by_cases h5 : w = wScan
  ·
   have hr : readS k s = { act0 with kind := k, client := (numS s).1, node := (numS (numS s).2).1, group := (numS (numS (numS s).2).2).1, ask := { ask0 with kind := 5, key := (rawS (cutS ((numS (numS (numS s).2).2).2)).2).1, «to» := (rawS (rawS (cutS ((numS (numS (numS s).2).2).2)).2).2).1, most := (numS (rawS (rawS (cutS ((numS (numS (numS s).2).2).2)).2).2).2).1 } } := by
    rw [hr0]
    unfold askS
    rw [hw]
    unfold askT
    rw [if_neg h0, if_neg h1, if_neg h2, if_neg h3, if_neg h4, if_pos h5]
   repeat (first | refine AL.nil ?_ | refine AWp.seq ?_ | refine AWp.r9 ?_ | refine AWp.c8 rfl ?_ | refine AL.set rfl rfl (qaX rfl ?_) | refine AL.set rfl rfl (qaR rfl ?_) | refine AL.set rfl rfl (qaY (u := fnB 139 bx) rfl rfl hm1 (by simp [plainV, scalar]) (by rw [hget]; unfold askF; rw [if_neg h0, if_neg h1, if_neg h2, if_neg h3, if_neg h4, if_pos h5]; rfl) ?_) | refine AL.set rfl rfl (qa1 rfl rfl ?_))
   refine AL.set rfl rfl (qaq (evs := [ptr bx]) rfl rfl ((ask6_c AN.rd.self fb1 nbx (by omega)).mono ?_))
   rintro _ G2 ⟨q, s', rfl, oq, r2⟩
   have B2 := AN.over r2
   repeat (first | refine AL.set rfl rfl (qao rfl ?_))
   refine AL.eff rfl (qbf (vs := (askC q ({ ask0 with kind := 5, key := (rawS (cutS ((numS (numS (numS s).2).2).2)).2).1, «to» := (rawS (rawS (cutS ((numS (numS (numS s).2).2).2)).2).2).1, most := (numS (rawS (rawS (cutS ((numS (numS (numS s).2).2).2)).2).2).2).1 })).toArray) rfl rfl (by simpa using qbK oq.r) rfl B2.g5 rfl (by show 5 + 7 ≤ 33; omega) ?_)
   refine AL.heap (h := G2.set b5 ⟨actC ({ actV0 with q := q }) ({ act0 with kind := k, client := (numS s).1, node := (numS (numS s).2).1, group := (numS (numS (numS s).2).2).1, ask := { ask0 with kind := 5, key := (rawS (cutS ((numS (numS (numS s).2).2).2)).2).1, «to» := (rawS (rawS (cutS ((numS (numS (numS s).2).2).2)).2).2).1, most := (numS (rawS (rawS (cutS ((numS (numS (numS s).2).2).2)).2).2).2).1 } }), 40, true⟩) rfl ?_
   have A9 := B2.put ({ actV0 with q := q }) ({ act0 with kind := k, client := (numS s).1, node := (numS (numS s).2).1, group := (numS (numS (numS s).2).2).1, ask := { ask0 with kind := 5, key := (rawS (cutS ((numS (numS (numS s).2).2).2)).2).1, «to» := (rawS (rawS (cutS ((numS (numS (numS s).2).2).2)).2).2).1, most := (numS (rawS (rawS (cutS ((numS (numS (numS s).2).2).2)).2).2).2).1 } })
   have O9 : ActO G1.next (G2.set b5 ⟨actC ({ actV0 with q := q }) ({ act0 with kind := k, client := (numS s).1, node := (numS (numS s).2).1, group := (numS (numS (numS s).2).2).1, ask := { ask0 with kind := 5, key := (rawS (cutS ((numS (numS (numS s).2).2).2)).2).1, «to» := (rawS (rawS (cutS ((numS (numS (numS s).2).2).2)).2).2).1, most := (numS (rawS (rawS (cutS ((numS (numS (numS s).2).2).2)).2).2).2).1 } }), 40, true⟩) ({ actV0 with q := q }) ({ act0 with kind := k, client := (numS s).1, node := (numS (numS s).2).1, group := (numS (numS (numS s).2).2).1, ask := { ask0 with kind := 5, key := (rawS (cutS ((numS (numS (numS s).2).2).2)).2).1, «to» := (rawS (rawS (cutS ((numS (numS (numS s).2).2).2)).2).2).1, most := (numS (rawS (rawS (cutS ((numS (numS (numS s).2).2).2)).2).2).2).1 } }) := ActO.put (b := ⟨actC actV0 _, 40, true⟩) ⟨oq, CmdO.nil _ _, ON.nil _ _ _ _⟩ B2.g5 (Nat.ne_of_beq_eq_false rfl) (Nat.ne_of_beq_eq_false rfl)
   generalize G2.set b5 ⟨actC ({ actV0 with q := q }) ({ act0 with kind := k, client := (numS s).1, node := (numS (numS s).2).1, group := (numS (numS (numS s).2).2).1, ask := { ask0 with kind := 5, key := (rawS (cutS ((numS (numS (numS s).2).2).2)).2).1, «to» := (rawS (rawS (cutS ((numS (numS (numS s).2).2).2)).2).2).1, most := (numS (rawS (rawS (cutS ((numS (numS (numS s).2).2).2)).2).2).2).1 } }), 40, true⟩ = H9 at A9 O9 ⊢
   repeat (first | refine AL.nil ?_ | refine AWp.seq ?_ | refine AWp.r9 ?_ | refine AWp.ret ?_ | refine AL.set rfl rfl (qah (sz := 33) rfl rfl A9.g5 (Nat.le_refl _) ?_) | refine AL.eff rfl (qap (vs := actC ({ actV0 with q := q }) ({ act0 with kind := k, client := (numS s).1, node := (numS (numS s).2).1, group := (numS (numS (numS s).2).2).1, ask := { ask0 with kind := 5, key := (rawS (cutS ((numS (numS (numS s).2).2).2)).2).1, «to» := (rawS (rawS (cutS ((numS (numS (numS s).2).2).2)).2).2).1, most := (numS (rawS (rawS (cutS ((numS (numS (numS s).2).2).2)).2).2).2).1 } })) rfl rfl rfl (qaC (O9.r (Nat.zero_le _))) A9.g4 rfl ?_))
   exact ⟨_, ResV.cellA rfl rfl rfl (Heap.set_at _ _ _) (Nat.le_refl _), { actV0 with q := q }, _, by rw [hr]; rfl, by rw [hr]; exact ⟨⟨_, ActO.put O9 A9.g4 (Nat.ne_of_beq_eq_false rfl) (Nat.ne_of_beq_eq_false rfl)⟩, (Nat.zero_le _)⟩, A9.rd.put A9.n4 (A9.rd.wf.lt A9.g4) _⟩
  ·
   have hr : readS k s = { act0 with kind := k, client := (numS s).1, node := (numS (numS s).2).1, group := (numS (numS (numS s).2).2).1 } := by
    rw [hr0]
    unfold askS
    rw [hw]
    unfold askT
    rw [if_neg h0, if_neg h1, if_neg h2, if_neg h3, if_neg h4, if_neg h5]
    rfl
   repeat (first | refine AL.nil ?_ | refine AWp.seq ?_ | refine AWp.r9 ?_ | refine AWp.c9 rfl ?_ | refine AWp.k9 ?_ | refine AL.set rfl rfl (qaY (u := .nilFunc) rfl rfl hm1 (by simp [plainV, scalar]) (by rw [hget]; unfold askF; rw [if_neg h0, if_neg h1, if_neg h2, if_neg h3, if_neg h4, if_neg h5]; rfl) ?_) | refine AL.set rfl rfl (qam (v := .nilFunc) rfl ?_) | refine AL.set rfl rfl (qar (v := .nilFunc) rfl ?_) | refine AL.set rfl rfl (qcK rfl rfl ?_))
   have AN0 := AN
   have O0 : ActO h.next G1 actV0 ({ act0 with kind := k, client := (numS s).1, node := (numS (numS s).2).1, group := (numS (numS (numS s).2).2).1 }) := ActO.nil _ _ _ rfl rfl rfl
   repeat (first | refine AL.nil ?_ | refine AWp.ret ?_ | refine AL.set rfl rfl (qah (sz := 33) rfl rfl AN0.g5 (Nat.le_refl _) ?_) | refine AL.eff rfl (qap (vs := actC actV0 ({ act0 with kind := k, client := (numS s).1, node := (numS (numS s).2).1, group := (numS (numS (numS s).2).2).1 })) rfl rfl rfl (qaC (O0.r (Nat.zero_le _))) AN0.g4 rfl ?_))
   exact ⟨_, ResV.cellA rfl rfl rfl (Heap.set_at _ _ _) (Nat.le_refl _), actV0, _, by rw [hr]; rfl, by rw [hr]; exact ⟨⟨_, ActO.put O0 AN0.g4 (Nat.ne_of_beq_eq_false rfl) (Nat.ne_of_beq_eq_false rfl)⟩, Nat.zero_le _⟩, AN0.rd.put AN0.n4 (AN0.rd.wf.lt AN0.g4) _⟩
 by_cases k4 : k = 9
 ·
  have hr0 : readS k s = { act0 with kind := k, node := (numS s).1, cmd := planS (numS s).2 } := by subst k4; rfl
  repeat (first | refine AL.nil ?_ | refine AWp.seq ?_ | refine AWp.r9 ?_ | refine AWp.c9 rfl ?_ | refine AWp.b9 ?_ | refine AWp.k9 ?_ | refine AL.set rfl rfl (qac rfl ?_) | refine AL.set rfl rfl (qau rfl ?_) | refine AL.set rfl rfl (qaa rfl ?_) | refine AL.set rfl rfl (qak rfl rfl rfl (by omega) ?_) | refine AL.set rfl rfl (qaw (out := actC actV0 { act0 with kind := k }) rfl rfl ?_) | refine AL.set rfl rfl (qas ?_) | refine AL.eff rfl (qaF (vs := actC actV0 { act0 with kind := k }) rfl rfl rfl rfl rfl ?_))
  have g5 := Heap.alloc_new H1 ⟨actC actV0 { act0 with kind := k }, 40, true⟩
  have x2 := w1.ext ⟨actC actV0 { act0 with kind := k }, 40, true⟩
  have w2 := w1.alloc ⟨actC actV0 { act0 with kind := k }, 40, true⟩
  have A2 : RdA h0 i s (H1.alloc ⟨actC actV0 { act0 with kind := k }, 40, true⟩) h.next H1.next actV0 { act0 with kind := k } := ⟨r1.grow x2 w2 (Nat.le_succ _), x2.c _ _ g4, g5, nx, by omega, by omega⟩
  generalize H1.alloc ⟨actC actV0 { act0 with kind := k }, 40, true⟩ = H2 at A2 ⊢
  generalize hb4 : h.next = b4 at A2 ⊢
  generalize hb5 : H1.next = b5 at A2 ⊢
  clear g4 x1 w1 r1 nx ln g5 x2 w2
  skip
  refine AL.set rfl rfl (qaq (evs := [ptr i]) rfl rfl ((qbk A2.rd (by omega)).mono ?_))
  rintro _ _ ⟨rfl, rfl⟩
  have B3 := A2.num (numS s).2
  generalize H2.set i (rdB (numS s).2) = G3 at B3 ⊢
  repeat (first | refine AL.set rfl rfl (qao rfl ?_))
  refine AL.eff rfl (qaQ (v := .int .i64 (numS s).1) rfl rfl rfl B3.g5 rfl (by show 1 < 33; omega) ?_)
  refine AL.heap (h := G3.set b5 ⟨actC actV0 ({ act0 with kind := k, node := (numS s).1 }), 40, true⟩) rfl ?_
  have A3 := B3.put actV0 ({ act0 with kind := k, node := (numS s).1 })
  generalize G3.set b5 ⟨actC actV0 ({ act0 with kind := k, node := (numS s).1 }), 40, true⟩ = H3 at A3 ⊢
  repeat (first | refine AL.nil ?_ | refine AWp.seq ?_ | refine AWp.r9 ?_ | refine AWp.c8 rfl ?_ | refine AWp.b9 ?_ | refine AL.set rfl rfl (qac rfl ?_) | refine AL.set rfl rfl (qau rfl ?_) | refine AL.set rfl rfl (qaa rfl ?_) | refine AL.set rfl rfl (qaj rfl rfl rfl (by omega) ?_))
  refine AL.set rfl rfl (qaq (evs := [ptr i]) rfl rfl ((rplans_c i H3).wf_post.mono ?_))
  rintro _ G0 ⟨⟨m, bx, rfl, F⟩, wfG, nG⟩
  have AG : RdA h0 i ((numS s).2) G0 b4 b5 actV0 ({ act0 with kind := k, node := (numS s).1 }) := A3.over (A3.rd.self.grow F.ext wfG nG)
  have nbx : bx ≠ i := fun e => by have := F.nb; have := A3.rd.lt; have := A3.rd.nx; omega
  have fbx := F.box
  obtain ⟨kv, ck, hm, hget⟩ := F.map
  repeat (first | refine AL.set rfl rfl (qau rfl ?_))
  refine AL.set rfl rfl (qaq (evs := [ptr i]) rfl rfl ((qcO AG.rd (by omega)).mono ?_))
  rintro _ _ ⟨rfl, rfl⟩
  have AN := AG.num (cutS ((numS s).2)).2
  have hm1 : (G0.set i (rdB (cutS ((numS s).2)).2)).obj m = some (.map (ents kv) ck) := hm
  have fb1 : (G0.set i (rdB (cutS ((numS s).2)).2)).get bx = some (pB i) := (Heap.set_other nbx).trans fbx
  have hcl := (qbs ((numS s).2)).2
  generalize G0.set i (rdB (cutS ((numS s).2)).2) = G1 at AN hm1 fb1 ⊢
  generalize hw : (cutS ((numS s).2)).1 = w
  by_cases h0 : w = wSplit
  ·
   have hr : readS k s = { act0 with kind := k, node := (numS s).1, cmd := { cmd0 with kind := 6, key := (rawS (cutS ((numS s).2)).2).1 } } := by
    rw [hr0]
    unfold planS
    rw [hw]
    unfold planT
    rw [if_pos h0]
   repeat (first | refine AL.nil ?_ | refine AWp.seq ?_ | refine AWp.r9 ?_ | refine AWp.c8 rfl ?_ | refine AL.set rfl rfl (qaX rfl ?_) | refine AL.set rfl rfl (qaR rfl ?_) | refine AL.set rfl rfl (qaY (u := fnB 130 bx) rfl rfl hm1 (by simp [plainV, scalar]) (by rw [hget]; unfold planF; rw [if_pos h0]; rfl) ?_) | refine AL.set rfl rfl (qa1 rfl rfl ?_))
   refine AL.set rfl rfl (qaq (evs := [ptr bx]) rfl rfl ((plan1_c AN.rd.self fb1 nbx (by omega)).mono ?_))
   rintro _ G2 ⟨q, s', rfl, oq, r2⟩
   have B2 := AN.over r2
   repeat (first | refine AL.set rfl rfl (qao rfl ?_))
   refine AL.eff rfl (qbf (vs := (cmdC q ({ cmd0 with kind := 6, key := (rawS (cutS ((numS s).2)).2).1 })).toArray) rfl rfl (by simpa using qbd oq.r) rfl B2.g5 rfl (by show 12 + 20 ≤ 33; omega) ?_)
   refine AL.heap (h := G2.set b5 ⟨actC ({ actV0 with c := q }) ({ act0 with kind := k, node := (numS s).1, cmd := { cmd0 with kind := 6, key := (rawS (cutS ((numS s).2)).2).1 } }), 40, true⟩) rfl ?_
   have A9 := B2.put ({ actV0 with c := q }) ({ act0 with kind := k, node := (numS s).1, cmd := { cmd0 with kind := 6, key := (rawS (cutS ((numS s).2)).2).1 } })
   have O9 : ActO G1.next (G2.set b5 ⟨actC ({ actV0 with c := q }) ({ act0 with kind := k, node := (numS s).1, cmd := { cmd0 with kind := 6, key := (rawS (cutS ((numS s).2)).2).1 } }), 40, true⟩) ({ actV0 with c := q }) ({ act0 with kind := k, node := (numS s).1, cmd := { cmd0 with kind := 6, key := (rawS (cutS ((numS s).2)).2).1 } }) := ActO.put (b := ⟨actC actV0 _, 40, true⟩) ⟨AskO.nil _ _, oq, ON.nil _ _ _ _⟩ B2.g5 (Nat.ne_of_beq_eq_false rfl) (Nat.ne_of_beq_eq_false rfl)
   generalize G2.set b5 ⟨actC ({ actV0 with c := q }) ({ act0 with kind := k, node := (numS s).1, cmd := { cmd0 with kind := 6, key := (rawS (cutS ((numS s).2)).2).1 } }), 40, true⟩ = H9 at A9 O9 ⊢
   repeat (first | refine AL.nil ?_ | refine AWp.seq ?_ | refine AWp.r9 ?_ | refine AWp.c9 rfl ?_ | refine AWp.ret ?_ | refine AWp.k9 ?_ | refine AL.set rfl rfl (qac rfl ?_) | refine AL.set rfl rfl (qak rfl rfl rfl (by omega) ?_) | refine AL.set rfl rfl (qah (sz := 33) rfl rfl A9.g5 (Nat.le_refl _) ?_) | refine AL.eff rfl (qap (vs := actC ({ actV0 with c := q }) ({ act0 with kind := k, node := (numS s).1, cmd := { cmd0 with kind := 6, key := (rawS (cutS ((numS s).2)).2).1 } })) rfl rfl rfl (qaC (O9.r (Nat.zero_le _))) A9.g4 rfl ?_))
   exact ⟨_, ResV.cellA rfl rfl rfl (Heap.set_at _ _ _) (Nat.le_refl _), { actV0 with c := q }, _, by rw [hr]; rfl, by rw [hr]; exact ⟨⟨_, ActO.put O9 A9.g4 (Nat.ne_of_beq_eq_false rfl) (Nat.ne_of_beq_eq_false rfl)⟩, (Nat.zero_le _)⟩, A9.rd.put A9.n4 (A9.rd.wf.lt A9.g4) _⟩
  by_cases h1 : w = wUnion
  ·
   have hr : readS k s = { act0 with kind := k, node := (numS s).1, cmd := { cmd0 with kind := 7, key := (rawS (cutS ((numS s).2)).2).1 } } := by
    rw [hr0]
    unfold planS
    rw [hw]
    unfold planT
    rw [if_neg h0, if_pos h1]
   repeat (first | refine AL.nil ?_ | refine AWp.seq ?_ | refine AWp.r9 ?_ | refine AWp.c8 rfl ?_ | refine AL.set rfl rfl (qaX rfl ?_) | refine AL.set rfl rfl (qaR rfl ?_) | refine AL.set rfl rfl (qaY (u := fnB 132 bx) rfl rfl hm1 (by simp [plainV, scalar]) (by rw [hget]; unfold planF; rw [if_neg h0, if_pos h1]; rfl) ?_) | refine AL.set rfl rfl (qa1 rfl rfl ?_))
   refine AL.set rfl rfl (qaq (evs := [ptr bx]) rfl rfl ((plan2_c AN.rd.self fb1 nbx (by omega)).mono ?_))
   rintro _ G2 ⟨q, s', rfl, oq, r2⟩
   have B2 := AN.over r2
   repeat (first | refine AL.set rfl rfl (qao rfl ?_))
   refine AL.eff rfl (qbf (vs := (cmdC q ({ cmd0 with kind := 7, key := (rawS (cutS ((numS s).2)).2).1 })).toArray) rfl rfl (by simpa using qbd oq.r) rfl B2.g5 rfl (by show 12 + 20 ≤ 33; omega) ?_)
   refine AL.heap (h := G2.set b5 ⟨actC ({ actV0 with c := q }) ({ act0 with kind := k, node := (numS s).1, cmd := { cmd0 with kind := 7, key := (rawS (cutS ((numS s).2)).2).1 } }), 40, true⟩) rfl ?_
   have A9 := B2.put ({ actV0 with c := q }) ({ act0 with kind := k, node := (numS s).1, cmd := { cmd0 with kind := 7, key := (rawS (cutS ((numS s).2)).2).1 } })
   have O9 : ActO G1.next (G2.set b5 ⟨actC ({ actV0 with c := q }) ({ act0 with kind := k, node := (numS s).1, cmd := { cmd0 with kind := 7, key := (rawS (cutS ((numS s).2)).2).1 } }), 40, true⟩) ({ actV0 with c := q }) ({ act0 with kind := k, node := (numS s).1, cmd := { cmd0 with kind := 7, key := (rawS (cutS ((numS s).2)).2).1 } }) := ActO.put (b := ⟨actC actV0 _, 40, true⟩) ⟨AskO.nil _ _, oq, ON.nil _ _ _ _⟩ B2.g5 (Nat.ne_of_beq_eq_false rfl) (Nat.ne_of_beq_eq_false rfl)
   generalize G2.set b5 ⟨actC ({ actV0 with c := q }) ({ act0 with kind := k, node := (numS s).1, cmd := { cmd0 with kind := 7, key := (rawS (cutS ((numS s).2)).2).1 } }), 40, true⟩ = H9 at A9 O9 ⊢
   repeat (first | refine AL.nil ?_ | refine AWp.seq ?_ | refine AWp.r9 ?_ | refine AWp.c9 rfl ?_ | refine AWp.ret ?_ | refine AWp.k9 ?_ | refine AL.set rfl rfl (qac rfl ?_) | refine AL.set rfl rfl (qak rfl rfl rfl (by omega) ?_) | refine AL.set rfl rfl (qah (sz := 33) rfl rfl A9.g5 (Nat.le_refl _) ?_) | refine AL.eff rfl (qap (vs := actC ({ actV0 with c := q }) ({ act0 with kind := k, node := (numS s).1, cmd := { cmd0 with kind := 7, key := (rawS (cutS ((numS s).2)).2).1 } })) rfl rfl rfl (qaC (O9.r (Nat.zero_le _))) A9.g4 rfl ?_))
   exact ⟨_, ResV.cellA rfl rfl rfl (Heap.set_at _ _ _) (Nat.le_refl _), { actV0 with c := q }, _, by rw [hr]; rfl, by rw [hr]; exact ⟨⟨_, ActO.put O9 A9.g4 (Nat.ne_of_beq_eq_false rfl) (Nat.ne_of_beq_eq_false rfl)⟩, (Nat.zero_le _)⟩, A9.rd.put A9.n4 (A9.rd.wf.lt A9.g4) _⟩
  by_cases h2 : w = wMove
  ·
   have hr : readS k s = { act0 with kind := k, node := (numS s).1, cmd := { cmd0 with kind := 8, key := (rawS (cutS ((numS s).2)).2).1, group := (numS (rawS (cutS ((numS s).2)).2).2).1 } } := by
    rw [hr0]
    unfold planS
    rw [hw]
    unfold planT
    rw [if_neg h0, if_neg h1, if_pos h2]
   repeat (first | refine AL.nil ?_ | refine AWp.seq ?_ | refine AWp.r9 ?_ | refine AWp.c8 rfl ?_ | refine AL.set rfl rfl (qaX rfl ?_) | refine AL.set rfl rfl (qaR rfl ?_) | refine AL.set rfl rfl (qaY (u := fnB 133 bx) rfl rfl hm1 (by simp [plainV, scalar]) (by rw [hget]; unfold planF; rw [if_neg h0, if_neg h1, if_pos h2]; rfl) ?_) | refine AL.set rfl rfl (qa1 rfl rfl ?_))
   refine AL.set rfl rfl (qaq (evs := [ptr bx]) rfl rfl ((plan3_c AN.rd.self fb1 nbx (by omega)).mono ?_))
   rintro _ G2 ⟨q, s', rfl, oq, r2⟩
   have B2 := AN.over r2
   repeat (first | refine AL.set rfl rfl (qao rfl ?_))
   refine AL.eff rfl (qbf (vs := (cmdC q ({ cmd0 with kind := 8, key := (rawS (cutS ((numS s).2)).2).1, group := (numS (rawS (cutS ((numS s).2)).2).2).1 })).toArray) rfl rfl (by simpa using qbd oq.r) rfl B2.g5 rfl (by show 12 + 20 ≤ 33; omega) ?_)
   refine AL.heap (h := G2.set b5 ⟨actC ({ actV0 with c := q }) ({ act0 with kind := k, node := (numS s).1, cmd := { cmd0 with kind := 8, key := (rawS (cutS ((numS s).2)).2).1, group := (numS (rawS (cutS ((numS s).2)).2).2).1 } }), 40, true⟩) rfl ?_
   have A9 := B2.put ({ actV0 with c := q }) ({ act0 with kind := k, node := (numS s).1, cmd := { cmd0 with kind := 8, key := (rawS (cutS ((numS s).2)).2).1, group := (numS (rawS (cutS ((numS s).2)).2).2).1 } })
   have O9 : ActO G1.next (G2.set b5 ⟨actC ({ actV0 with c := q }) ({ act0 with kind := k, node := (numS s).1, cmd := { cmd0 with kind := 8, key := (rawS (cutS ((numS s).2)).2).1, group := (numS (rawS (cutS ((numS s).2)).2).2).1 } }), 40, true⟩) ({ actV0 with c := q }) ({ act0 with kind := k, node := (numS s).1, cmd := { cmd0 with kind := 8, key := (rawS (cutS ((numS s).2)).2).1, group := (numS (rawS (cutS ((numS s).2)).2).2).1 } }) := ActO.put (b := ⟨actC actV0 _, 40, true⟩) ⟨AskO.nil _ _, oq, ON.nil _ _ _ _⟩ B2.g5 (Nat.ne_of_beq_eq_false rfl) (Nat.ne_of_beq_eq_false rfl)
   generalize G2.set b5 ⟨actC ({ actV0 with c := q }) ({ act0 with kind := k, node := (numS s).1, cmd := { cmd0 with kind := 8, key := (rawS (cutS ((numS s).2)).2).1, group := (numS (rawS (cutS ((numS s).2)).2).2).1 } }), 40, true⟩ = H9 at A9 O9 ⊢
   repeat (first | refine AL.nil ?_ | refine AWp.seq ?_ | refine AWp.r9 ?_ | refine AWp.c9 rfl ?_ | refine AWp.ret ?_ | refine AWp.k9 ?_ | refine AL.set rfl rfl (qac rfl ?_) | refine AL.set rfl rfl (qak rfl rfl rfl (by omega) ?_) | refine AL.set rfl rfl (qah (sz := 33) rfl rfl A9.g5 (Nat.le_refl _) ?_) | refine AL.eff rfl (qap (vs := actC ({ actV0 with c := q }) ({ act0 with kind := k, node := (numS s).1, cmd := { cmd0 with kind := 8, key := (rawS (cutS ((numS s).2)).2).1, group := (numS (rawS (cutS ((numS s).2)).2).2).1 } })) rfl rfl rfl (qaC (O9.r (Nat.zero_le _))) A9.g4 rfl ?_))
   exact ⟨_, ResV.cellA rfl rfl rfl (Heap.set_at _ _ _) (Nat.le_refl _), { actV0 with c := q }, _, by rw [hr]; rfl, by rw [hr]; exact ⟨⟨_, ActO.put O9 A9.g4 (Nat.ne_of_beq_eq_false rfl) (Nat.ne_of_beq_eq_false rfl)⟩, (Nat.zero_le _)⟩, A9.rd.put A9.n4 (A9.rd.wf.lt A9.g4) _⟩
  ·
   have hr : readS k s = { act0 with kind := k, node := (numS s).1 } := by
    rw [hr0]
    unfold planS
    rw [hw]
    unfold planT
    rw [if_neg h0, if_neg h1, if_neg h2]
    rfl
   repeat (first | refine AL.nil ?_ | refine AWp.seq ?_ | refine AWp.r9 ?_ | refine AWp.c9 rfl ?_ | refine AWp.k9 ?_ | refine AL.set rfl rfl (qac rfl ?_) | refine AL.set rfl rfl (qak rfl rfl rfl (by omega) ?_) | refine AL.set rfl rfl (qaY (u := .nilFunc) rfl rfl hm1 (by simp [plainV, scalar]) (by rw [hget]; unfold planF; rw [if_neg h0, if_neg h1, if_neg h2]; rfl) ?_) | refine AL.set rfl rfl (qam (v := .nilFunc) rfl ?_) | refine AL.set rfl rfl (qar (v := .nilFunc) rfl ?_) | refine AL.set rfl rfl (qcK rfl rfl ?_))
   have AN0 := AN
   have O0 : ActO h.next G1 actV0 ({ act0 with kind := k, node := (numS s).1 }) := ActO.nil _ _ _ rfl rfl rfl
   repeat (first | refine AL.nil ?_ | refine AWp.ret ?_ | refine AL.set rfl rfl (qah (sz := 33) rfl rfl AN0.g5 (Nat.le_refl _) ?_) | refine AL.eff rfl (qap (vs := actC actV0 ({ act0 with kind := k, node := (numS s).1 })) rfl rfl rfl (qaC (O0.r (Nat.zero_le _))) AN0.g4 rfl ?_))
   exact ⟨_, ResV.cellA rfl rfl rfl (Heap.set_at _ _ _) (Nat.le_refl _), actV0, _, by rw [hr]; rfl, by rw [hr]; exact ⟨⟨_, ActO.put O0 AN0.g4 (Nat.ne_of_beq_eq_false rfl) (Nat.ne_of_beq_eq_false rfl)⟩, Nat.zero_le _⟩, AN0.rd.put AN0.n4 (AN0.rd.wf.lt AN0.g4) _⟩
 by_cases k5 : k = 12
 ·
  have hr : readS k s = { act0 with kind := k, node := (numS s).1, keep := keepS 129 (numS s).2 } := by subst k5; rfl
  repeat (first | refine AL.nil ?_ | refine AWp.seq ?_ | refine AWp.r9 ?_ | refine AWp.c9 rfl ?_ | refine AWp.b9 ?_ | refine AWp.k9 ?_ | refine AL.set rfl rfl (qac rfl ?_) | refine AL.set rfl rfl (qau rfl ?_) | refine AL.set rfl rfl (qaa rfl ?_) | refine AL.set rfl rfl (qak rfl rfl rfl (by omega) ?_) | refine AL.set rfl rfl (qaw (out := actC actV0 { act0 with kind := k }) rfl rfl ?_) | refine AL.set rfl rfl (qas ?_) | refine AL.eff rfl (qaF (vs := actC actV0 { act0 with kind := k }) rfl rfl rfl rfl rfl ?_))
  have g5 := Heap.alloc_new H1 ⟨actC actV0 { act0 with kind := k }, 40, true⟩
  have x2 := w1.ext ⟨actC actV0 { act0 with kind := k }, 40, true⟩
  have w2 := w1.alloc ⟨actC actV0 { act0 with kind := k }, 40, true⟩
  have A2 : RdA h0 i s (H1.alloc ⟨actC actV0 { act0 with kind := k }, 40, true⟩) h.next H1.next actV0 { act0 with kind := k } := ⟨r1.grow x2 w2 (Nat.le_succ _), x2.c _ _ g4, g5, nx, by omega, by omega⟩
  generalize H1.alloc ⟨actC actV0 { act0 with kind := k }, 40, true⟩ = H2 at A2 ⊢
  generalize hb4 : h.next = b4 at A2 ⊢
  generalize hb5 : H1.next = b5 at A2 ⊢
  clear g4 x1 w1 r1 nx ln g5 x2 w2
  skip
  refine AL.set rfl rfl (qaq (evs := [ptr i]) rfl rfl ((qbk A2.rd (by omega)).mono ?_))
  rintro _ _ ⟨rfl, rfl⟩
  have B3 := A2.num (numS s).2
  generalize H2.set i (rdB (numS s).2) = G3 at B3 ⊢
  repeat (first | refine AL.set rfl rfl (qao rfl ?_))
  refine AL.eff rfl (qaQ (v := .int .i64 (numS s).1) rfl rfl rfl B3.g5 rfl (by show 1 < 33; omega) ?_)
  refine AL.heap (h := G3.set b5 ⟨actC actV0 ({ act0 with kind := k, node := (numS s).1 }), 40, true⟩) rfl ?_
  have A3 := B3.put actV0 ({ act0 with kind := k, node := (numS s).1 })
  generalize G3.set b5 ⟨actC actV0 ({ act0 with kind := k, node := (numS s).1 }), 40, true⟩ = H3 at A3 ⊢
  repeat (first | refine AL.nil ?_ | refine AWp.seq ?_ | refine AWp.r9 ?_ | refine AWp.c8 rfl ?_ | refine AWp.c9 rfl ?_ | refine AWp.b9 ?_ | refine AL.set rfl rfl (qac rfl ?_) | refine AL.set rfl rfl (qau rfl ?_) | refine AL.set rfl rfl (qaa rfl ?_) | refine AL.set rfl rfl (qaj rfl rfl rfl (by omega) ?_) | refine AL.set rfl rfl (qak rfl rfl rfl (by omega) ?_))
  refine AL.set rfl rfl (qaq (evs := [ptr i]) rfl rfl ((keep_c A3.rd.self (by omega)).mono ?_))
  rintro u G2 ⟨ru, ou, nu, s', r2⟩
  have B2 := A3.over r2
  repeat (first | refine AL.set rfl rfl (qao rfl ?_))
  refine AL.eff rfl (qaQ (v := u) rfl rfl ou B2.g5 rfl (by show 32 < 33; omega) ?_)
  refine AL.heap (h := G2.set b5 ⟨actC { actV0 with k := u } ({ act0 with kind := k, node := (numS s).1, keep := keepS 129 (numS s).2 }), 40, true⟩) rfl ?_
  have A9 := B2.put { actV0 with k := u } ({ act0 with kind := k, node := (numS s).1, keep := keepS 129 (numS s).2 })
  have O9 : ActO H3.next (G2.set b5 ⟨actC { actV0 with k := u } ({ act0 with kind := k, node := (numS s).1, keep := keepS 129 (numS s).2 }), 40, true⟩) { actV0 with k := u } ({ act0 with kind := k, node := (numS s).1, keep := keepS 129 (numS s).2 }) := ActO.put (b := ⟨actC actV0 _, 40, true⟩) ⟨AskO.nil _ _, CmdO.nil _ _, nu⟩ B2.g5 (Nat.ne_of_beq_eq_false rfl) (Nat.ne_of_beq_eq_false rfl)
  generalize G2.set b5 ⟨actC { actV0 with k := u } ({ act0 with kind := k, node := (numS s).1, keep := keepS 129 (numS s).2 }), 40, true⟩ = H9 at A9 O9 ⊢
  repeat (first | refine AL.nil ?_ | refine AWp.seq ?_ | refine AWp.r9 ?_ | refine AWp.c9 rfl ?_ | refine AWp.ret ?_ | refine AWp.k9 ?_ | refine AL.set rfl rfl (qac rfl ?_) | refine AL.set rfl rfl (qak rfl rfl rfl (by omega) ?_) | refine AL.set rfl rfl (qah (sz := 33) rfl rfl A9.g5 (Nat.le_refl _) ?_) | refine AL.eff rfl (qap (vs := actC ({ actV0 with k := u }) ({ act0 with kind := k, node := (numS s).1, keep := keepS 129 (numS s).2 })) rfl rfl rfl (qaC (O9.r ru.len)) A9.g4 rfl ?_))
  exact ⟨_, ResV.cellA rfl rfl rfl (Heap.set_at _ _ _) (Nat.le_refl _), { actV0 with k := u }, _, by rw [hr]; rfl, by rw [hr]; exact ⟨⟨_, ActO.put O9 A9.g4 (Nat.ne_of_beq_eq_false rfl) (Nat.ne_of_beq_eq_false rfl)⟩, ru.len⟩, A9.rd.put A9.n4 (A9.rd.wf.lt A9.g4) _⟩
 by_cases k6 : k = 8 ∨ k = 13
 ·
  have hr : readS k s = { act0 with kind := k, node := (numS s).1 } := by rcases k6 with rfl | rfl <;> rfl
  rcases k6 with e | e <;>
  ·
   repeat (first | refine AL.nil ?_ | refine AWp.seq ?_ | refine AWp.r9 ?_ | refine AWp.c9 rfl ?_ | refine AWp.b9 ?_ | refine AWp.k9 ?_ | refine AL.set rfl rfl (qac rfl ?_) | refine AL.set rfl rfl (qau rfl ?_) | refine AL.set rfl rfl (qaa rfl ?_) | refine AL.set rfl rfl (qak rfl rfl rfl (by omega) ?_) | refine AL.set rfl rfl (qaw (out := actC actV0 { act0 with kind := k }) rfl rfl ?_) | refine AL.set rfl rfl (qas ?_) | refine AL.eff rfl (qaF (vs := actC actV0 { act0 with kind := k }) rfl rfl rfl rfl rfl ?_))
   have g5 := Heap.alloc_new H1 ⟨actC actV0 { act0 with kind := k }, 40, true⟩
   have x2 := w1.ext ⟨actC actV0 { act0 with kind := k }, 40, true⟩
   have w2 := w1.alloc ⟨actC actV0 { act0 with kind := k }, 40, true⟩
   have A2 : RdA h0 i s (H1.alloc ⟨actC actV0 { act0 with kind := k }, 40, true⟩) h.next H1.next actV0 { act0 with kind := k } := ⟨r1.grow x2 w2 (Nat.le_succ _), x2.c _ _ g4, g5, nx, by omega, by omega⟩
   generalize H1.alloc ⟨actC actV0 { act0 with kind := k }, 40, true⟩ = H2 at A2 ⊢
   generalize hb4 : h.next = b4 at A2 ⊢
   generalize hb5 : H1.next = b5 at A2 ⊢
   clear g4 x1 w1 r1 nx ln g5 x2 w2
   skip
   refine AL.set rfl rfl (qaq (evs := [ptr i]) rfl rfl ((qbk A2.rd (by omega)).mono ?_))
   rintro _ _ ⟨rfl, rfl⟩
   have B3 := A2.num (numS s).2
   generalize H2.set i (rdB (numS s).2) = G3 at B3 ⊢
   repeat (first | refine AL.set rfl rfl (qao rfl ?_))
   refine AL.eff rfl (qaQ (v := .int .i64 (numS s).1) rfl rfl rfl B3.g5 rfl (by show 1 < 33; omega) ?_)
   refine AL.heap (h := G3.set b5 ⟨actC actV0 ({ act0 with kind := k, node := (numS s).1 }), 40, true⟩) rfl ?_
   have A3 := B3.put actV0 ({ act0 with kind := k, node := (numS s).1 })
   generalize G3.set b5 ⟨actC actV0 ({ act0 with kind := k, node := (numS s).1 }), 40, true⟩ = H3 at A3 ⊢
   have O3 : ActO h.next H3 actV0 ({ act0 with kind := k, node := (numS s).1 }) := ActO.nil _ _ _ rfl rfl rfl
   repeat (first | refine AL.nil ?_ | refine AWp.seq ?_ | refine AWp.r9 ?_ | refine AWp.c8 rfl ?_ | refine AWp.c9 rfl ?_ | refine AWp.ret ?_ | refine AWp.b9 ?_ | refine AWp.k9 ?_ | refine AL.set rfl rfl (qac rfl ?_) | refine AL.set rfl rfl (qaa rfl ?_) | refine AL.set rfl rfl (qaj rfl rfl rfl (by omega) ?_) | refine AL.set rfl rfl (qak rfl rfl rfl (by omega) ?_) | refine AL.set rfl rfl (qah (sz := 33) rfl rfl A3.g5 (Nat.le_refl _) ?_) | refine AL.eff rfl (qap (vs := actC (actV0) ({ act0 with kind := k, node := (numS s).1 })) rfl rfl rfl (qaC (O3.r (Nat.zero_le _))) A3.g4 rfl ?_))
   exact ⟨_, ResV.cellA rfl rfl rfl (Heap.set_at _ _ _) (Nat.le_refl _), actV0, _, by rw [hr]; rfl, by rw [hr]; exact ⟨⟨_, ActO.put O3 A3.g4 (Nat.ne_of_beq_eq_false rfl) (Nat.ne_of_beq_eq_false rfl)⟩, (Nat.zero_le _)⟩, A3.rd.put A3.n4 (A3.rd.wf.lt A3.g4) _⟩
 ·
  have k7 : k = 1 ∨ k = 2 ∨ k = 6 ∨ k = 7 := by omega
  have hr : readS k s = { act0 with kind := k, node := (numS s).1, group := (numS (numS s).2).1 } := by rcases k7 with rfl | rfl | rfl | rfl <;> rfl
  repeat (first | refine AL.nil ?_ | refine AWp.seq ?_ | refine AWp.r9 ?_ | refine AWp.c9 rfl ?_ | refine AWp.b9 ?_ | refine AWp.k9 ?_ | refine AL.set rfl rfl (qac rfl ?_) | refine AL.set rfl rfl (qau rfl ?_) | refine AL.set rfl rfl (qaa rfl ?_) | refine AL.set rfl rfl (qak rfl rfl rfl (by omega) ?_) | refine AL.set rfl rfl (qaw (out := actC actV0 { act0 with kind := k }) rfl rfl ?_) | refine AL.set rfl rfl (qas ?_) | refine AL.eff rfl (qaF (vs := actC actV0 { act0 with kind := k }) rfl rfl rfl rfl rfl ?_))
  have g5 := Heap.alloc_new H1 ⟨actC actV0 { act0 with kind := k }, 40, true⟩
  have x2 := w1.ext ⟨actC actV0 { act0 with kind := k }, 40, true⟩
  have w2 := w1.alloc ⟨actC actV0 { act0 with kind := k }, 40, true⟩
  have A2 : RdA h0 i s (H1.alloc ⟨actC actV0 { act0 with kind := k }, 40, true⟩) h.next H1.next actV0 { act0 with kind := k } := ⟨r1.grow x2 w2 (Nat.le_succ _), x2.c _ _ g4, g5, nx, by omega, by omega⟩
  generalize H1.alloc ⟨actC actV0 { act0 with kind := k }, 40, true⟩ = H2 at A2 ⊢
  generalize hb4 : h.next = b4 at A2 ⊢
  generalize hb5 : H1.next = b5 at A2 ⊢
  clear g4 x1 w1 r1 nx ln g5 x2 w2
  skip
  refine AL.set rfl rfl (qaq (evs := [ptr i]) rfl rfl ((qbk A2.rd (by omega)).mono ?_))
  rintro _ _ ⟨rfl, rfl⟩
  have B3 := A2.num (numS s).2
  generalize H2.set i (rdB (numS s).2) = G3 at B3 ⊢
  repeat (first | refine AL.set rfl rfl (qao rfl ?_))
  refine AL.eff rfl (qaQ (v := .int .i64 (numS s).1) rfl rfl rfl B3.g5 rfl (by show 1 < 33; omega) ?_)
  refine AL.heap (h := G3.set b5 ⟨actC actV0 ({ act0 with kind := k, node := (numS s).1 }), 40, true⟩) rfl ?_
  have A3 := B3.put actV0 ({ act0 with kind := k, node := (numS s).1 })
  generalize G3.set b5 ⟨actC actV0 ({ act0 with kind := k, node := (numS s).1 }), 40, true⟩ = H3 at A3 ⊢
  repeat (first | refine AL.nil ?_ | refine AWp.seq ?_ | refine AWp.r9 ?_ | refine AWp.c9 rfl ?_ | refine AWp.b9 ?_ | refine AL.set rfl rfl (qac rfl ?_) | refine AL.set rfl rfl (qau rfl ?_) | refine AL.set rfl rfl (qaa rfl ?_) | refine AL.set rfl rfl (qak rfl rfl rfl (by omega) ?_))
  refine AL.set rfl rfl (qaq (evs := [ptr i]) rfl rfl ((qbk A3.rd (by omega)).mono ?_))
  rintro _ _ ⟨rfl, rfl⟩
  have B4 := A3.num (numS (numS s).2).2
  generalize H3.set i (rdB (numS (numS s).2).2) = G4 at B4 ⊢
  repeat (first | refine AL.set rfl rfl (qao rfl ?_))
  refine AL.eff rfl (qaQ (v := .int .i64 (numS (numS s).2).1) rfl rfl rfl B4.g5 rfl (by show 2 < 33; omega) ?_)
  refine AL.heap (h := G4.set b5 ⟨actC actV0 ({ act0 with kind := k, node := (numS s).1, group := (numS (numS s).2).1 }), 40, true⟩) rfl ?_
  have A4 := B4.put actV0 ({ act0 with kind := k, node := (numS s).1, group := (numS (numS s).2).1 })
  generalize G4.set b5 ⟨actC actV0 ({ act0 with kind := k, node := (numS s).1, group := (numS (numS s).2).1 }), 40, true⟩ = H4 at A4 ⊢
  have O4 : ActO h.next H4 actV0 ({ act0 with kind := k, node := (numS s).1, group := (numS (numS s).2).1 }) := ActO.nil _ _ _ rfl rfl rfl
  repeat (first | refine AL.nil ?_ | refine AWp.seq ?_ | refine AWp.r9 ?_ | refine AWp.c9 rfl ?_ | refine AWp.ret ?_ | refine AWp.k9 ?_ | refine AL.set rfl rfl (qac rfl ?_) | refine AL.set rfl rfl (qak rfl rfl rfl (by omega) ?_) | refine AL.set rfl rfl (qah (sz := 33) rfl rfl A4.g5 (Nat.le_refl _) ?_) | refine AL.eff rfl (qap (vs := actC (actV0) ({ act0 with kind := k, node := (numS s).1, group := (numS (numS s).2).1 })) rfl rfl rfl (qaC (O4.r (Nat.zero_le _))) A4.g4 rfl ?_))
  exact ⟨_, ResV.cellA rfl rfl rfl (Heap.set_at _ _ _) (Nat.le_refl _), actV0, _, by rw [hr]; rfl, by rw [hr]; exact ⟨⟨_, ActO.put O4 A4.g4 (Nat.ne_of_beq_eq_false rfl) (Nat.ne_of_beq_eq_false rfl)⟩, (Nat.zero_le _)⟩, A4.rd.put A4.n4 (A4.rd.wf.lt A4.g4) _⟩
end Go.Proofs.YtigmojilaadbhaaGreatDoor

/-
 Scripts: words put together.
-/
namespace Go.Proofs.YtigmojilaadbhaaGreatDoor
open Go Go.Eng Go.Pln Go.Lib
attribute [local irreducible] AWp AL DAL AOp

instance i_text : FnC Tryz.prog 43 := ⟨Tryz.f43, Tryz.func43, by kernel_rfl, by kernel_rfl⟩
instance i_join : FnC Tryz.prog 94 := ⟨Tryz.f94, Tryz.func94, by kernel_rfl, by kernel_rfl⟩
instance i_TyD_interface_ : TyD Tryz.prog 20 (.interface #[]) := ⟨Tryz.underlying20⟩
instance i_TyI_interface_ : TyI Tryz.prog 20 1 16 .nilIface := ⟨qaO (by kernel_rfl), rfl, rfl⟩
instance qgp : TyD Tryz.prog 145 (.slice 20) := ⟨Tryz.underlying145⟩
inductive WArg where
 | num (n : Int)
 | raw (v : Value) (b : Bytes)
 | txt (s : Bytes)
def argV : WArg → Value
 | .num n => .iface 3 (.int .i64 n)
 | .raw v _ => .iface 27 v
 | .txt s => .iface 9 (str s)
def argW : WArg → Bytes
 | .num n => itoa n
 | .raw _ b => wordM b
 | .txt s => s
def ArgR (h : Heap) : WArg → Prop
 | .num n => I64 n
 | .raw v b => RB h v b ∧ b.length ≤ 100000000
 | .txt _ => True
theorem ArgR.ext {h h' : Heap} (hx : Ext h h') : ∀ {x : WArg}, ArgR h x → ArgR h' x
 | .num _, r => r
 | .raw _ _, r => ⟨r.1.ext hx, r.2⟩
 | .txt _, r => r
abbrev strs (l : List Bytes) : List Value := l.map fun s => str s
theorem qeY (l : List Bytes) (s : Bytes) : strs l ++ [str s] = strs (l ++ [s]) := by simp
theorem qbR {α β : Type} {f : α → β} {l : List α} {k : Nat} {x : α} (hx : l[k]? = some x) : (l.take (k + 1)).map f = (l.take k).map f ++ [f x] := by
 rw [List.take_add_one, hx]
 simp
set_option maxHeartbeats 4000000 in
theorem text_c (v : Value) (l : List WArg) (h : Heap) (t : Tabs h) (r : RS h v (l.map argV)) (ra : ∀ x ∈ l, ArgR h x) (hl : l.length ≤ 1000000) (hj : (joinW (l.map argW)).length ≤ 10000000000) :
  ACalls Tryz.prog 43 [v] h fun u h' => u = str (joinW (l.map argW)) ∧ h' = h := by
 refine ACalls.wf fun wf => ACalls.reset ?_
 refine ACalls.body Tryz.func43 rfl rfl ?_
 obtain ⟨va, vc, hv⟩ := RS.slice r
 have hml : (l.map argV).length = l.length := List.length_map _
 repeat (first | refine AL.nil ?_ | refine AWp.seq ?_ | refine AWp.r9 ?_ | refine AWp.b9 ?_ | refine AL.set rfl rfl (qac rfl ?_) | refine AL.set rfl rfl (qbh rfl ?_) | refine AL.set rfl rfl (qaf rfl ?_) | refine AL.set rfl rfl (qam (v := v) rfl ?_) | refine AL.set rfl rfl (qa0 r rfl ?_))
 refine AWp.loop (α := Nat × Heap × Value) (fun d => [(3, d.2.2), (9, v), (10, .int .i64 ((l.map argV).length : Nat)), (11, .int .i64 (d.1 : Nat))]) (fun d => d.2.1) (fun d => d.1 ≤ l.length ∧ Ext h d.2.1 ∧ WF d.2.1 ∧ OS h.next d.2.1 9 d.2.2 (strs ((l.take d.1).map argW)) ∧ h.next ≤ d.2.1.next) (fun d => l.length - d.1) (0, h, .slice none 0 0) ⟨Nat.zero_le _, Ext.refl h, wf, OS.nil _ _ _, Nat.le_refl _⟩
  (Weak.same (EW.cons rfl (EW.cons rfl (EW.cons rfl (EW.cons rfl EW.nil))))) ?_
 rintro ⟨k, H, u⟩ ⟨hk, hxH, wfH, o, nH⟩
 replace hk : k ≤ l.length := hk
 replace hxH : Ext h H := hxH
 replace wfH : WF H := wfH
 replace o : OS h.next H 9 u (strs ((l.take k).map argW)) := o
 replace nH : h.next ≤ H.next := nH
 show AWp _ _ _ _ [(3, u), (9, v), (10, .int .i64 ((l.map argV).length : Nat)), (11, .int .i64 (k : Nat))] H
 by_cases hlt : k < l.length
 ·
  obtain ⟨x, hx⟩ : ∃ x, l[k]? = some x := ⟨_, List.getElem?_eq_getElem hlt⟩
  have hx2 : (l.map argV)[((k : Nat) : Int).toNat]? = some (argV x) := by simp [hx]
  have rx := (ra x (List.mem_of_getElem? hx)).ext hxH
  repeat (first | refine AL.nil ?_ | refine AWp.seq ?_ | refine AWp.r9 ?_ | refine AWp.c8 rfl ?_ | refine AWp.b9 ?_ | refine AWp.k9 ?_ | refine AL.set rfl rfl (qaj rfl rfl rfl (by omega) ?_) | refine AL.set rfl rfl (qa7 (r.ext hxH) rfl rfl (by omega) hx2 ?_))
  intro p hp
  cases x with
  | num n =>
   have ci := itoa_c n H (t.ext hxH) rx.1 rx.2
   repeat (first | refine AL.nil ?_ | refine AWp.seq ?_ | refine AWp.r9 ?_ | refine AWp.c8 rfl ?_ | refine AWp.b9 ?_ | refine AL.set rfl rfl (qac rfl ?_) | refine AL.set rfl rfl (qae rfl ?_) | refine AL.set rfl rfl (qaz hp rfl rfl ?_) | refine AL.set rfl rfl (op_taY rfl rfl ?_) | refine AL.set rfl rfl (qat rfl rfl ?_) | refine AL.set rfl rfl (qab rfl rfl ci ?_) | refine AL.set rfl rfl (qam (v := u) rfl ?_) | refine AL.set rfl rfl (qam (v := argV (.num n)) rfl ?_) | refine AL.set rfl rfl (qar (v := argV (.num n)) rfl ?_))
   refine AL.set rfl rfl (qaI [str (argW (.num n))] rfl rfl rfl rfl (by intro u hu; rw [List.mem_singleton.1 hu]; rfl) ?_)
   have gr := Heap.alloc_new H ⟨[str (argW (.num n))], 9, true⟩
   have xr := wfH.ext ⟨[str (argW (.num n))], 9, true⟩
   have wr := wfH.alloc ⟨[str (argW (.num n))], 9, true⟩
   generalize H.alloc ⟨[str (argW (.num n))], 9, true⟩ = H2 at gr xr wr ⊢
   have rr : RS H2 (.slice (some ⟨H.next, 0, some 1⟩) 1 1) [str (argW (.num n))] := RS.own gr rfl
   have o2 := o.ext xr
   have ln : h.next ≤ H2.next := by have := wr.lt gr; omega
   refine AL.set rfl rfl (qbg (z := .string ⟨#[]⟩) (B := h.next) (e := 9) rfl wr ln o2 rfl rfl rr.src rfl rfl (by show (strs _).length + 1 ≤ maxLen; rw [List.length_map]; simp only [maxLen, List.length_map, List.length_take]; omega) (by show ((strs _).length + 1) * 16 ≤ _; rw [List.length_map]; simp only [List.length_map, List.length_take]; omega) ?_)
   intro u' H3 o3 k3 wf3 n3
   rw [qeY, ← qbR hx] at o3
   have x3 := k3.ext o2 wf (Nat.le_refl _) (hxH.trans xr)
   repeat (first | refine AL.nil ?_ | refine AWp.r9 ?_ | refine AL.set rfl rfl (qac rfl ?_) | refine AL.set rfl rfl (qax rfl rfl (by omega) ?_) | refine AL.set rfl rfl (qar (by conv => lhs; whnf) ?_))
   exact ⟨(k + 1, H3, u'), ⟨hlt, x3, wf3, o3, by show h.next ≤ H3.next; omega⟩, by show l.length - (k + 1) < l.length - k; omega, Weak.same (EW.cons rfl (EW.cons rfl (EW.cons rfl (EW.cons rfl EW.nil))))⟩
  | raw w b =>
   have cw := word_c w b H rx.1 rx.2
   repeat (first | refine AL.nil ?_ | refine AWp.seq ?_ | refine AWp.r9 ?_ | refine AWp.c8 rfl ?_ | refine AWp.c9 rfl ?_ | refine AWp.b9 ?_ | refine AL.set rfl rfl (qaz hp rfl rfl ?_) | refine AL.set rfl rfl (op_taN (u := 27) rfl rfl rfl (Nat.ne_of_beq_eq_false rfl) ?_) | refine AL.set rfl rfl (op_taY rfl rfl ?_) | refine AL.set rfl rfl (qat rfl rfl ?_) | refine AL.set rfl rfl (qab rfl rfl cw ?_) | refine AL.set rfl rfl (qam (v := u) rfl ?_) | refine AL.set rfl rfl (qam (v := argV (.raw w b)) rfl ?_) | refine AL.set rfl rfl (qar (v := argV (.raw w b)) rfl ?_) | refine AL.set rfl rfl (qam (v := w) rfl ?_) | refine AL.set rfl rfl (qar (v := w) rfl ?_))
   refine AL.set rfl rfl (qaI [str (argW (.raw w b))] rfl rfl rfl rfl (by intro u hu; rw [List.mem_singleton.1 hu]; rfl) ?_)
   have gr := Heap.alloc_new H ⟨[str (argW (.raw w b))], 9, true⟩
   have xr := wfH.ext ⟨[str (argW (.raw w b))], 9, true⟩
   have wr := wfH.alloc ⟨[str (argW (.raw w b))], 9, true⟩
   generalize H.alloc ⟨[str (argW (.raw w b))], 9, true⟩ = H2 at gr xr wr ⊢
   have rr : RS H2 (.slice (some ⟨H.next, 0, some 1⟩) 1 1) [str (argW (.raw w b))] := RS.own gr rfl
   have o2 := o.ext xr
   have ln : h.next ≤ H2.next := by have := wr.lt gr; omega
   refine AL.set rfl rfl (qbg (z := .string ⟨#[]⟩) (B := h.next) (e := 9) rfl wr ln o2 rfl rfl rr.src rfl rfl (by show (strs _).length + 1 ≤ maxLen; rw [List.length_map]; simp only [maxLen, List.length_map, List.length_take]; omega) (by show ((strs _).length + 1) * 16 ≤ _; rw [List.length_map]; simp only [List.length_map, List.length_take]; omega) ?_)
   intro u' H3 o3 k3 wf3 n3
   rw [qeY, ← qbR hx] at o3
   have x3 := k3.ext o2 wf (Nat.le_refl _) (hxH.trans xr)
   repeat (first | refine AL.nil ?_ | refine AWp.r9 ?_ | refine AL.set rfl rfl (qac rfl ?_) | refine AL.set rfl rfl (qax rfl rfl (by omega) ?_) | refine AL.set rfl rfl (qar (by conv => lhs; whnf) ?_))
   exact ⟨(k + 1, H3, u'), ⟨hlt, x3, wf3, o3, by show h.next ≤ H3.next; omega⟩, by show l.length - (k + 1) < l.length - k; omega, Weak.same (EW.cons rfl (EW.cons rfl (EW.cons rfl (EW.cons rfl EW.nil))))⟩
  | txt s =>
   repeat (first | refine AL.nil ?_ | refine AWp.seq ?_ | refine AWp.r9 ?_ | refine AWp.c8 rfl ?_ | refine AWp.c9 rfl ?_ | refine AWp.b9 ?_ | refine AL.set rfl rfl (qal rfl ?_) | refine AL.set rfl rfl (qaf rfl ?_) | refine AL.set rfl rfl (qaz hp rfl rfl ?_) | refine AL.set rfl rfl (op_taN (u := 9) rfl rfl rfl (Nat.ne_of_beq_eq_false rfl) ?_) | refine AL.set rfl rfl (op_taY rfl rfl ?_) | refine AL.set rfl rfl (qat rfl rfl ?_) | refine AL.set rfl rfl (qam (v := u) rfl ?_) | refine AL.set rfl rfl (qam (v := argV (.txt s)) rfl ?_) | refine AL.set rfl rfl (qar (v := argV (.txt s)) rfl ?_))
   refine AL.set rfl rfl (qaI [str (argW (.txt s))] rfl rfl rfl rfl (by intro u hu; rw [List.mem_singleton.1 hu]; rfl) ?_)
   have gr := Heap.alloc_new H ⟨[str (argW (.txt s))], 9, true⟩
   have xr := wfH.ext ⟨[str (argW (.txt s))], 9, true⟩
   have wr := wfH.alloc ⟨[str (argW (.txt s))], 9, true⟩
   generalize H.alloc ⟨[str (argW (.txt s))], 9, true⟩ = H2 at gr xr wr ⊢
   have rr : RS H2 (.slice (some ⟨H.next, 0, some 1⟩) 1 1) [str (argW (.txt s))] := RS.own gr rfl
   have o2 := o.ext xr
   have ln : h.next ≤ H2.next := by have := wr.lt gr; omega
   refine AL.set rfl rfl (qbg (z := .string ⟨#[]⟩) (B := h.next) (e := 9) rfl wr ln o2 rfl rfl rr.src rfl rfl (by show (strs _).length + 1 ≤ maxLen; rw [List.length_map]; simp only [maxLen, List.length_map, List.length_take]; omega) (by show ((strs _).length + 1) * 16 ≤ _; rw [List.length_map]; simp only [List.length_map, List.length_take]; omega) ?_)
   intro u' H3 o3 k3 wf3 n3
   rw [qeY, ← qbR hx] at o3
   have x3 := k3.ext o2 wf (Nat.le_refl _) (hxH.trans xr)
   repeat (first | refine AL.nil ?_ | refine AWp.r9 ?_ | refine AL.set rfl rfl (qac rfl ?_) | refine AL.set rfl rfl (qax rfl rfl (by omega) ?_) | refine AL.set rfl rfl (qar (by conv => lhs; whnf) ?_))
   exact ⟨(k + 1, H3, u'), ⟨hlt, x3, wf3, o3, by show h.next ≤ H3.next; omega⟩, by show l.length - (k + 1) < l.length - k; omega, Weak.same (EW.cons rfl (EW.cons rfl (EW.cons rfl (EW.cons rfl EW.nil))))⟩
 ·
  obtain rfl : k = l.length := by omega
  rw [List.take_length] at o
  have cj := join_c u (l.map argW) H o.rs (by omega) (by rw [List.length_map]; omega)
  repeat (first | refine AL.nil ?_ | refine AWp.seq ?_ | refine AWp.r9 ?_ | refine AWp.c9 rfl ?_ | refine AWp.ret ?_ | refine AWp.exit ?_ | refine AL.set rfl rfl (qaf rfl ?_) | refine AL.set rfl rfl (qak rfl rfl rfl (by omega) ?_) | refine AL.set rfl rfl (qam (v := u) rfl ?_) | refine AL.set rfl rfl (qab rfl rfl cj ?_))
  exact ⟨_, ResV.tmp rfl, rfl, hxH, rfl, rfl⟩
end Go.Proofs.YtigmojilaadbhaaGreatDoor
