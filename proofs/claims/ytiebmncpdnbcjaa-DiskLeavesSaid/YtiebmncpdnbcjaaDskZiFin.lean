/-
  DiskLeaves.
-/
import Derived.Test.YtiebmncpdnbcjaaDskZhFin
import Derived.Test.YtiebmncpdnbcjaaMrgh
namespace Go.Proofs.Ytiebmncpdnbcjaa
open Go Go.Eng Go.Dsk
attribute [local irreducible] AWp AL DAL AOp TAL

theorem RN.chL {n : Nat} {h H : Heap} {v : Value} {rows : List (List Value)} {i m : Nat} (r : RN n h v rows) (k : Ch i m h H) (hv : vblk v ≠ some i) : RN n H v rows := r.keep fun q b hq hb => k.c q b hb (fun e => hv (e ▸ hq))
theorem ON.lt {B c : Nat} {h : Heap} {e : TypeId} {v : Value} {rows : List (List Value)} (r : ON B c h e v rows) (wf : WF h) : ∀ q, vblk v = some q → q < h.next := by
  intro q hq
  rcases r.at_ with ⟨rfl, _⟩ | ⟨i', cap, _, rfl, hi⟩
  · cases hq
  · cases hq; exact wf.lt hi
theorem At.ext {H H' : Heap} {i m room : Nat} {l : FL} {c : Nat} (a : At H i m room l c) (hx : Ext H H') : At H' i m room l c := ⟨hx.c _ _ a.box, hx.o _ _ a.map, a.ok, a.big⟩
theorem At.chL {H H' : Heap} {i m room i2 m2 : Nat} {l : FL} {c : Nat} (a : At H i m room l c) (k : Ch i2 m2 H H') (h1 : i ≠ i2) (h2 : m ≠ m2) : At H' i m room l c := ⟨k.c _ _ a.box h1, k.o _ _ a.map h2, a.ok, a.big⟩
theorem sync_get {l : FL} {c : Nat} {s t : List UInt8} (hn : (l.map (·.1)).Nodup) (h : t ≠ s) : getS (syncL l c s) t = getS l t := by
  unfold syncL
  split
  · rw [getS_putD hn, if_neg h]
  · rfl
abbrev keBL (s : List UInt8) (n : Int) : Blk := ⟨([(s, n)].map keepR).flatten, 69, true⟩
set_option maxHeartbeats 8000000 in
set_option maxRecDepth 4000 in
theorem leaves_walk (room : Int) (lv : Value) (L : List StepT) (s : List UInt8) (n m : Int) (h : Heap) (r : Steps h lv L) (hs : s.length ≤ 4611686018427387904) :
    ACalls Try.prog 8 [.int .i64 room, lv, .string (bstr s), .int .i64 n, .int .i64 m] h fun v _ => v = .bool true := by
  refine ACalls.wf fun wf => ?_
  refine ACalls.body Try.func8 rfl rfl ?_
  repeat (first | refine AL.nil ?_ | refine AWp.seq ?_ | refine AWp.region ?_ | refine AL.set rfl rfl (op_assignB rfl ?_) | refine AL.set rfl rfl (op_move (by conv => lhs; whnf) ?_))
  refine AL.set rfl rfl (op_call rfl rfl ((much_c lv L 30 h r).mono ?_))
  rintro _ H0 ⟨q, rfl, hH0, hq⟩
  cases hH0.symm
  cases q with
  | true =>
    repeat (first | refine AL.nil ?_ | refine AL.skip rfl rfl ?_ | refine AWp.seq ?_ | refine AWp.region ?_ | refine AWp.condT rfl ?_ | refine AWp.ret ?_ | refine AL.set rfl rfl (op_moveB rfl ?_) | refine AL.set rfl rfl (op_assignB rfl ?_) | refine AL.set rfl rfl (op_pick (v := .bool _) rfl rfl ?_) | refine AL.set rfl rfl (op_callS rfl rfl (known_c h) ?_))
    exact ⟨_, ResV.tmp rfl, rfl⟩
  | false =>
  obtain ⟨_, hf⟩ := hq rfl
  by_cases hA : 1000 < s.length
  · repeat (first | refine AL.nil ?_ | refine AWp.seq ?_ | refine AWp.region ?_ | refine AWp.condT rfl ?_ | refine AWp.ret ?_ | refine AL.set rfl rfl (op_moveB rfl ?_) | refine AL.set rfl rfl (op_moveStr rfl ?_) | refine AL.set rfl rfl (op_assignB rfl ?_) | refine AL.set rfl rfl (op_lenSB rfl ?_) | refine AL.set rfl rfl (op_intT rfl rfl rfl (by omega) ?_) | refine AL.set rfl rfl (op_pick (v := .bool _) rfl rfl ?_) | refine AL.set rfl rfl (op_callS rfl rfl (known_c h) ?_))
    exact ⟨_, ResV.tmp rfl, rfl⟩
  repeat (first | refine AL.nil ?_ | refine AWp.seq ?_ | refine AWp.region ?_ | refine AWp.condF rfl ?_ | refine AWp.skip ?_ | refine AL.set rfl rfl (op_moveI rfl ?_) | refine AL.set rfl rfl (op_moveB rfl ?_) | refine AL.set rfl rfl (op_moveStr rfl ?_) | refine AL.set rfl rfl (op_lenSB rfl ?_) | refine AL.set rfl rfl (op_intF rfl rfl rfl (by omega) ?_) | refine AL.set rfl rfl (op_pick (v := .bool _) rfl rfl ?_) | refine AL.set rfl rfl (op_move (by conv => lhs; whnf) ?_))
  refine AL.set rfl rfl (op_call rfl rfl ((made_c room lv L h r hf).mono ?_))
  rintro _ H1 (⟨hn, rfl, rfl⟩ | ⟨rm, rfl, hn, i, mm, l, c, j, v, rfl, z⟩)
  · repeat (first | refine AL.nil ?_ | refine AWp.seq ?_ | refine AWp.region ?_ | refine AWp.condT rfl ?_ | refine AWp.ret ?_ | refine AL.set rfl rfl (op_moveI rfl ?_) | refine AL.set rfl rfl (op_moveB rfl ?_) | refine AL.set rfl rfl (op_moveP rfl ?_) | refine AL.set rfl rfl (op_moveT rfl ?_) | refine AL.set rfl rfl (op_assignB rfl ?_) | refine AL.set rfl rfl (op_assignP rfl ?_) | refine AL.set rfl rfl (op_extract rfl rfl ?_) | refine AL.set rfl rfl (op_eqPtrNil rfl rfl ?_) | refine AL.set rfl rfl (op_callS rfl rfl (rnew_no room H1 hn) ?_) | refine AL.set rfl rfl (op_pick (v := .bool _) rfl rfl ?_) | refine AL.set rfl rfl (op_callS rfl rfl (known_c H1) ?_))
    exact ⟨_, ResV.tmp rfl, rfl⟩
  generalize runF rm L = F at z
  have hrm := z.dk.big
  have hus := z.rk.used
  have hcnt := z.rk.cnt
  repeat (first | refine AL.nil ?_ | refine AWp.seq ?_ | refine AWp.region ?_ | refine AWp.condF rfl ?_ | refine AWp.skip ?_ | refine AL.set rfl rfl (op_moveP rfl ?_) | refine AL.set rfl rfl (op_moveT rfl ?_) | refine AL.set rfl rfl (op_assignP rfl ?_) | refine AL.set rfl rfl (op_extract rfl rfl ?_) | refine AL.set rfl rfl (op_eqPtrNil rfl rfl ?_))
  have li1 := z.dk.lt z.wf
  refine AL.set rfl rfl (op_call rfl rfl ((files_c j rm v F H1 z.rk (z.sm.names z.dk.ok.names)).mono ?_))
  rintro u H2 ⟨G, oG, pG, rG, hx2, wf2, n2⟩
  replace z := z.grow hx2 wf2
  have lG : Lst l G := ⟨z.sm.trans pG.symm, rG⟩
  have rGn := oG.rn
  obtain ⟨ua, uc, rfl⟩ := rGn.slice
  have hGl : G.length = F.length := pG.length_eq
  have hGm : (G.map rowR).length = G.length := by simp
  have nodG : (G.map (·.1)).Nodup := rise_nodup' rG
  have goodG : ∀ f ∈ G, goodN f.1 = true := fun f hf => (lG.good z.dk.ok hf).1
  have lenG : ∀ (k : Nat) f, G[k]? = some f → f.2.1.length + f.2.2.length ≤ 1048576 := fun k f hf => by
    obtain ⟨q, hq⟩ := List.getElem?_of_mem (pG.mem_iff.1 (List.mem_of_getElem? hf))
    have h1 := usedR_take hq
    have h2 := usedR_le F (q + 1)
    omega
  generalize hG0 : (G.map rowR).length = G0 at rGn oG ⊢
  repeat (first | refine AL.nil ?_ | refine AWp.seq ?_ | refine AWp.region ?_ | refine AWp.block ?_ | refine AL.set rfl rfl (op_assignI rfl ?_) | refine AL.set rfl rfl (op_assignS rfl ?_))
  refine AWp.loop (α := Nat × Value × Heap) (fun d => [(0, .int .i64 (rm : Nat)), (2, .string (bstr s)), (3, .int .i64 n), (4, .int .i64 m), (11, ptr i), (12, ptr j), (13, .slice ua G0 uc), (14, d.2.1), (15, .int .i64 (d.1 : Nat))]) (fun d => d.2.2)
    (fun d => d.1 ≤ G.length ∧ ON H2.next 2 d.2.2 69 d.2.1 ((allK (G.take d.1)).map keepR) ∧ Ext H2 d.2.2 ∧ WF d.2.2 ∧ H2.next ≤ d.2.2.next) (fun d => G.length - d.1) (0, .slice none 0 0, H2)
    ⟨Nat.zero_le _, ON.nil _ _ _ _, Ext.refl _, wf2, Nat.le_refl _⟩ (Weak.same (EW.cons rfl (EW.cons rfl (EW.cons rfl (EW.cons rfl (EW.cons rfl (EW.cons rfl (EW.cons rfl (EW.cons rfl (EW.cons rfl EW.nil)))))))))) ?_
  rintro ⟨k, kv, H⟩ ⟨w1, w2, w3, w4, w5⟩
  replace w1 : k ≤ G.length := w1
  replace w2 : ON H2.next 2 H 69 kv ((allK (G.take k)).map keepR) := w2
  replace w3 : Ext H2 H := w3
  replace w4 : WF H := w4
  replace w5 : H2.next ≤ H.next := w5
  show AWp _ _ _ _ [(0, .int .i64 (rm : Nat)), (2, .string (bstr s)), (3, .int .i64 n), (4, .int .i64 m), (11, ptr i), (12, ptr j), (13, .slice ua G0 uc), (14, kv), (15, .int .i64 (k : Nat))] H
  have rH := rGn.ext w3
  by_cases hk : k < G.length
  · obtain ⟨f, hf1⟩ : ∃ f, G[k]? = some f := ⟨_, List.getElem?_eq_getElem hk⟩
    have hf2 := row_at hf1
    have hfl := lenG k f hf1
    have hp := rH.elt hf2
    have e1 : (allK (G.take (k + 1))).map keepR = (allK (G.take k)).map keepR ++ [keepR (f.1, (f.2.2.length : Int))] := by
      rw [List.take_add_one, hf1]
      simp [allK]
    have hkl : ((allK (G.take k)).map keepR).length ≤ 128 := by simp [allK]; omega
    repeat (first | refine AL.nil ?_ | refine AWp.seq ?_ | refine AWp.region ?_ | refine AWp.condT rfl ?_ | refine AWp.block ?_ | refine AWp.skip ?_ | refine AL.set rfl rfl (op_moveI rfl ?_) | refine AL.set rfl rfl (op_moveS rfl ?_) | refine AL.set rfl rfl (op_lenN rH rfl ?_) | refine AL.set rfl rfl (op_intT rfl rfl rfl (by omega) ?_))
    refine AWp.draw (σ := [(0, .R), (1, .R), (2, .R), (3, .R), (4, .R), (5, .R), (6, .R), (7, .R), (8, .R), (9, .R), (10, .R), (11, .R), (12, .R), (13, .X), (14, .W), (15, .R)]) mixed (by kernel_rfl) ?_
    repeat (first | refine DAL.r rfl rfl rfl (fun h' hx hn => op_moveI rfl ⟨rfl, rfl⟩) ?_ | refine DAL.r rfl rfl rfl (fun h' hx hn => op_moveS rfl ⟨rfl, rfl⟩) ?_ | refine DAL.r rfl rfl rfl (fun h' hx hn => op_indexND (rH.ext hx) rfl rfl (by omega) hf2 ⟨rfl, rfl⟩) ?_ | refine DAL.r rfl rfl rfl (fun h' hx hn => op_faN (hp.ext hx) rfl ⟨rfl, rfl⟩) ?_ | refine DAL.r rfl rfl rfl (fun h' hx hn => op_loadF0 (off := 0) (hp.ext hx) rfl rfl rfl ⟨rfl, rfl⟩) ?_ | refine DAL.r rfl rfl rfl (fun h' hx hn => op_loadF0 (off := 2) (hp.ext hx) rfl rfl rfl ⟨rfl, rfl⟩) ?_ | refine DAL.r rfl rfl rfl (fun h' hx hn => op_lenSB rfl ⟨rfl, rfl⟩) ?_ | refine DAL.r rfl rfl rfl (fun h' hx hn => op_buildS (out := keepR (f.1, (f.2.2.length : Int))) rfl rfl ⟨rfl, rfl⟩) ?_ | refine DAL.r rfl rfl rfl (fun h' hx hn => op_move (by conv => lhs; whnf) ⟨rfl, rfl⟩) ?_)
    refine DAL.x rfl rfl rfl (op_rowN1 (by show 2 ≤ 16777216; decide) (by show 0 < 2; decide) rfl rfl ?_)
    refine ⟨w4.ext _, ?_⟩
    refine DAL.heap (show _ = H.alloc (keBL f.1 (f.2.2.length : Int)) from rfl) ?_
    have hx3 := w4.ext (keBL f.1 (f.2.2.length : Int))
    have wf3 := w4.alloc (keBL f.1 (f.2.2.length : Int))
    have g3 := Heap.alloc_new H (keBL f.1 (f.2.2.length : Int))
    have n3 : (H.alloc (keBL f.1 (f.2.2.length : Int))).next = H.next + 1 := rfl
    generalize hH3 : H.alloc (keBL f.1 (f.2.2.length : Int)) = H3 at hx3 wf3 g3 n3 ⊢
    have r3 : RN 2 H3 (.slice (some ⟨H.next, 0, some 2⟩) 1 1) [keepR (f.1, (f.2.2.length : Int))] := RN.own (by intro r hr; rw [List.mem_singleton.1 hr]; rfl) g3 rfl
    refine DAL.w rfl rfl rfl (op_appendN (e := 69) (B := H2.next) (z := .agg #[.string ⟨#[]⟩, .int .i64 0]) rfl wf3 (by omega) (w2.ext hx3) rfl rfl r3.src rfl (by intro r hr; rw [List.mem_singleton.1 hr]; rfl) rfl (by unfold maxLen; show _ + 1 ≤ _; omega) (by show (_ + 1) * 24 ≤ _; omega) ?_)
    intro u' H4 hO _ hkp wf4 n4
    repeat (first | refine DAL.r rfl rfl rfl (fun h' hx hn => op_assign (v := u') rfl ⟨rfl, rfl⟩) ?_)
    refine DAL.nil ?_
    repeat (first | refine AL.nil ?_ | refine AWp.region ?_ | refine AL.set rfl rfl (op_moveI rfl ?_) | refine AL.set rfl rfl (op_assignI rfl ?_) | refine AL.set rfl rfl (op_add64 rfl rfl (by omega) ?_))
    exact ⟨(k + 1, u', H4), ⟨hk, by show ON _ _ _ _ _ ((allK (G.take (k + 1))).map keepR); rw [e1]; exact hO, Keeps.extN hkp (w2.ext hx3) wf2 (Nat.le_refl _) (w3.trans hx3), wf4, by show H2.next ≤ H4.next; omega⟩, by show G.length - (k + 1) < G.length - k; omega, Weak.same (EW.cons rfl (EW.cons rfl (EW.cons rfl (EW.cons rfl (EW.cons rfl (EW.cons rfl (EW.cons rfl (EW.cons rfl (EW.cons rfl EW.nil)))))))))⟩
  obtain rfl : k = G.length := by omega
  rw [List.take_length] at w2
  replace z := z.grow w3 w4
  have rK := w2.rn
  have hkl : (allK G).length ≤ 1000000 := by simp [allK]; omega
  have hkn : ∀ x ∈ allK G, x.1.length ≤ 4611686018427387904 := fun x hx => by
    obtain ⟨f, hf, rfl⟩ := List.mem_map.1 hx
    have := good_len (goodG f hf)
    show f.1.length ≤ _
    omega
  clear w2
  repeat (first | refine AL.nil ?_ | refine AWp.seq ?_ | refine AWp.region ?_ | refine AWp.condF rfl ?_ | refine AWp.exit ?_ | refine AL.set rfl rfl (op_moveI rfl ?_) | refine AL.set rfl rfl (op_moveS rfl ?_) | refine AL.set rfl rfl (op_moveP rfl ?_) | refine AL.set rfl rfl (op_lenN rH rfl ?_) | refine AL.set rfl rfl (op_intF rfl rfl rfl (by omega) ?_))
  refine AL.set rfl rfl (op_call rfl rfl ((crash_sm i mm rm l c F _ [] H z.dk z.sm (.inl ⟨rfl, rfl⟩) (by decide) (by simp) rfl rfl).mono ?_))
  rintro _ H4 ⟨ib, mb, lb, cb, rfl, q1, q2, ab, sb, hx4, wf4⟩
  replace z := z.grow hx4 wf4
  replace rK := rK.ext hx4
  repeat (first | refine AL.nil ?_ | refine AWp.seq ?_ | refine AWp.region ?_ | refine AL.set rfl rfl (op_moveP rfl ?_) | refine AL.set rfl rfl (op_moveT rfl ?_) | refine AL.set rfl rfl (op_assignI rfl ?_) | refine AL.set rfl rfl (op_assignP rfl ?_) | refine AL.set rfl rfl (op_extract rfl rfl ?_) | refine AL.set rfl rfl (op_move (by conv => lhs; whnf) ?_))
  refine AL.set rfl rfl (op_call rfl rfl ((crash_sm i mm rm l c F kv (allK G) H4 z.dk z.sm (RN.ks rK) hkl hkn (allK_bad nodG goodG) (allK_crash nodG goodG pG)).mono ?_))
  rintro _ H5 ⟨ic, mc, lc, cc, rfl, q3, q4, ac, sc, hx5, wf5⟩
  replace z := z.grow hx5 wf5
  replace ab := ab.ext hx5
  have rG5 := (rH.ext hx4).ext hx5
  have x25 : Ext H2 H5 := (w3.trans hx4).trans hx5
  repeat (first | refine AL.nil ?_ | refine AWp.seq ?_ | refine AWp.region ?_ | refine AWp.condF rfl ?_ | refine AWp.block ?_ | refine AWp.skip ?_ | refine AL.set rfl rfl (op_moveI rfl ?_) | refine AL.set rfl rfl (op_moveB rfl ?_) | refine AL.set rfl rfl (op_moveP rfl ?_) | refine AL.set rfl rfl (op_moveT rfl ?_) | refine AL.set rfl rfl (op_assignI rfl ?_) | refine AL.set rfl rfl (op_assignP rfl ?_) | refine AL.set rfl rfl (op_extract rfl rfl ?_) | refine AL.set rfl rfl (op_eqPtrNil rfl rfl ?_) | refine AL.set rfl rfl (op_pick (v := .bool _) rfl rfl ?_) | refine AL.set rfl rfl (op_callS rfl rfl (num_c _ H5) ?_) | refine AL.set rfl rfl (op_add64 rfl rfl (by omega) ?_) | refine AL.set rfl rfl (op_intF rfl rfl rfl (by exact fun e => e rfl) ?_))
  refine AWp.loop (α := Nat × Heap) (fun d => [(0, .int .i64 (rm : Nat)), (2, .string (bstr s)), (3, .int .i64 n), (4, .int .i64 m), (11, ptr i), (12, ptr j), (13, .slice ua G0 uc), (16, ptr ib), (18, ptr ic), (20, .int .i64 (d.1 : Nat))]) (fun d => d.2)
    (fun d => d.1 ≤ G.length ∧ Ext H5 d.2 ∧ WF d.2) (fun d => G.length - d.1) (0, H5)
    ⟨Nat.zero_le _, Ext.refl _, wf5⟩ (Weak.same (EW.cons rfl (EW.cons rfl (EW.cons rfl (EW.cons rfl (EW.cons rfl (EW.cons rfl (EW.cons rfl (EW.cons rfl (EW.cons rfl (EW.cons rfl EW.nil))))))))))) ?_
  clear rK hkl hkn hx4 hx5 wf4 w1 w3 w4 w5 rH rGn
  rintro ⟨k, H6⟩ ⟨w1, w3, w4⟩
  replace w1 : k ≤ G.length := w1
  replace w3 : Ext H5 H6 := w3
  replace w4 : WF H6 := w4
  show AWp _ _ _ _ [(0, .int .i64 (rm : Nat)), (2, .string (bstr s)), (3, .int .i64 n), (4, .int .i64 m), (11, ptr i), (12, ptr j), (13, .slice ua G0 uc), (16, ptr ib), (18, ptr ic), (20, .int .i64 (k : Nat))] H6
  have rH := rG5.ext w3
  by_cases hk : k < G.length
  · obtain ⟨f, hf1⟩ : ∃ f, G[k]? = some f := ⟨_, List.getElem?_eq_getElem hk⟩
    have hf2 := row_at hf1
    have hfl := lenG k f hf1
    have hfm := List.mem_of_getElem? hf1
    have hp := rH.elt hf2
    have hfn := good_len (goodG f hfm)
    obtain ⟨_, b1, b2⟩ := At.file (ab.ext w3) sb (crash_bare (pG.mem_iff.1 hfm))
    obtain ⟨_, c1, c2⟩ := At.file (ac.ext w3) sc (crash_full nodG pG hfm)
    simp only at b1 b2 c1 c2
    have cr := read_c ib mb rm lb cb f.1 H6 (ab.ext w3) (by omega)
    rw [b1, b2] at cr
    repeat (first | refine AL.nil ?_ | refine AWp.seq ?_ | refine AWp.region ?_ | refine AWp.condT rfl ?_ | refine AWp.block ?_ | refine AWp.skip ?_ | refine AL.set rfl rfl (op_moveI rfl ?_) | refine AL.set rfl rfl (op_moveS rfl ?_) | refine AL.set rfl rfl (op_moveP rfl ?_) | refine AL.set rfl rfl (op_lenN rH rfl ?_) | refine AL.set rfl rfl (op_intT rfl rfl rfl (by omega) ?_) | refine AL.set rfl rfl (op_indexND rH rfl rfl (by omega) hf2 ?_) | refine AL.set rfl rfl (op_faN hp rfl ?_) | refine AL.set rfl rfl (op_loadF0 (off := 0) hp rfl rfl rfl ?_))
    refine AL.set rfl rfl (op_call rfl rfl (cr.wf_post.mono ?_))
    rintro _ H7 ⟨⟨w7, rfl, o7, hx7⟩, wf7, _⟩
    replace o7 : RB H7 w7 f.2.1 := by have := o7.rb; simp only [allF, List.append_nil] at this; exact this
    obtain ⟨a7, c7, rfl⟩ := RS.slice o7
    have r7 := rH.ext hx7
    have p7 := hp.ext hx7
    have cr2 := read_c ic mc rm lc cc f.1 H7 ((ac.ext w3).ext hx7) (by omega)
    rw [c1, c2] at cr2
    repeat (first | refine AL.nil ?_ | refine AWp.seq ?_ | refine AWp.region ?_ | refine AL.set rfl rfl (op_moveI rfl ?_) | refine AL.set rfl rfl (op_moveS rfl ?_) | refine AL.set rfl rfl (op_moveP rfl ?_) | refine AL.set rfl rfl (op_moveT rfl ?_) | refine AL.set rfl rfl (op_assignI rfl ?_) | refine AL.set rfl rfl (op_assignS rfl ?_) | refine AL.set rfl rfl (op_extract rfl rfl ?_) | refine AL.set rfl rfl (op_indexND r7 rfl rfl (by omega) hf2 ?_) | refine AL.set rfl rfl (op_faN p7 rfl ?_) | refine AL.set rfl rfl (op_loadF0 (off := 0) p7 rfl rfl rfl ?_))
    refine AL.set rfl rfl (op_call rfl rfl (cr2.wf_post.mono ?_))
    rintro _ H8 ⟨⟨w8, rfl, o8, hx8⟩, wf8, _⟩
    replace o8 : RB H8 w8 (f.2.1 ++ f.2.2) := by have := o8.rb; simp only [allF, List.append_nil] at this; exact this
    obtain ⟨a8, c8, rfl⟩ := RS.slice o8
    have r8 := r7.ext hx8
    have p8 := p7.ext hx8
    replace o7 := o7.ext hx8
    repeat (first | refine AL.nil ?_ | refine AWp.seq ?_ | refine AL.set rfl rfl (op_moveT rfl ?_) | refine AL.set rfl rfl (op_assignI rfl ?_) | refine AL.set rfl rfl (op_assignS rfl ?_) | refine AL.set rfl rfl (op_extract rfl rfl ?_))
    refine AWp.draw (σ := [(0, .R), (1, .R), (2, .R), (3, .R), (4, .R), (5, .R), (6, .R), (7, .R), (8, .R), (9, .R), (10, .R), (11, .R), (12, .R), (13, .R), (14, .R), (15, .R), (16, .R), (17, .R)]) mixed (by kernel_rfl) ?_
    repeat (first | refine DAL.r rfl rfl rfl (fun h' hx hn => op_moveI rfl ⟨rfl, rfl⟩) ?_ | refine DAL.r rfl rfl rfl (fun h' hx hn => op_moveS rfl ⟨rfl, rfl⟩) ?_ | refine DAL.r rfl rfl rfl (fun h' hx hn => op_moveB rfl ⟨rfl, rfl⟩) ?_ | refine DAL.r rfl rfl rfl (fun h' hx hn => op_bytesStrR (o7.ext hx) rfl ⟨rfl, rfl⟩) ?_ | refine DAL.r rfl rfl rfl (fun h' hx hn => op_bytesStrR (o8.ext hx) rfl ⟨rfl, rfl⟩) ?_ | refine DAL.r rfl rfl rfl (fun h' hx hn => op_indexND (r8.ext hx) rfl rfl (by omega) hf2 ⟨rfl, rfl⟩) ?_ | refine DAL.r rfl rfl rfl (fun h' hx hn => op_faN (p8.ext hx) rfl ⟨rfl, rfl⟩) ?_ | refine DAL.r rfl rfl rfl (fun h' hx hn => op_loadF0 (off := 1) (p8.ext hx) rfl rfl rfl ⟨rfl, rfl⟩) ?_ | refine DAL.r rfl rfl rfl (fun h' hx hn => op_loadN (p8.ext hx) rfl rfl rfl ⟨rfl, rfl⟩) ?_ | refine DAL.r rfl rfl rfl (fun h' hx hn => op_callS rfl rfl (rall_c f h' (by omega)) ⟨rfl, rfl⟩) ?_ | refine DAL.r rfl rfl rfl (fun h' hx hn => op_sNeF rfl rfl rfl ⟨rfl, rfl⟩) ?_ | refine DAL.r rfl rfl rfl (fun h' hx hn => op_pick (v := .bool _) rfl rfl ⟨rfl, rfl⟩) ?_)
    refine DAL.nil ?_
    repeat (first | refine AL.nil ?_ | refine AWp.region ?_ | refine AWp.condF rfl ?_ | refine AWp.skip ?_ | refine AL.set rfl rfl (op_moveI rfl ?_) | refine AL.set rfl rfl (op_assignI rfl ?_) | refine AL.set rfl rfl (op_add64 rfl rfl (by omega) ?_))
    exact ⟨(k + 1, H8), ⟨hk, (w3.trans hx7).trans hx8, wf8⟩, by show G.length - (k + 1) < G.length - k; omega, Weak.same (EW.cons rfl (EW.cons rfl (EW.cons rfl (EW.cons rfl (EW.cons rfl (EW.cons rfl (EW.cons rfl (EW.cons rfl (EW.cons rfl (EW.cons rfl EW.nil))))))))))⟩
  obtain rfl : k = G.length := by omega
  replace z := z.grow w3 w4
  have rGn := rH
  repeat (first | refine AL.nil ?_ | refine AWp.seq ?_ | refine AWp.region ?_ | refine AWp.condF rfl ?_ | refine AWp.exit ?_ | refine AL.set rfl rfl (op_moveI rfl ?_) | refine AL.set rfl rfl (op_moveS rfl ?_) | refine AL.set rfl rfl (op_moveP rfl ?_) | refine AL.set rfl rfl (op_moveStr rfl ?_) | refine AL.set rfl rfl (op_moveT rfl ?_) | refine AL.set rfl rfl (op_lenN rH rfl ?_) | refine AL.set rfl rfl (op_intF rfl rfl rfl (by omega) ?_) | refine AL.set rfl rfl (op_callS rfl rfl (seek_c j rm v F s H6 z.rk hs) ?_))
  clear rH rG5 ab ac sb sc q1 q2 q3 q4
  rcases eR_cases F s with ⟨h1, h1', _⟩ | ⟨h1, _, _⟩ | ⟨i0, x, h1, h1', h1g, h1s, h1x, h1n⟩
  · rw [h1, h1']
    repeat (first | refine AL.nil ?_ | refine AWp.seq ?_ | refine AWp.region ?_ | refine AL.set rfl rfl (op_moveI rfl ?_) | refine AL.set rfl rfl (op_moveP rfl ?_) | refine AL.set rfl rfl (op_moveStr rfl ?_) | refine AL.set rfl rfl (op_assignI rfl ?_) | refine AL.set rfl rfl (op_extract rfl rfl ?_) | refine AL.set rfl rfl (op_buildS (out := keepR (s, n)) rfl rfl ?_))
    refine AL.set rfl rfl (op_rowN1 (by show 2 ≤ 16777216; decide) (by show 0 < 2; decide) rfl rfl ?_)
    refine AL.heap (show _ = H6.alloc (keBL s n) from rfl) ?_
    have hxH7 := z.wf.ext (keBL s n)
    have gH7 := Heap.alloc_new H6 (keBL s n)
    replace z := z.grow hxH7 (z.wf.alloc _)
    generalize H6.alloc (keBL s n) = H7 at hxH7 gH7 z ⊢
    have hkH7 : KS H7 (.slice (some ⟨H6.next, 0, some 2⟩) 1 1) [(s, n)] := RN.ks (RN.own (keeps_len [(s, n)]) gH7 rfl)
    generalize H6.next = nH7 at gH7 hkH7 ⊢
    replace rGn := rGn.ext hxH7
    refine AL.set rfl rfl (op_call rfl rfl ((crash_any i mm rm l c F _ [(s, n)] _ z.dk z.sm hkH7 (by simp) (by simpa using hs)).mono ?_))
    rintro _ H8 ⟨⟨p8, e8, rfl⟩, hx8, wf8⟩
    replace z := z.grow hx8 wf8
    replace rGn := rGn.ext hx8
    repeat (first | refine AL.nil ?_ | refine AWp.seq ?_ | refine AWp.region ?_ | refine AL.set rfl rfl (op_moveI rfl ?_) | refine AL.set rfl rfl (op_moveP rfl ?_) | refine AL.set rfl rfl (op_moveStr rfl ?_) | refine AL.set rfl rfl (op_moveT rfl ?_) | refine AL.set rfl rfl (op_assignI rfl ?_) | refine AL.set rfl rfl (op_assignP rfl ?_) | refine AL.set rfl rfl (op_extract rfl rfl ?_) | refine AL.set rfl rfl (op_buildS (out := keepR (s, m)) rfl rfl ?_))
    refine AL.set rfl rfl (op_rowN1 (by show 2 ≤ 16777216; decide) (by show 0 < 2; decide) rfl rfl ?_)
    refine AL.heap (show _ = H8.alloc (keBL s m) from rfl) ?_
    have hxH9 := z.wf.ext (keBL s m)
    have gH9 := Heap.alloc_new H8 (keBL s m)
    replace z := z.grow hxH9 (z.wf.alloc _)
    generalize H8.alloc (keBL s m) = H9 at hxH9 gH9 z ⊢
    have hkH9 : KS H9 (.slice (some ⟨H8.next, 0, some 2⟩) 1 1) [(s, m)] := RN.ks (RN.own (keeps_len [(s, m)]) gH9 rfl)
    generalize H8.next = nH9 at gH9 hkH9 ⊢
    replace rGn := rGn.ext hxH9
    refine AL.set rfl rfl (op_call rfl rfl ((crash_any i mm rm l c F _ [(s, m)] _ z.dk z.sm hkH9 (by simp) (by simpa using hs)).mono ?_))
    rintro _ H10 ⟨⟨p10, e10, rfl⟩, hx10, wf10⟩
    replace z := z.grow hx10 wf10
    replace rGn := rGn.ext hx10
    repeat (first | refine AL.nil ?_ | refine AL.skip rfl rfl ?_ | refine AWp.seq ?_ | refine AWp.region ?_ | refine AWp.condT rfl ?_ | refine AWp.ret ?_ | refine AL.set rfl rfl (op_moveI rfl ?_) | refine AL.set rfl rfl (op_moveS rfl ?_) | refine AL.set rfl rfl (op_moveB rfl ?_) | refine AL.set rfl rfl (op_moveP rfl ?_) | refine AL.set rfl rfl (op_moveT rfl ?_) | refine AL.set rfl rfl (op_assignI rfl ?_) | refine AL.set rfl rfl (op_assignB rfl ?_) | refine AL.set rfl rfl (op_assignP rfl ?_) | refine AL.set rfl rfl (op_extract rfl rfl ?_) | refine AL.set rfl rfl (op_intT rfl rfl rfl (by omega) ?_) | refine AL.set rfl rfl (op_pick (v := .bool _) rfl rfl ?_) | refine AL.set rfl rfl (op_callS rfl rfl (has_c i mm rm l c (.slice ua G0 uc) G H10 z.dk lG rGn) ?_) | refine AL.set rfl rfl (op_callS rfl rfl (known_c H10) ?_))
    exact ⟨_, ResV.tmp rfl, rfl⟩
  · rw [h1]
    generalize iR F s = ii
    repeat (first | refine AL.nil ?_ | refine AWp.seq ?_ | refine AWp.region ?_ | refine AL.set rfl rfl (op_moveI rfl ?_) | refine AL.set rfl rfl (op_moveP rfl ?_) | refine AL.set rfl rfl (op_moveStr rfl ?_) | refine AL.set rfl rfl (op_assignI rfl ?_) | refine AL.set rfl rfl (op_extract rfl rfl ?_) | refine AL.set rfl rfl (op_buildS (out := keepR (s, n)) rfl rfl ?_))
    refine AL.set rfl rfl (op_rowN1 (by show 2 ≤ 16777216; decide) (by show 0 < 2; decide) rfl rfl ?_)
    refine AL.heap (show _ = H6.alloc (keBL s n) from rfl) ?_
    have hxH7 := z.wf.ext (keBL s n)
    have gH7 := Heap.alloc_new H6 (keBL s n)
    replace z := z.grow hxH7 (z.wf.alloc _)
    generalize H6.alloc (keBL s n) = H7 at hxH7 gH7 z ⊢
    have hkH7 : KS H7 (.slice (some ⟨H6.next, 0, some 2⟩) 1 1) [(s, n)] := RN.ks (RN.own (keeps_len [(s, n)]) gH7 rfl)
    generalize H6.next = nH7 at gH7 hkH7 ⊢
    replace rGn := rGn.ext hxH7
    refine AL.set rfl rfl (op_call rfl rfl ((crash_any i mm rm l c F _ [(s, n)] _ z.dk z.sm hkH7 (by simp) (by simpa using hs)).mono ?_))
    rintro _ H8 ⟨⟨p8, e8, rfl⟩, hx8, wf8⟩
    replace z := z.grow hx8 wf8
    replace rGn := rGn.ext hx8
    repeat (first | refine AL.nil ?_ | refine AWp.seq ?_ | refine AWp.region ?_ | refine AL.set rfl rfl (op_moveI rfl ?_) | refine AL.set rfl rfl (op_moveP rfl ?_) | refine AL.set rfl rfl (op_moveStr rfl ?_) | refine AL.set rfl rfl (op_moveT rfl ?_) | refine AL.set rfl rfl (op_assignI rfl ?_) | refine AL.set rfl rfl (op_assignP rfl ?_) | refine AL.set rfl rfl (op_extract rfl rfl ?_) | refine AL.set rfl rfl (op_buildS (out := keepR (s, m)) rfl rfl ?_))
    refine AL.set rfl rfl (op_rowN1 (by show 2 ≤ 16777216; decide) (by show 0 < 2; decide) rfl rfl ?_)
    refine AL.heap (show _ = H8.alloc (keBL s m) from rfl) ?_
    have hxH9 := z.wf.ext (keBL s m)
    have gH9 := Heap.alloc_new H8 (keBL s m)
    replace z := z.grow hxH9 (z.wf.alloc _)
    generalize H8.alloc (keBL s m) = H9 at hxH9 gH9 z ⊢
    have hkH9 : KS H9 (.slice (some ⟨H8.next, 0, some 2⟩) 1 1) [(s, m)] := RN.ks (RN.own (keeps_len [(s, m)]) gH9 rfl)
    generalize H8.next = nH9 at gH9 hkH9 ⊢
    replace rGn := rGn.ext hxH9
    refine AL.set rfl rfl (op_call rfl rfl ((crash_any i mm rm l c F _ [(s, m)] _ z.dk z.sm hkH9 (by simp) (by simpa using hs)).mono ?_))
    rintro _ H10 ⟨⟨p10, e10, rfl⟩, hx10, wf10⟩
    replace z := z.grow hx10 wf10
    replace rGn := rGn.ext hx10
    repeat (first | refine AL.nil ?_ | refine AL.skip rfl rfl ?_ | refine AWp.seq ?_ | refine AWp.region ?_ | refine AWp.condT rfl ?_ | refine AWp.ret ?_ | refine AL.set rfl rfl (op_moveI rfl ?_) | refine AL.set rfl rfl (op_moveS rfl ?_) | refine AL.set rfl rfl (op_moveB rfl ?_) | refine AL.set rfl rfl (op_moveP rfl ?_) | refine AL.set rfl rfl (op_moveT rfl ?_) | refine AL.set rfl rfl (op_assignI rfl ?_) | refine AL.set rfl rfl (op_assignB rfl ?_) | refine AL.set rfl rfl (op_assignP rfl ?_) | refine AL.set rfl rfl (op_extract rfl rfl ?_) | refine AL.set rfl rfl (op_intT rfl rfl rfl (by omega) ?_) | refine AL.set rfl rfl (op_pick (v := .bool _) rfl rfl ?_) | refine AL.set rfl rfl (op_callS rfl rfl (has_c i mm rm l c (.slice ua G0 uc) G H10 z.dk lG rGn) ?_) | refine AL.set rfl rfl (op_callS rfl rfl (known_c H10) ?_))
    exact ⟨_, ResV.tmp rfl, rfl⟩
  rw [h1, h1']
  by_cases hn0 : n < 0
  · repeat (first | refine AL.nil ?_ | refine AWp.seq ?_ | refine AWp.region ?_ | refine AL.set rfl rfl (op_moveI rfl ?_) | refine AL.set rfl rfl (op_moveP rfl ?_) | refine AL.set rfl rfl (op_moveStr rfl ?_) | refine AL.set rfl rfl (op_assignI rfl ?_) | refine AL.set rfl rfl (op_extract rfl rfl ?_) | refine AL.set rfl rfl (op_buildS (out := keepR (s, n)) rfl rfl ?_))
    refine AL.set rfl rfl (op_rowN1 (by show 2 ≤ 16777216; decide) (by show 0 < 2; decide) rfl rfl ?_)
    refine AL.heap (show _ = H6.alloc (keBL s n) from rfl) ?_
    have hxH7 := z.wf.ext (keBL s n)
    have gH7 := Heap.alloc_new H6 (keBL s n)
    replace z := z.grow hxH7 (z.wf.alloc _)
    generalize H6.alloc (keBL s n) = H7 at hxH7 gH7 z ⊢
    have hkH7 : KS H7 (.slice (some ⟨H6.next, 0, some 2⟩) 1 1) [(s, n)] := RN.ks (RN.own (keeps_len [(s, n)]) gH7 rfl)
    generalize H6.next = nH7 at gH7 hkH7 ⊢
    replace rGn := rGn.ext hxH7
    refine AL.set rfl rfl (op_call rfl rfl ((crash_any i mm rm l c F _ [(s, n)] _ z.dk z.sm hkH7 (by simp) (by simpa using hs)).mono ?_))
    rintro _ H8 ⟨⟨p8, e8, rfl⟩, hx8, wf8⟩
    replace z := z.grow hx8 wf8
    replace rGn := rGn.ext hx8
    repeat (first | refine AL.nil ?_ | refine AWp.seq ?_ | refine AWp.region ?_ | refine AL.set rfl rfl (op_moveI rfl ?_) | refine AL.set rfl rfl (op_moveP rfl ?_) | refine AL.set rfl rfl (op_moveStr rfl ?_) | refine AL.set rfl rfl (op_moveT rfl ?_) | refine AL.set rfl rfl (op_assignI rfl ?_) | refine AL.set rfl rfl (op_assignP rfl ?_) | refine AL.set rfl rfl (op_extract rfl rfl ?_) | refine AL.set rfl rfl (op_buildS (out := keepR (s, m)) rfl rfl ?_))
    refine AL.set rfl rfl (op_rowN1 (by show 2 ≤ 16777216; decide) (by show 0 < 2; decide) rfl rfl ?_)
    refine AL.heap (show _ = H8.alloc (keBL s m) from rfl) ?_
    have hxH9 := z.wf.ext (keBL s m)
    have gH9 := Heap.alloc_new H8 (keBL s m)
    replace z := z.grow hxH9 (z.wf.alloc _)
    generalize H8.alloc (keBL s m) = H9 at hxH9 gH9 z ⊢
    have hkH9 : KS H9 (.slice (some ⟨H8.next, 0, some 2⟩) 1 1) [(s, m)] := RN.ks (RN.own (keeps_len [(s, m)]) gH9 rfl)
    generalize H8.next = nH9 at gH9 hkH9 ⊢
    replace rGn := rGn.ext hxH9
    refine AL.set rfl rfl (op_call rfl rfl ((crash_any i mm rm l c F _ [(s, m)] _ z.dk z.sm hkH9 (by simp) (by simpa using hs)).mono ?_))
    rintro _ H10 ⟨⟨p10, e10, rfl⟩, hx10, wf10⟩
    replace z := z.grow hx10 wf10
    replace rGn := rGn.ext hx10
    repeat (first | refine AL.nil ?_ | refine AL.skip rfl rfl ?_ | refine AWp.seq ?_ | refine AWp.region ?_ | refine AWp.condT rfl ?_ | refine AWp.ret ?_ | refine AL.set rfl rfl (op_moveI rfl ?_) | refine AL.set rfl rfl (op_moveS rfl ?_) | refine AL.set rfl rfl (op_moveB rfl ?_) | refine AL.set rfl rfl (op_moveP rfl ?_) | refine AL.set rfl rfl (op_moveT rfl ?_) | refine AL.set rfl rfl (op_assignI rfl ?_) | refine AL.set rfl rfl (op_assignB rfl ?_) | refine AL.set rfl rfl (op_assignP rfl ?_) | refine AL.set rfl rfl (op_extract rfl rfl ?_) | refine AL.set rfl rfl (op_intT rfl rfl rfl (by omega) ?_) | refine AL.set rfl rfl (op_intF rfl rfl rfl (by omega) ?_) | refine AL.set rfl rfl (op_pick (v := .bool _) rfl rfl ?_) | refine AL.set rfl rfl (op_callS rfl rfl (has_c i mm rm l c (.slice ua G0 uc) G H10 z.dk lG rGn) ?_) | refine AL.set rfl rfl (op_callS rfl rfl (known_c H10) ?_))
    exact ⟨_, ResV.tmp rfl, rfl⟩
  by_cases hnm : m < n
  · repeat (first | refine AL.nil ?_ | refine AWp.seq ?_ | refine AWp.region ?_ | refine AL.set rfl rfl (op_moveI rfl ?_) | refine AL.set rfl rfl (op_moveP rfl ?_) | refine AL.set rfl rfl (op_moveStr rfl ?_) | refine AL.set rfl rfl (op_assignI rfl ?_) | refine AL.set rfl rfl (op_extract rfl rfl ?_) | refine AL.set rfl rfl (op_buildS (out := keepR (s, n)) rfl rfl ?_))
    refine AL.set rfl rfl (op_rowN1 (by show 2 ≤ 16777216; decide) (by show 0 < 2; decide) rfl rfl ?_)
    refine AL.heap (show _ = H6.alloc (keBL s n) from rfl) ?_
    have hxH7 := z.wf.ext (keBL s n)
    have gH7 := Heap.alloc_new H6 (keBL s n)
    replace z := z.grow hxH7 (z.wf.alloc _)
    generalize H6.alloc (keBL s n) = H7 at hxH7 gH7 z ⊢
    have hkH7 : KS H7 (.slice (some ⟨H6.next, 0, some 2⟩) 1 1) [(s, n)] := RN.ks (RN.own (keeps_len [(s, n)]) gH7 rfl)
    generalize H6.next = nH7 at gH7 hkH7 ⊢
    replace rGn := rGn.ext hxH7
    refine AL.set rfl rfl (op_call rfl rfl ((crash_any i mm rm l c F _ [(s, n)] _ z.dk z.sm hkH7 (by simp) (by simpa using hs)).mono ?_))
    rintro _ H8 ⟨⟨p8, e8, rfl⟩, hx8, wf8⟩
    replace z := z.grow hx8 wf8
    replace rGn := rGn.ext hx8
    repeat (first | refine AL.nil ?_ | refine AWp.seq ?_ | refine AWp.region ?_ | refine AL.set rfl rfl (op_moveI rfl ?_) | refine AL.set rfl rfl (op_moveP rfl ?_) | refine AL.set rfl rfl (op_moveStr rfl ?_) | refine AL.set rfl rfl (op_moveT rfl ?_) | refine AL.set rfl rfl (op_assignI rfl ?_) | refine AL.set rfl rfl (op_assignP rfl ?_) | refine AL.set rfl rfl (op_extract rfl rfl ?_) | refine AL.set rfl rfl (op_buildS (out := keepR (s, m)) rfl rfl ?_))
    refine AL.set rfl rfl (op_rowN1 (by show 2 ≤ 16777216; decide) (by show 0 < 2; decide) rfl rfl ?_)
    refine AL.heap (show _ = H8.alloc (keBL s m) from rfl) ?_
    have hxH9 := z.wf.ext (keBL s m)
    have gH9 := Heap.alloc_new H8 (keBL s m)
    replace z := z.grow hxH9 (z.wf.alloc _)
    generalize H8.alloc (keBL s m) = H9 at hxH9 gH9 z ⊢
    have hkH9 : KS H9 (.slice (some ⟨H8.next, 0, some 2⟩) 1 1) [(s, m)] := RN.ks (RN.own (keeps_len [(s, m)]) gH9 rfl)
    generalize H8.next = nH9 at gH9 hkH9 ⊢
    replace rGn := rGn.ext hxH9
    refine AL.set rfl rfl (op_call rfl rfl ((crash_any i mm rm l c F _ [(s, m)] _ z.dk z.sm hkH9 (by simp) (by simpa using hs)).mono ?_))
    rintro _ H10 ⟨⟨p10, e10, rfl⟩, hx10, wf10⟩
    replace z := z.grow hx10 wf10
    replace rGn := rGn.ext hx10
    repeat (first | refine AL.nil ?_ | refine AWp.seq ?_ | refine AWp.region ?_ | refine AWp.condT rfl ?_ | refine AWp.ret ?_ | refine AL.set rfl rfl (op_moveI rfl ?_) | refine AL.set rfl rfl (op_moveS rfl ?_) | refine AL.set rfl rfl (op_moveB rfl ?_) | refine AL.set rfl rfl (op_moveP rfl ?_) | refine AL.set rfl rfl (op_moveT rfl ?_) | refine AL.set rfl rfl (op_assignI rfl ?_) | refine AL.set rfl rfl (op_assignB rfl ?_) | refine AL.set rfl rfl (op_assignP rfl ?_) | refine AL.set rfl rfl (op_extract rfl rfl ?_) | refine AL.set rfl rfl (op_intT rfl rfl rfl (by omega) ?_) | refine AL.set rfl rfl (op_intF rfl rfl rfl (by omega) ?_) | refine AL.set rfl rfl (op_pick (v := .bool _) rfl rfl ?_) | refine AL.set rfl rfl (op_callS rfl rfl (has_c i mm rm l c (.slice ua G0 uc) G H10 z.dk lG rGn) ?_) | refine AL.set rfl rfl (op_callS rfl rfl (known_c H10) ?_))
    exact ⟨_, ResV.tmp rfl, rfl⟩
  have hn0' : 0 ≤ n := by omega
  have hm0' : 0 ≤ m := by omega
  repeat (first | refine AL.nil ?_ | refine AWp.seq ?_ | refine AWp.region ?_ | refine AL.set rfl rfl (op_moveI rfl ?_) | refine AL.set rfl rfl (op_moveP rfl ?_) | refine AL.set rfl rfl (op_moveStr rfl ?_) | refine AL.set rfl rfl (op_assignI rfl ?_) | refine AL.set rfl rfl (op_extract rfl rfl ?_) | refine AL.set rfl rfl (op_buildS (out := keepR (s, n)) rfl rfl ?_))
  refine AL.set rfl rfl (op_rowN1 (by show 2 ≤ 16777216; decide) (by show 0 < 2; decide) rfl rfl ?_)
  refine AL.heap (show _ = H6.alloc (keBL s n) from rfl) ?_
  have hxH7 := z.wf.ext (keBL s n)
  have gH7 := Heap.alloc_new H6 (keBL s n)
  replace z := z.grow hxH7 (z.wf.alloc _)
  generalize H6.alloc (keBL s n) = H7 at hxH7 gH7 z ⊢
  have hkH7 : KS H7 (.slice (some ⟨H6.next, 0, some 2⟩) 1 1) [(s, n)] := RN.ks (RN.own (keeps_len [(s, n)]) gH7 rfl)
  generalize H6.next = nH7 at gH7 hkH7 ⊢
  refine AL.set rfl rfl (op_call rfl rfl ((crash_sm i mm rm l c F _ [(s, n)] _ z.dk z.sm hkH7 (by simp) (by simpa using hs) (bad_one h1g hn0') (crashE_one h1g h1s hn0')).mono ?_))
  rintro _ H8 ⟨ia, ma, la, ca, rfl, q1, q2, aa, sa, hx8, wf8⟩
  have lz7 := z.dk.lt z.wf
  have t7 := ON.lt (oG.ext ((x25.trans w3).trans hxH7)) z.wf
  replace z := z.grow hx8 wf8
  repeat (first | refine AL.nil ?_ | refine AWp.seq ?_ | refine AWp.region ?_ | refine AL.set rfl rfl (op_moveI rfl ?_) | refine AL.set rfl rfl (op_moveP rfl ?_) | refine AL.set rfl rfl (op_moveStr rfl ?_) | refine AL.set rfl rfl (op_moveT rfl ?_) | refine AL.set rfl rfl (op_assignI rfl ?_) | refine AL.set rfl rfl (op_assignP rfl ?_) | refine AL.set rfl rfl (op_extract rfl rfl ?_) | refine AL.set rfl rfl (op_buildS (out := keepR (s, m)) rfl rfl ?_))
  refine AL.set rfl rfl (op_rowN1 (by show 2 ≤ 16777216; decide) (by show 0 < 2; decide) rfl rfl ?_)
  refine AL.heap (show _ = H8.alloc (keBL s m) from rfl) ?_
  have hxH9 := z.wf.ext (keBL s m)
  have gH9 := Heap.alloc_new H8 (keBL s m)
  replace z := z.grow hxH9 (z.wf.alloc _)
  generalize H8.alloc (keBL s m) = H9 at hxH9 gH9 z ⊢
  have hkH9 : KS H9 (.slice (some ⟨H8.next, 0, some 2⟩) 1 1) [(s, m)] := RN.ks (RN.own (keeps_len [(s, m)]) gH9 rfl)
  generalize H8.next = nH9 at gH9 hkH9 ⊢
  replace aa := aa.ext hxH9
  have wf9 := z.wf
  have lz9 := z.dk.lt wf9
  have la9 := aa.lt wf9
  have oN := oG.ext ((((x25.trans w3).trans hxH7).trans hx8).trans hxH9)
  have tG := ON.lt oN wf9
  refine AL.set rfl rfl (op_call rfl rfl ((crash_sm i mm rm l c F _ [(s, m)] _ z.dk z.sm hkH9 (by simp) (by simpa using hs) (bad_one h1g hm0') (crashE_one h1g h1s hm0')).mono ?_))
  rintro _ H10 ⟨ib, mb, lb, cb, rfl, q3, q4, ab, sb, hx10, wf10⟩
  replace z := z.grow hx10 wf10
  replace aa := aa.ext hx10
  have rN := (oN.ext hx10).rn
  have e1 : i ≠ ib := by omega
  have e2 : mm ≠ mb := by omega
  have e3 : ia ≠ ib := by omega
  have e4 : ma ≠ mb := by omega
  have e5 : i ≠ ia := by omega
  have e6 : mm ≠ ma := by omega
  have e7 : vblk (.slice ua G0 uc) ≠ some ib := fun e => by have := tG _ e; omega
  have e8 : vblk (.slice ua G0 uc) ≠ some ia := fun e => by have := t7 _ e; omega
  clear tG oN hkH7 hkH9 gH7 gH9 hx8 hx10 hxH7 hxH9
  have hxF := List.mem_of_getElem? h1x
  have hma := crash_one (n := n) hxF h1n
  have hmb := crash_one (n := m) hxF h1n
  obtain ⟨ha1, ha2, ha3⟩ := At.file aa sa hma
  obtain ⟨hb1, hb2, hb3⟩ := At.file ab sb hmb
  have hfa := (Sm.file sa aa.ok.names hma).1
  obtain ⟨_, hd2, hd3⟩ := At.file z.dk z.sm hxF
  rw [h1n] at hd2 hd3
  have hsame : ∀ t, t ≠ s → getS la t = getS lb t := fun t ht => crash_same sa sb aa.ok.names ab.ok.names ht
  simp only at ha1 ha2 ha3 hb1 hb2 hb3 hfa
  have hXW : x.2.1 ++ x.2.2.take (min n x.2.2.length).toNat <+: x.2.1 ++ x.2.2 := (List.prefix_append_right_inj _).2 (List.take_prefix _ _)
  generalize x.2.1 ++ x.2.2.take (min n x.2.2.length).toNat = X at hfa hXW
  have cb1 := remove_c ib mb rm lb cb s H10 ab hs
  rw [hb2] at cb1
  have zd := z.dk
  have k1 := st_ch (room := rm) (l := delS lb s) (c := cb) wf10 (ab.lt wf10).1 (ab.lt wf10).2
  have lW := z.sm.trans pG.symm
  repeat (first | refine AL.nil ?_ | refine AWp.seq ?_ | refine AWp.region ?_ | refine AWp.condF rfl ?_ | refine AWp.skip ?_ | refine AL.set rfl rfl (op_moveI rfl ?_) | refine AL.set rfl rfl (op_moveB rfl ?_) | refine AL.set rfl rfl (op_moveP rfl ?_) | refine AL.set rfl rfl (op_moveStr rfl ?_) | refine AL.set rfl rfl (op_moveT rfl ?_) | refine AL.set rfl rfl (op_assignI rfl ?_) | refine AL.set rfl rfl (op_assignP rfl ?_) | refine AL.set rfl rfl (op_extract rfl rfl ?_) | refine AL.set rfl rfl (op_intF rfl rfl rfl (by omega) ?_) | refine AL.set rfl rfl (op_pick (v := .bool _) rfl rfl ?_) | refine AL.set rfl rfl (op_eqPtrNil rfl rfl ?_) | refine AL.set rfl rfl (op_callS rfl rfl (num_c _ H10) ?_) | refine AL.set rfl rfl (op_add64 rfl rfl (by omega) ?_))
  refine AL.set rfl rfl (op_call rfl rfl (cb1.mono ?_))
  rintro _ _ ⟨rfl, rfl⟩
  replace zd := At.chL zd k1 e1 e2
  replace aa := At.chL aa k1 e3 e4
  replace rN := RN.chL rN k1 e7
  have ab1 : At (stD H10 ib mb rm (delS lb s) cb) ib mb rm (delS lb s) cb := At.st (ab.ok.del s) ab.big
  have wf11 := k1.wf
  generalize stD H10 ib mb rm (delS lb s) cb = H11 at zd aa rN ab1 wf11 ⊢
  have ca1 := sync_c ia ma rm la ca s H11 aa hs
  rw [ha2] at ca1
  have hS : syncL la ca s = putD la s (allF (fileOf la s), []) ca := by unfold syncL; rw [if_pos ha2]
  have k2 := st_ch (room := rm) (l := syncL la ca s) (c := syncC la ca s) wf11 (aa.lt wf11).1 (aa.lt wf11).2
  repeat (first | refine AL.set rfl rfl (op_moveP rfl ?_) | refine AL.set rfl rfl (op_moveStr rfl ?_) | refine AL.set rfl rfl (op_callS rfl rfl (num_c _ H11) ?_))
  refine AL.set rfl rfl (op_call rfl rfl (ca1.mono ?_))
  rintro _ _ ⟨rfl, rfl⟩
  replace zd := At.chL zd k2 e5 e6
  replace ab1 := At.chL ab1 k2 (Ne.symm e3) (Ne.symm e4)
  replace rN := RN.chL rN k2 e8
  have aa1 : At (stD H11 ia ma rm (syncL la ca s) (syncC la ca s)) ia ma rm (syncL la ca s) (syncC la ca s) := At.st (DOk.syncL aa.ok s) aa.big
  have wf12 := k2.wf
  have hgs : ∀ t, t ≠ s → getS (syncL la ca s) t = getS lb t := fun t ht => (sync_get aa.ok.names ht).trans (hsame t ht)
  have hf1 : getS (syncL la ca s) s = some (X, []) := by
    rw [hS, getS_putD aa.ok.names, if_pos rfl, hfa]
    simp [allF]
  generalize stD H11 ia ma rm (syncL la ca s) (syncC la ca s) = H12 at zd aa1 rN ab1 wf12 ⊢
  generalize syncL la ca s = l3 at aa1 hgs hf1 ⊢
  generalize syncC la ca s = c3 at aa1 ⊢
  have ho1 : openE l3 s [] = 0 := by unfold openE; rw [h1g, has_getS, hf1]; rfl
  have ho2 : openF l3 s [] = (X, []) := by unfold openF fileOf; rw [if_pos ho1, hf1]; rfl
  clear hS hsame ca1 cb1 k1 k2 aa sa sb hb3 ha3 hfa
  have cr := read_c ia ma rm l3 c3 s H12 aa1 hs
  rw [ho1, ho2] at cr
  repeat (first | refine AL.nil ?_ | refine AWp.seq ?_ | refine AWp.region ?_ | refine AWp.condF rfl ?_ | refine AWp.skip ?_ | refine AL.set rfl rfl (op_moveP rfl ?_) | refine AL.set rfl rfl (op_moveStr rfl ?_) | refine AL.set rfl rfl (op_callS rfl rfl (num_c _ H12) ?_) | refine AL.set rfl rfl (op_add64 rfl rfl (by omega) ?_) | refine AL.set rfl rfl (op_intF rfl rfl rfl (by exact fun e => e rfl) ?_) | refine AL.set rfl rfl (op_pick (v := .bool _) rfl rfl ?_))
  refine AL.set rfl rfl (op_call rfl rfl (cr.wf_post.mono ?_))
  rintro _ H13 ⟨⟨w13, rfl, o13, hx13⟩, wf13, _⟩
  replace o13 : RB H13 w13 X := by have := o13.rb; simp only [allF, List.append_nil] at this; exact this
  obtain ⟨a13, c13, rfl⟩ := RS.slice o13
  generalize (bv X).length = x13 at o13 ⊢
  replace zd := zd.ext hx13
  replace ab1 := ab1.ext hx13
  replace aa1 := aa1.ext hx13
  replace rN := rN.ext hx13
  have cw := read_c i mm rm l c s H13 zd hs
  rw [hd2, hd3] at cw
  repeat (first | refine AL.nil ?_ | refine AWp.seq ?_ | refine AWp.region ?_ | refine AL.set rfl rfl (op_moveP rfl ?_) | refine AL.set rfl rfl (op_moveStr rfl ?_) | refine AL.set rfl rfl (op_moveT rfl ?_) | refine AL.set rfl rfl (op_assignI rfl ?_) | refine AL.set rfl rfl (op_assignS rfl ?_) | refine AL.set rfl rfl (op_extract rfl rfl ?_))
  refine AL.set rfl rfl (op_call rfl rfl (cw.wf_post.mono ?_))
  rintro _ H14 ⟨⟨w14, rfl, o14, hx14⟩, wf14, _⟩
  replace o14 : RB H14 w14 (x.2.1 ++ x.2.2) := o14.rb
  obtain ⟨a14, c14, rfl⟩ := RS.slice o14
  generalize (bv (x.2.1 ++ x.2.2)).length = x14 at o14 ⊢
  replace o13 := o13.ext hx14
  replace zd := zd.ext hx14
  replace ab1 := ab1.ext hx14
  replace aa1 := aa1.ext hx14
  replace rN := rN.ext hx14
  have hl1 := hXW.length_le
  have ht1 := List.prefix_iff_eq_take.1 hXW
  generalize x.2.1 ++ x.2.2 = W at o14 hl1 ht1
  have rW : RB H14 (subS (.slice a14 x14 c14) 0 (X.length : Nat)) X := by
    have := RB.sub (l := 0) (m := (X.length : Nat)) o14 (by decide) (by omega) (by omega)
    rw [Int.toNat_natCast, ← ht1] at this
    exact this
  have cm := remove_c ia ma rm l3 c3 s H14 aa1 hs
  rw [ho1] at cm
  have k3 := st_ch (room := rm) (l := delS l3 s) (c := c3) wf14 (aa1.lt wf14).1 (aa1.lt wf14).2
  repeat (first | refine AL.nil ?_ | refine AWp.seq ?_ | refine AL.set rfl rfl (op_moveT rfl ?_) | refine AL.set rfl rfl (op_assignI rfl ?_) | refine AL.set rfl rfl (op_assignS rfl ?_) | refine AL.set rfl rfl (op_extract rfl rfl ?_))
  refine AWp.draw (σ := [(0, .R), (1, .R), (2, .R), (3, .R), (4, .R), (5, .R), (6, .R), (7, .R), (8, .R), (9, .R), (10, .R), (11, .R), (12, .R), (13, .R), (14, .R), (15, .R), (16, .R), (17, .R), (18, .W), (19, .R), (20, .R), (21, .R)]) mixed (by kernel_rfl) ?_
  repeat (first | refine DAL.r rfl rfl rfl (fun h' hx hn => op_moveS rfl ⟨rfl, rfl⟩) ?_ | refine DAL.r rfl rfl rfl (fun h' hx hn => op_moveB rfl ⟨rfl, rfl⟩) ?_ | refine DAL.r rfl rfl rfl (fun h' hx hn => op_moveP rfl ⟨rfl, rfl⟩) ?_ | refine DAL.r rfl rfl rfl (fun h' hx hn => op_moveStr rfl ⟨rfl, rfl⟩) ?_ | refine DAL.r rfl rfl rfl (fun h' hx hn => op_lenRB (o13.ext hx) rfl ⟨rfl, rfl⟩) ?_ | refine DAL.r rfl rfl rfl (fun h' hx hn => op_lenRB (o14.ext hx) rfl ⟨rfl, rfl⟩) ?_ | refine DAL.r rfl rfl rfl (fun h' hx hn => op_sliceDB (o14.ext hx) rfl rfl rfl (by omega) (by omega) (by omega) ⟨rfl, rfl⟩) ?_ | refine DAL.r rfl rfl rfl (fun h' hx hn => op_bytesStrR (rW.ext hx) rfl ⟨rfl, rfl⟩) ?_ | refine DAL.r rfl rfl rfl (fun h' hx hn => op_bytesStrR (o13.ext hx) rfl ⟨rfl, rfl⟩) ?_ | refine DAL.r rfl rfl rfl (fun h' hx hn => op_sNeF rfl rfl rfl ⟨rfl, rfl⟩) ?_ | refine DAL.r rfl rfl rfl (fun h' hx hn => op_pick (v := .bool _) rfl rfl ⟨rfl, rfl⟩) ?_ | refine DAL.r rfl rfl rfl (fun h' hx hn => op_intF rfl rfl rfl (by omega) ⟨rfl, rfl⟩) ?_)
  refine DAL.w rfl rfl rfl (op_call rfl rfl (cm.mono ?_))
  rintro _ _ ⟨rfl, rfl⟩
  replace zd := At.chL zd k3 e5 e6
  replace ab1 := At.chL ab1 k3 (Ne.symm e3) (Ne.symm e4)
  replace rN := RN.chL rN k3 e8
  have aa2 : At (stD H14 ia ma rm (delS l3 s) c3) ia ma rm (delS l3 s) c3 := At.st (aa1.ok.del s) aa1.big
  have hperm : (flat (delS l3 s)).Perm (flat (delS lb s)) := same_of_get aa2.ok.names ab1.ok.names fun t => by
    rw [getS_del aa1.ok.names, getS_del ab.ok.names]
    split
    · rfl
    · rename_i ht
      exact hgs t ht
  generalize stD H14 ia ma rm (delS l3 s) c3 = H15 at zd aa2 rN ab1 ⊢
  repeat (first | refine DAL.r rfl rfl rfl (fun h' hx hn => op_callS rfl rfl (num_c 0 h') ⟨rfl, rfl⟩) ?_ | refine DAL.r rfl rfl rfl (fun h' hx hn => op_intF rfl rfl rfl (by exact fun e => e rfl) ⟨rfl, rfl⟩) ?_ | refine DAL.r rfl rfl rfl (fun h' hx hn => op_pick (v := .bool _) rfl rfl ⟨rfl, rfl⟩) ?_)
  refine DAL.nil ?_
  have cS : ACalls Try.prog 35 [ptr ia, ptr ib] H15 (fun u h' => u = .bool true ∧ h' = H15) := (same_c ia ma rm _ c3 ib mb rm _ cb H15 aa2 ab1).mono fun u h' ⟨⟨b, e1, e2⟩, e3⟩ => ⟨by rw [e1, e2.2 ⟨rfl, hperm⟩], e3⟩
  repeat (first | refine AL.nil ?_ | refine AWp.seq ?_ | refine AWp.region ?_ | refine AWp.condF rfl ?_ | refine AWp.ret ?_ | refine AWp.skip ?_ | refine AL.set rfl rfl (op_moveI rfl ?_) | refine AL.set rfl rfl (op_moveS rfl ?_) | refine AL.set rfl rfl (op_moveB rfl ?_) | refine AL.set rfl rfl (op_moveP rfl ?_) | refine AL.set rfl rfl (op_assignB rfl ?_) | refine AL.set rfl rfl (op_callS rfl rfl cS ?_) | refine AL.set rfl rfl (op_callS rfl rfl (has_c i mm rm l c (.slice ua G0 uc) G H15 zd ⟨lW, rG⟩ rN) ?_) | refine AL.set rfl rfl (op_pick (v := .bool _) rfl rfl ?_) | refine AL.set rfl rfl (op_callS rfl rfl (known_c H15) ?_))
  exact ⟨_, ResV.tmp rfl, rfl⟩
end Go.Proofs.Ytiebmncpdnbcjaa
