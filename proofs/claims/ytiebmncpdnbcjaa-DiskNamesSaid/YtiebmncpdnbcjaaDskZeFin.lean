/-
  DiskNames.
-/
import Derived.Test.YtiebmncpdnbcjaaMrgh
namespace Go.Proofs.Ytiebmncpdnbcjaa
open Go Go.Eng Go.Dsk
attribute [local irreducible] AWp AL DAL AOp TAL

section
variable {P : Program} {ρ : Operand → Value} {h : Heap} {K : Value → Heap → Prop} {dst : Option Tmp} {ty : TypeId} {pos : String} {aft : Array Edge} {g : Option (Nat × Bool)}
theorem op_indexQ {t e : TypeId} {x y : Operand} {by_ : Nat} {z v u : Value} {k : IntKind} {a : Int} {vs : List Value} [td : TyD P t (.slice e)] [ti : TyI P e 1 by_ z] (r : RS h v vs) (hx : ρ x = v) (hy : ρ y = .int k a) (h0 : 0 ≤ a)
    (hu : vs[a.toNat]? = some u) (kk : K (ptrS v a) h) : AOp P ⟨dst, .indexAddr t x y, ty, pos, aft, g⟩ ρ h K := op_indexD r hx hy h0 hu (fun _ => kk)
end
theorem sv_at {L : List (List UInt8)} {k : Nat} {s : List UInt8} (h : L[k]? = some s) : (sv L)[((k : Nat) : Int).toNat]? = some (.string (bstr s)) := by
  rw [Int.toNat_natCast]
  unfold sv
  rw [List.getElem?_map, h]
  rfl
section
variable {h0 H H5 : Heap} {room i m : Nat} {l : FL} {c j : Nat} {v : Value} {F : List RF} {s b : List UInt8}
theorem appR_same (he : appRE room F s b ≠ 0) : appR room F s b = F := by
  unfold appR
  refine if_pos ?_
  by_cases hc : eR F s = 2 ∨ room < usedR F + b.length ∨ (eR F s = 6 ∧ F.length = 128)
  · exact hc
  · exact absurd (by unfold appRE; rw [if_neg fun e => hc (.inl e), if_neg fun e => hc (.inr e)]) he
/-- What both answer to Append, and the disks then. -/
theorem St.app (t : St h0 H room i m l c j v F) (hor : (appRE room F s b ≠ 0 ∧ H5 = stD H i m room (appL room l c s b) (appC room l c s b)) ∨ (appRE room F s b = 0 ∧ RSt (stD H i m room (appL room l c s b) (appC room l c s b)) j room (appR room F s b) H5)) :
    ∃ v', St h0 H5 room i m (appL room l c s b) (appC room l c s b) j v' (appR room F s b) := by
  have dS := DOk.app t.dk.ok s b
  have mS := app_sm t.sm t.dk.ok (c := c) s b
  rcases hor with ⟨he, rfl⟩ | ⟨he, r⟩
  · have e3 := appR_same he
    rw [e3] at mS ⊢
    exact ⟨v, t.one dS mS⟩
  · exact t.both dS mS r
theorem St.rk1 (t : St h0 H room i m l c j v F) {l1 : FL} {c1 : Nat} : RAt (stD H i m room l1 c1) j room v F ∧ Ext h0 (stD H i m room l1 c1) := by
  have li := t.dk.lt t.wf
  have k1 := st_ch (room := room) (l := l1) (c := c1) t.wf li.1 li.2
  exact ⟨t.rk.ch k1 (fun e => t.ne e.symm) t.nv, ⟨fun q b hq => k1.c q b (t.ext.c q b hq) (ne_get hq t.li), fun q b hq => k1.o q b (t.ext.o q b hq) (ne_obj hq t.lm)⟩⟩
end
theorem bad_none {room c : Nat} {l : FL} (d : DOk room l c) {s : List UInt8} (hg : goodN s = false) : hasS l s = false := by
  cases hh : hasS l s with
  | false => rfl
  | true =>
    obtain ⟨e, he, h3⟩ := List.mem_map.1 (has_mem.1 hh)
    have := d.good e he
    rw [h3, hg] at this
    cases this
theorem open_bad {l : FL} {s : List UInt8} {more : List (List UInt8)} (h : (goodN s && more.all goodN) = false) : openE l s more = 2 := by
  unfold openE
  rw [h]
  rfl
abbrev keB1 (s : List UInt8) : Blk := ⟨([(s, (0 : Int))].map keepR).flatten, 69, true⟩
set_option maxHeartbeats 4000000 in
set_option maxRecDepth 4000 in
theorem names_walk (lv : Value) (L : List (List UInt8)) (h : Heap) (r : RS h lv (sv L)) (hll : L.length ≤ 4611686018427387904) (hls : ∀ s ∈ L, s.length ≤ 4611686018427387904) :
    ACalls Try.prog 7 [lv] h fun v _ => v = .bool true := by
  refine ACalls.wf fun wf => ?_
  refine ACalls.body Try.func7 rfl rfl ?_
  have hlen : (sv L).length = L.length := sv_length _
  by_cases h200 : 200 < L.length
  · repeat (first | refine AL.nil ?_ | refine AWp.seq ?_ | refine AWp.region ?_ | refine AWp.condT rfl ?_ | refine AWp.ret ?_ | refine AL.set rfl rfl (op_assignB rfl ?_) | refine AL.set rfl rfl (op_lenR r rfl ?_) | refine AL.set rfl rfl (op_intT rfl rfl rfl (by omega) ?_) | refine AL.set rfl rfl (op_callS rfl rfl (known_c h) ?_) | refine AL.set rfl rfl (op_move (by conv => lhs; whnf) ?_))
    exact ⟨_, ResV.tmp rfl, rfl⟩
  repeat (first | refine AL.nil ?_ | refine AWp.seq ?_ | refine AWp.region ?_ | refine AWp.condF rfl ?_ | refine AWp.skip ?_ | refine AL.set rfl rfl (op_assignB rfl ?_) | refine AL.set rfl rfl (op_lenR r rfl ?_) | refine AL.set rfl rfl (op_intF rfl rfl rfl (by omega) ?_) | refine AL.set rfl rfl (op_move (by conv => lhs; whnf) ?_))
  refine AL.set rfl rfl (op_call rfl rfl ((new_yes 1024 h (by omega) (by omega)).wf_post.mono ?_))
  rintro _ H1 ⟨⟨i, m, rfl, q1, q2, a1, hx1⟩, wf1, _⟩
  repeat (first | refine AL.nil ?_ | refine AWp.seq ?_ | refine AWp.region ?_ | refine AL.set rfl rfl (op_moveT rfl ?_) | refine AL.set rfl rfl (op_assignI rfl ?_) | refine AL.set rfl rfl (op_assignP rfl ?_) | refine AL.set rfl rfl (op_extract rfl rfl ?_))
  refine AL.set rfl rfl (op_call rfl rfl ((rnew_yes 1024 H1 (by omega) (by omega)).mono ?_))
  rintro _ H2 ⟨rfl, r2, hx2, wf2, n2⟩
  have s0 := St.new wf q1 q2 a1 hx1 wf1 r2 hx2 wf2
  repeat (first | refine AL.nil ?_ | refine AWp.seq ?_ | refine AWp.region ?_ | refine AWp.condF rfl ?_ | refine AWp.block ?_ | refine AWp.skip ?_ | refine AL.set rfl rfl (op_moveI rfl ?_) | refine AL.set rfl rfl (op_moveB rfl ?_) | refine AL.set rfl rfl (op_moveP rfl ?_) | refine AL.set rfl rfl (op_assignI rfl ?_) | refine AL.set rfl rfl (op_assignP rfl ?_) | refine AL.set rfl rfl (op_eqPtrNil rfl rfl ?_) | refine AL.set rfl rfl (op_pick (v := .bool _) rfl rfl ?_) | refine AL.set rfl rfl (op_callS rfl rfl (num_c _ H2) ?_) | refine AL.set rfl rfl (op_intF rfl rfl rfl (by exact fun e => e rfl) ?_))
  generalize H1.next = j at s0 ⊢
  refine AWp.loop (α := Nat × FL × Nat × Value × List RF × Heap) (fun d => [(0, lv), (3, ptr i), (5, ptr j), (6, .int .i64 (d.1 : Nat))]) (fun d => d.2.2.2.2.2)
    (fun d => d.1 ≤ L.length ∧ St h d.2.2.2.2.2 1024 i m d.2.1 d.2.2.1 j d.2.2.2.1 d.2.2.2.2.1) (fun d => L.length - d.1) (0, [], 0, .slice none 0 0, [], H2)
    ⟨Nat.zero_le _, s0⟩ (Weak.same (EW.cons rfl (EW.cons rfl (EW.cons rfl (EW.cons rfl EW.nil))))) ?_
  clear s0 r2 hx2 wf2 n2 a1 hx1 wf1 q1 q2
  rintro ⟨k, l, c, v, F, H⟩ ⟨w1, t⟩
  replace w1 : k ≤ L.length := w1
  replace t : St h H 1024 i m l c j v F := t
  show AWp _ _ _ _ [(0, lv), (3, ptr i), (5, ptr j), (6, .int .i64 (k : Nat))] H
  have rH := r.ext t.ext
  by_cases hk : k < L.length
  · obtain ⟨s, hs⟩ : ∃ s, L[k]? = some s := ⟨_, List.getElem?_eq_getElem hk⟩
    have hu := sv_at hs
    have hsl := hls s (List.mem_of_getElem? hs)
    by_cases hbig : 1000 < s.length
    · repeat (first | refine AL.nil ?_ | refine AWp.seq ?_ | refine AWp.region ?_ | refine AWp.condT rfl ?_ | refine AWp.ret ?_ | refine AWp.block ?_ | refine AWp.skip ?_ | refine AL.set rfl rfl (op_moveI rfl ?_) | refine AL.set rfl rfl (op_assignB rfl ?_) | refine AL.set rfl rfl (op_lenR rH rfl ?_) | refine AL.set rfl rfl (op_intT rfl rfl rfl (by omega) ?_) | refine AL.set rfl rfl (op_indexQ rH rfl rfl (by omega) hu ?_) | refine AL.set rfl rfl (op_loadR (PT.of rH hu) rfl rfl ?_) | refine AL.set rfl rfl (op_lenSB rfl ?_) | refine AL.set rfl rfl (op_callS rfl rfl (known_c H) ?_) | refine AL.set rfl rfl (op_move (by conv => lhs; whnf) ?_))
      exact ⟨_, ResV.tmp rfl, rfl⟩
    repeat (first | refine AL.nil ?_ | refine AWp.seq ?_ | refine AWp.region ?_ | refine AWp.condT rfl ?_ | refine AWp.condF rfl ?_ | refine AWp.block ?_ | refine AWp.skip ?_ | refine AL.set rfl rfl (op_moveI rfl ?_) | refine AL.set rfl rfl (op_lenR rH rfl ?_) | refine AL.set rfl rfl (op_intT rfl rfl rfl (by omega) ?_) | refine AL.set rfl rfl (op_intF rfl rfl rfl (by omega) ?_) | refine AL.set rfl rfl (op_indexQ rH rfl rfl (by omega) hu ?_) | refine AL.set rfl rfl (op_loadR (PT.of rH hu) rfl rfl ?_) | refine AL.set rfl rfl (op_lenSB rfl ?_) | refine AL.set rfl rfl (op_move (by conv => lhs; whnf) ?_))
    refine AWp.treeJ (fun G => RS G lv (sv L)) (fun _ _ a b => a.ext b) (t := OT.seq [(0, .P), (1, .P), (2, .P), (3, .S), (4, .S), (7, .P), (8, .P), (9, .P), (10, .S), (11, .S), (5, .W), (6, .P), (12, .W), (13, .P)] .nil) mixed (by kernel_rfl) rH ?_
    have cd := append_c i m 1024 l c s (.slice none 0 0) [] H t.dk hsl (RS.nil _) (by decide)
    rw [app_eq t.sm t.dk.ok] at cd
    obtain ⟨r3, x3⟩ := t.rk1 (l1 := appL 1024 l c s []) (c1 := appC 1024 l c s [])
    have cr := rappend_c j 1024 v F s (.slice none 0 0) [] _ r3 hsl (RS.nil _) (by decide)
    repeat (first | refine TAL.p rfl rfl rfl (fun h' hn => op_moveI rfl ⟨rfl, rfl⟩) ?_ | refine TAL.p rfl rfl rfl (fun h' hn => op_moveP rfl ⟨rfl, rfl⟩) ?_ | refine TAL.p rfl rfl rfl (fun h' hn => op_move (by conv => lhs; whnf) ⟨rfl, rfl⟩) ?_ | refine TAL.s rfl rfl rfl (fun h' hn hx => op_indexQ hx rfl rfl (by omega) hu ⟨rfl, rfl⟩) ?_ | refine TAL.s rfl rfl rfl (fun h' hn hx => op_loadR (PT.of hx hu) rfl rfl ⟨rfl, rfl⟩) ?_)
    refine TAL.wj rfl rfl rfl (op_call rfl rfl (cd.mono ?_))
    rintro _ _ ⟨rfl, rfl⟩
    refine ⟨r.ext x3, ?_⟩
    repeat (first | refine TAL.p rfl rfl rfl (fun h' hn => op_callS rfl rfl (num_c _ h') ⟨rfl, rfl⟩) ?_)
    refine TAL.wj rfl rfl rfl (op_call rfl rfl (cr.mono ?_))
    rintro _ H5 ⟨rfl, hor⟩
    obtain ⟨v5, t5⟩ := t.app hor
    refine ⟨r.ext t5.ext, ?_⟩
    repeat (first | refine TAL.p rfl rfl rfl (fun h' hn => op_intF rfl rfl rfl (by exact fun e => e rfl) ⟨rfl, rfl⟩) ?_)
    refine TAL.nil ?_
    clear cd cr r3 x3 hor
    replace rH := r.ext t5.ext
    have cm := mayName_c s H5 hsl
    cases hg : goodN s with
    | true =>
      rw [hg] at cm
      repeat (first | refine AL.nil ?_ | refine AWp.seq ?_ | refine AWp.region ?_ | refine AWp.condT rfl ?_ | refine AWp.condF rfl ?_ | refine AWp.exit ?_ | refine AWp.skip ?_ | refine AL.set rfl rfl (op_moveI rfl ?_) | refine AL.set rfl rfl (op_assignI rfl ?_) | refine AL.set rfl rfl (op_indexQ rH rfl rfl (by omega) hu ?_) | refine AL.set rfl rfl (op_loadR (PT.of rH hu) rfl rfl ?_) | refine AL.set rfl rfl (op_callS rfl rfl cm ?_) | refine AL.set rfl rfl (op_add64 rfl rfl (by omega) ?_) | refine AL.set rfl rfl (op_move (by conv => lhs; whnf) ?_))
      exact ⟨(k + 1, _, _, v5, _, H5), ⟨hk, t5⟩, by show L.length - (k + 1) < L.length - k; omega, Weak.same (EW.cons rfl (EW.cons rfl (EW.cons rfl (EW.cons rfl EW.nil))))⟩
    | false =>
      obtain ⟨l, c, F, t⟩ : ∃ l2 c2 F2, St h H5 1024 i m l2 c2 j v5 F2 := ⟨_, _, _, t5⟩
      clear t5
      have hn := bad_none t.dk.ok hg
      have e1 : openE l s [] = 2 := open_bad (by rw [hg]; rfl)
      have e2 : openE l s [nA] = 2 := open_bad (by rw [hg]; rfl)
      have e3 : openE l nA [s] = 2 := open_bad (by simp [hg])
      have y1 : syncL l c s = l := by unfold syncL; rw [e1]; rfl
      have y2 : syncC l c s = c := by unfold syncC; rw [e1]; rfl
      have y3 : renL l c s nA = l := by unfold renL; rw [e2]; rfl
      have y4 : renC l c s nA = c := by unfold renC; rw [e2]; rfl
      have y5 : renL l c nA s = l := by unfold renL; rw [e3]; rfl
      have y6 : renC l c nA s = c := by unfold renC; rw [e3]; rfl
      rw [hg] at cm
      repeat (first | refine AL.nil ?_ | refine AWp.seq ?_ | refine AWp.region ?_ | refine AWp.condF rfl ?_ | refine AWp.skip ?_ | refine AL.set rfl rfl (op_moveI rfl ?_) | refine AL.set rfl rfl (op_moveP rfl ?_) | refine AL.set rfl rfl (op_indexQ rH rfl rfl (by omega) hu ?_) | refine AL.set rfl rfl (op_loadR (PT.of rH hu) rfl rfl ?_) | refine AL.set rfl rfl (op_callS rfl rfl cm ?_) | refine AL.set rfl rfl (op_move (by conv => lhs; whnf) ?_))
      have cr := read_c i m 1024 l c s H5 t.dk hsl
      rw [e1] at cr
      refine AL.set rfl rfl (op_call rfl rfl (cr.wf_post.mono ?_))
      rintro _ H6 ⟨⟨w6, rfl, _, hx6⟩, wf6, _⟩
      replace t := t.grow hx6 wf6
      replace rH := r.ext t.ext
      have cl := lasting_c i m 1024 l c s H6 t.dk hsl
      rw [e1] at cl
      repeat (first | refine AL.nil ?_ | refine AWp.seq ?_ | refine AWp.region ?_ | refine AL.set rfl rfl (op_moveI rfl ?_) | refine AL.set rfl rfl (op_moveP rfl ?_) | refine AL.set rfl rfl (op_moveT rfl ?_) | refine AL.set rfl rfl (op_assignI rfl ?_) | refine AL.set rfl rfl (op_indexQ rH rfl rfl (by omega) hu ?_) | refine AL.set rfl rfl (op_loadR (PT.of rH hu) rfl rfl ?_) | refine AL.set rfl rfl (op_extract rfl rfl ?_) | refine AL.set rfl rfl (op_callS rfl rfl cl ?_) | refine AL.set rfl rfl (op_buildS (out := keepR (s, 0)) rfl rfl ?_) | refine AL.set rfl rfl (op_move (by conv => lhs; whnf) ?_) | refine AL.set rfl rfl (op_assign (by conv => lhs; whnf) ?_))
      refine AL.set rfl rfl (op_rowN1 (by show 2 ≤ 16777216; decide) (by show 0 < 2; decide) rfl rfl ?_)
      refine AL.heap (show _ = H6.alloc (keB1 s) from rfl) ?_
      have hx7 := t.wf.ext (keB1 s)
      have g7 := Heap.alloc_new H6 (keB1 s)
      replace t := t.grow hx7 (t.wf.alloc _)
      generalize H6.alloc (keB1 s) = H7 at hx7 g7 t ⊢
      refine AL.set rfl rfl (op_call rfl rfl ((crash_no i m 1024 l c _ [(s, 0)] H7 t.dk (RN.ks (RN.own (keeps_len [(s, 0)]) g7 rfl)) (by simp) (by simpa using hsl) (kept_none l [(s, 0)] (by simp [badK, hg]))).mono ?_))
      rintro _ H8 ⟨rfl, hx8, wf8⟩
      replace t := t.grow hx8 wf8
      replace rH := r.ext t.ext
      have cs := sync_c i m 1024 l c s H8 t.dk hsl
      rw [e1, y1, y2] at cs
      repeat (first | refine AL.nil ?_ | refine AWp.seq ?_ | refine AWp.region ?_ | refine AL.set rfl rfl (op_moveI rfl ?_) | refine AL.set rfl rfl (op_moveB rfl ?_) | refine AL.set rfl rfl (op_moveP rfl ?_) | refine AL.set rfl rfl (op_moveT rfl ?_) | refine AL.set rfl rfl (op_assignI rfl ?_) | refine AL.set rfl rfl (op_assignP rfl ?_) | refine AL.set rfl rfl (op_indexQ rH rfl rfl (by omega) hu ?_) | refine AL.set rfl rfl (op_loadR (PT.of rH hu) rfl rfl ?_) | refine AL.set rfl rfl (op_extract rfl rfl ?_) | refine AL.set rfl rfl (op_callS rfl rfl (num_c _ H8) ?_) | refine AL.set rfl rfl (op_intF rfl rfl rfl (by exact fun e => e rfl) ?_) | refine AL.set rfl rfl (op_pick (v := .bool _) rfl rfl ?_) | refine AL.set rfl rfl (op_move (by conv => lhs; whnf) ?_))
      refine AL.set rfl rfl (op_call rfl rfl (cs.mono ?_))
      rintro _ _ ⟨rfl, rfl⟩
      replace t := t.one t.dk.ok t.sm
      generalize stD H8 i m 1024 l c = H9 at t ⊢
      replace rH := r.ext t.ext
      have cm := remove_c i m 1024 l c s H9 t.dk hsl
      rw [e1, del_none hn] at cm
      repeat (first | refine AL.set rfl rfl (op_moveI rfl ?_) | refine AL.set rfl rfl (op_moveB rfl ?_) | refine AL.set rfl rfl (op_moveP rfl ?_) | refine AL.set rfl rfl (op_indexQ rH rfl rfl (by omega) hu ?_) | refine AL.set rfl rfl (op_loadR (PT.of rH hu) rfl rfl ?_) | refine AL.set rfl rfl (op_callS rfl rfl (num_c _ H9) ?_) | refine AL.set rfl rfl (op_intF rfl rfl rfl (by exact fun e => e rfl) ?_) | refine AL.set rfl rfl (op_pick (v := .bool _) rfl rfl ?_) | refine AL.set rfl rfl (op_move (by conv => lhs; whnf) ?_))
      refine AL.set rfl rfl (op_call rfl rfl (cm.mono ?_))
      rintro _ _ ⟨rfl, rfl⟩
      replace t := t.one t.dk.ok t.sm
      generalize stD H9 i m 1024 l c = H10 at t ⊢
      replace rH := r.ext t.ext
      have cn := rename_c i m 1024 l c s nA H10 t.dk hsl (by decide)
      rw [e2, y3, y4] at cn
      repeat (first | refine AL.set rfl rfl (op_moveI rfl ?_) | refine AL.set rfl rfl (op_moveB rfl ?_) | refine AL.set rfl rfl (op_moveP rfl ?_) | refine AL.set rfl rfl (op_indexQ rH rfl rfl (by omega) hu ?_) | refine AL.set rfl rfl (op_loadR (PT.of rH hu) rfl rfl ?_) | refine AL.set rfl rfl (op_callS rfl rfl (num_c _ H10) ?_) | refine AL.set rfl rfl (op_intF rfl rfl rfl (by exact fun e => e rfl) ?_) | refine AL.set rfl rfl (op_pick (v := .bool _) rfl rfl ?_) | refine AL.set rfl rfl (op_move (by conv => lhs; whnf) ?_))
      refine AL.set rfl rfl (op_call rfl rfl (cn.mono ?_))
      rintro _ _ ⟨rfl, rfl⟩
      replace t := t.one t.dk.ok t.sm
      generalize stD H10 i m 1024 l c = H11 at t ⊢
      replace rH := r.ext t.ext
      replace cn := rename_c i m 1024 l c nA s H11 t.dk (by decide) hsl
      rw [e3, y5, y6] at cn
      repeat (first | refine AL.set rfl rfl (op_moveI rfl ?_) | refine AL.set rfl rfl (op_moveB rfl ?_) | refine AL.set rfl rfl (op_moveP rfl ?_) | refine AL.set rfl rfl (op_indexQ rH rfl rfl (by omega) hu ?_) | refine AL.set rfl rfl (op_loadR (PT.of rH hu) rfl rfl ?_) | refine AL.set rfl rfl (op_callS rfl rfl (num_c _ H11) ?_) | refine AL.set rfl rfl (op_intF rfl rfl rfl (by exact fun e => e rfl) ?_) | refine AL.set rfl rfl (op_pick (v := .bool _) rfl rfl ?_) | refine AL.set rfl rfl (op_move (by conv => lhs; whnf) ?_))
      refine AL.set rfl rfl (op_call rfl rfl (cn.mono ?_))
      rintro _ _ ⟨rfl, rfl⟩
      replace t := t.one t.dk.ok t.sm
      generalize stD H11 i m 1024 l c = H12 at t ⊢
      replace rH := r.ext t.ext
      repeat (first | refine AL.nil ?_ | refine AWp.region ?_ | refine AWp.condF rfl ?_ | refine AWp.skip ?_ | refine AL.set rfl rfl (op_moveI rfl ?_) | refine AL.set rfl rfl (op_assignI rfl ?_) | refine AL.set rfl rfl (op_callS rfl rfl (num_c _ H12) ?_) | refine AL.set rfl rfl (op_intF rfl rfl rfl (by exact fun e => e rfl) ?_) | refine AL.set rfl rfl (op_pick (v := .bool _) rfl rfl ?_) | refine AL.set rfl rfl (op_add64 rfl rfl (by omega) ?_))
      exact ⟨(k + 1, l, c, v5, F, H12), ⟨hk, t⟩, by show L.length - (k + 1) < L.length - k; omega, Weak.same (EW.cons rfl (EW.cons rfl (EW.cons rfl (EW.cons rfl EW.nil))))⟩
  · repeat (first | refine AL.nil ?_ | refine AWp.seq ?_ | refine AWp.region ?_ | refine AWp.condF rfl ?_ | refine AWp.exit ?_ | refine AL.set rfl rfl (op_moveI rfl ?_) | refine AL.set rfl rfl (op_moveP rfl ?_) | refine AL.set rfl rfl (op_lenR rH rfl ?_) | refine AL.set rfl rfl (op_intF rfl rfl rfl (by omega) ?_) | refine AL.set rfl rfl (op_move (by conv => lhs; whnf) ?_))
    refine AL.set rfl rfl (op_call rfl rfl ((names_c i m 1024 l c H t.dk).mono ?_))
    rintro w6 H6 ⟨N, nn, _, _, hN, hx6, wf6, _⟩
    replace t := t.grow hx6 wf6
    have hNl : (sv N).length = N.length := sv_length _
    repeat (first | refine AL.set rfl rfl (op_moveB rfl ?_) | refine AL.set rfl rfl (op_moveP rfl ?_) | refine AL.set rfl rfl (op_lenR nn.rs rfl ?_) | refine AL.set rfl rfl (op_intT rfl rfl rfl (by omega) ?_))
    refine AL.set rfl rfl (op_call rfl rfl ((files_c j 1024 v _ H6 t.rk (t.sm.names t.dk.ok.names)).mono ?_))
    rintro u H7 ⟨G, oG, pG, rG, hx7, wf7, _⟩
    replace t := t.grow hx7 wf7
    repeat (first | refine AL.nil ?_ | refine AWp.ret ?_ | refine AL.set rfl rfl (op_moveB rfl ?_) | refine AL.set rfl rfl (op_assignB rfl ?_) | refine AL.set rfl rfl (op_callS rfl rfl (has_c i m 1024 l c u G H7 t.dk ⟨t.sm.trans pG.symm, rG⟩ oG.rn) ?_) | refine AL.set rfl rfl (op_pick (v := .bool _) rfl rfl ?_) | refine AL.set rfl rfl (op_callS rfl rfl (known_c H7) ?_))
    exact ⟨_, ResV.tmp rfl, rfl⟩
end Go.Proofs.Ytiebmncpdnbcjaa
