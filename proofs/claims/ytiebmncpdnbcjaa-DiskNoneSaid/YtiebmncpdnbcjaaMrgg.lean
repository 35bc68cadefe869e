/-
  Texts of one claim, merged: 10 parts.
-/
import Derived.Test.YtiebmncpdnbcjaaMrgf
/-
  The document's disk: its files in their order; are two the same.
-/
namespace Go.Proofs.Ytiebmncpdnbcjaa
open Go Go.Eng Go.Dsk
attribute [local irreducible] AWp AL DAL AOp TAL

instance : FnC Try.prog 27 := ⟨Try.f27, Try.func27, by kernel_rfl, by kernel_rfl⟩
instance : FnC Try.prog 36 := ⟨Try.f36, Try.func36, by kernel_rfl, by kernel_rfl⟩
def NamesR (F : List RF) : List (List UInt8) := F.map (·.1)
/-- Files, sorted so far. -/
structure FSt (h : Heap) (F : List RF) (i : Nat) (u : Value) (G : List RF) (H : Heap) : Prop where
  own : ON h.next 3 H 61 u (G.map rowR)
  perm : G.Perm (F.take i)
  rise : Rise (G.map (·.1))
  ext : Ext h H
  wf : WF H
  nx : h.next ≤ H.next
theorem place_of {G : List RF} (hr : Rise (G.map (·.1))) {p : Nat} {s : List UInt8} (hp : p ≤ G.length) (hlo : ∀ (m : Nat) (y : RF), m < p → G[m]? = some y → less y.1 s = true) (hhi : ∀ y : RF, G[p]? = some y → less y.1 s = false) : Dsk.Place (G.map (·.1)) s p := by
  refine ⟨by simpa using hp, fun x hx => ?_, fun x hx => ?_⟩
  · obtain ⟨m, hm⟩ := List.getElem?_of_mem hx
    have hml : m < p := by have := (List.getElem?_eq_some_iff.1 hm).1; rw [List.length_take] at this; omega
    rw [List.getElem?_take_of_lt hml, List.getElem?_map] at hm
    cases hg : G[m]? with
    | none => rw [hg] at hm; cases hm
    | some y => rw [hg] at hm; cases hm; exact hlo m y hml hg
  · obtain ⟨m, hm⟩ := List.getElem?_of_mem hx
    rw [List.getElem?_drop] at hm
    cases hc : less x s with
    | false => rfl
    | true =>
      exfalso
      by_cases hm0 : m = 0
      · subst hm0
        rw [Nat.add_zero, List.getElem?_map] at hm
        cases hg : G[p]? with
        | none => rw [hg] at hm; cases hm
        | some y => rw [hg] at hm; cases hm; rw [hhi y hg] at hc; cases hc
      · have hpl : p < (G.map (·.1)).length := by have := (List.getElem?_eq_some_iff.1 hm).1; omega
        have h1 := List.getElem?_eq_getElem hpl
        have h2 := rise_get hr (show p < p + m by omega) h1 hm
        have h3 := less_trans h2 hc
        rw [List.getElem?_map] at h1
        cases hg : G[p]? with
        | none => rw [hg] at h1; cases h1
        | some y =>
          rw [hg] at h1
          simp only [Option.map_some, Option.some.injEq] at h1
          rw [← h1, hhi y hg] at h3
          cases h3
theorem rows_one (F : List RF) : (F.map rowR).flatten.all oneB = true := by
  rw [List.all_eq_true]
  intro v hv
  obtain ⟨r, hr, hv⟩ := List.mem_flatten.1 hv
  obtain ⟨f, _, rfl⟩ := List.mem_map.1 hr
  exact List.all_eq_true.1 (rowR_one f) v hv
set_option maxHeartbeats 4000000 in
theorem files_c (j room : Nat) (v : Value) (F : List RF) (h : Heap) (r : RAt h j room v F) (hnd : (F.map (·.1)).Nodup) :
    ACalls Try.prog 27 [ptr j] h fun u h' => ∃ G : List RF, ON h.next 3 h' 61 u (G.map rowR) ∧ G.Perm F ∧ Rise (G.map (·.1)) ∧ Ext h h' ∧ WF h' ∧ h.next ≤ h'.next := by
  refine ACalls.wf fun wf => ?_
  refine ACalls.body Try.func27 rfl rfl ?_
  have hc := r.cnt
  have hlen : (F.map rowR).length = F.length := by simp
  repeat (first | refine AL.nil ?_ | refine AWp.seq ?_ | refine AWp.region ?_ | refine AWp.block ?_ | refine AL.set rfl rfl (op_assignI rfl ?_) | refine AL.set rfl rfl (op_assignS rfl ?_))
  refine AWp.loop (α := Nat × Value × List RF × Heap) (fun (d : Nat × Value × List RF × Heap) => [(0, ptr j), (3, d.2.1), (4, .int .i64 (d.1 : Nat))]) (fun (d : Nat × Value × List RF × Heap) => d.2.2.2) (fun (d : Nat × Value × List RF × Heap) => d.1 ≤ F.length ∧ FSt h F d.1 d.2.1 d.2.2.1 d.2.2.2) (fun d => F.length - d.1) (0, .slice none 0 0, [], h)
    ⟨Nat.zero_le _, ⟨ON.nil _ _ _ _, by simp, List.Pairwise.nil, Ext.refl _, wf, Nat.le_refl _⟩⟩ (Weak.same (EW.cons rfl (EW.cons rfl (EW.cons rfl EW.nil)))) ?_
  rintro ⟨i, u, G, H⟩ ⟨hi, d⟩
  replace hi : i ≤ F.length := hi
  replace d : FSt h F i u G H := d
  show AWp _ _ _ _ [(0, ptr j), (3, u), (4, .int .i64 (i : Nat))] H
  have rH := r.ext d.ext
  have hGl : G.length = i := by have := d.perm.length_eq; rw [List.length_take] at this; omega
  have hGr : (G.map rowR).length = G.length := by simp
  by_cases hlt : i < F.length
  · obtain ⟨x, hx⟩ : ∃ x, F[i]? = some x := ⟨_, List.getElem?_eq_getElem hlt⟩
    have hx2 := row_at hx
    have hp := rH.rn.elt hx2
    have hnot : x.1 ∉ G.map (·.1) := by
      intro hm
      have h1 : x.1 ∈ (F.take i).map (·.1) := (d.perm.map _).subset hm
      obtain ⟨y, hy, he⟩ := List.mem_map.1 h1
      obtain ⟨m, hm⟩ := List.getElem?_of_mem hy
      have hmi : m < i := by have := (List.getElem?_eq_some_iff.1 hm).1; rw [List.length_take] at this; omega
      rw [List.getElem?_take_of_lt hmi] at hm
      have q1 : (F.map (·.1))[m]? = some x.1 := by rw [List.getElem?_map, hm]; simp [he]
      have q2 : (F.map (·.1))[i]? = some x.1 := by rw [List.getElem?_map, hx]; rfl
      have hml : m < (F.map (·.1)).length := by rw [List.length_map]; omega
      have hil : i < (F.map (·.1)).length := by rw [List.length_map]; exact hlt
      exact List.pairwise_iff_getElem.1 hnd m i hml hil hmi (Option.some.inj ((List.getElem?_eq_getElem hml).symm.trans (q1.trans (q2.symm.trans (List.getElem?_eq_getElem hil)))))
    repeat (first | refine AL.nil ?_ | refine AWp.seq ?_ | refine AWp.region ?_ | refine AWp.condT rfl ?_ | refine AWp.block ?_ | refine AWp.skip ?_ | refine AL.set rfl rfl (op_moveI rfl ?_) | refine AL.set rfl rfl (op_moveB rfl ?_) | refine AL.set rfl rfl (op_moveP rfl ?_) | refine AL.set rfl rfl (op_assignI rfl ?_) | refine AL.set rfl rfl (op_nilCheck rfl ?_) | refine AL.set rfl rfl (op_fa rfl ?_) | refine AL.set rfl rfl (op_nePtrNil rfl rfl ?_) | refine AL.set rfl rfl (op_load rfl rfl rH.box rfl ?_) | refine AL.set rfl rfl (op_lenN rH.rn rfl ?_) | refine AL.set rfl rfl (op_intT rfl rfl rfl (by rw [List.length_map]; omega) ?_) | refine AL.set rfl rfl (op_pick rfl rfl ?_))
    refine AWp.loop (α := Nat) (fun p => [(0, ptr j), (3, u), (4, .int .i64 (i : Nat)), (5, .int .i64 (p : Nat))]) (fun _ => H) (fun p => p ≤ G.length ∧ ∀ (m : Nat) (y : RF), m < p → G[m]? = some y → less y.1 x.1 = true) (fun p => G.length - p) 0 ⟨Nat.zero_le _, fun m y hm => by omega⟩ (Weak.same (EW.cons rfl (EW.cons rfl (EW.cons rfl (EW.cons rfl EW.nil))))) ?_
    rintro p ⟨hp1, hp2⟩
    replace hp1 : p ≤ G.length := hp1
    have hsh : Shp 3 u G.length := by have := d.own.rn.shp; rwa [hGr] at this
    have htp : ((G.take p).map rowR).length = p := by rw [List.length_map, List.length_take]; omega
    have rs := d.own.rn.sub (l := 0) (m := (p : Nat)) (by omega) (by omega) (by omega)
    rw [Int.toNat_natCast, Int.toNat_zero, List.drop_zero, ← List.map_take] at rs
    by_cases hpl' : p < G.length
    · obtain ⟨y, hy⟩ : ∃ y, G[p]? = some y := ⟨_, List.getElem?_eq_getElem hpl'⟩
      have hy2 := row_at hy
      have hpy := d.own.rn.elt hy2
      obtain ⟨lb, hlb⟩ : ∃ b, less y.1 x.1 = b := ⟨_, rfl⟩
      cases lb with
      | true =>
        repeat (first | refine AWp.seq ?_)
        refine AWp.draw (σ := [(0, .R), (1, .R), (2, .R), (3, .R), (4, .R), (5, .R), (6, .R), (7, .R), (8, .R), (9, .R), (10, .R), (11, .R), (12, .R), (13, .R), (14, .R), (15, .R), (16, .R), (17, .R), (18, .R), (19, .R)]) mixed (by kernel_rfl) ?_
        repeat (first | refine DAL.r rfl rfl rfl (fun h' hx hn => op_moveI rfl ⟨rfl, rfl⟩) ?_ | refine DAL.r rfl rfl rfl (fun h' hx hn => op_moveB rfl ⟨rfl, rfl⟩) ?_ | refine DAL.r rfl rfl rfl (fun h' hx hn => op_moveP rfl ⟨rfl, rfl⟩) ?_ | refine DAL.r rfl rfl rfl (fun h' hx hn => op_move (v := u) rfl ⟨rfl, rfl⟩) ?_ | refine DAL.r rfl rfl rfl (fun h' hx hn => op_lenN (d.own.rn.ext hx) rfl ⟨rfl, rfl⟩) ?_ | refine DAL.r rfl rfl rfl (fun h' hx hn => op_intT rfl rfl rfl (by rw [hGr]; omega) ⟨rfl, rfl⟩) ?_ | refine DAL.r rfl rfl rfl (fun h' hx hn => op_nilCheck rfl ⟨rfl, rfl⟩) ?_ | refine DAL.r rfl rfl rfl (fun h' hx hn => op_fa rfl ⟨rfl, rfl⟩) ?_ | refine DAL.r rfl rfl rfl (fun h' hx hn => op_load rfl rfl (hx.c _ _ rH.box) rfl ⟨rfl, rfl⟩) ?_ | refine DAL.r rfl rfl rfl (fun h' hx hn => op_indexND (rH.rn.ext hx) rfl rfl (by omega) hx2 ⟨rfl, rfl⟩) ?_ | refine DAL.r rfl rfl rfl (fun h' hx hn => op_indexND (d.own.rn.ext hx) rfl rfl (by omega) hy2 ⟨rfl, rfl⟩) ?_ | refine DAL.r rfl rfl rfl (fun h' hx hn => op_faN (hp.ext hx) rfl ⟨rfl, rfl⟩) ?_ | refine DAL.r rfl rfl rfl (fun h' hx hn => op_faN (hpy.ext hx) rfl ⟨rfl, rfl⟩) ?_ | refine DAL.r rfl rfl rfl (fun h' hx hn => op_loadF0 (off := 0) (hp.ext hx) rfl rfl rfl ⟨rfl, rfl⟩) ?_ | refine DAL.r rfl rfl rfl (fun h' hx hn => op_loadF0 (off := 0) (hpy.ext hx) rfl rfl rfl ⟨rfl, rfl⟩) ?_ | refine DAL.r rfl rfl rfl (fun h' hx hn => op_sLssB rfl rfl hlb ⟨rfl, rfl⟩) ?_ | refine DAL.r rfl rfl rfl (fun h' hx hn => op_pick rfl rfl ⟨rfl, rfl⟩) ?_)
        refine DAL.nil ?_
        repeat (first | refine AL.nil ?_ | refine AWp.region ?_ | refine AWp.condT rfl ?_ | refine AWp.block ?_ | refine AWp.skip ?_ | refine AL.set rfl rfl (op_moveI rfl ?_) | refine AL.set rfl rfl (op_assignI rfl ?_) | refine AL.set rfl rfl (op_add64 rfl rfl (by omega) ?_))
        refine ⟨p + 1, ⟨hpl', fun m z hm hz => ?_⟩, by omega, Weak.same (EW.cons rfl (EW.cons rfl (EW.cons rfl (EW.cons rfl EW.nil))))⟩
        by_cases hmp : m = p
        · subst hmp; rw [hy] at hz; cases hz; exact hlb
        · exact hp2 m z (by omega) hz
      | false =>
        have hpl := place_of (s := x.1) d.rise hp1 hp2 (fun z hz => by rw [hy] at hz; cases hz; exact hlb)
        repeat (first | refine AWp.seq ?_)
        refine AWp.draw (σ := [(0, .R), (1, .R), (2, .R), (3, .R), (4, .R), (5, .R), (6, .R), (7, .R), (8, .R), (9, .R), (10, .R), (11, .R), (12, .R), (13, .R), (14, .R), (15, .R), (16, .R), (17, .R), (18, .R), (19, .R)]) mixed (by kernel_rfl) ?_
        repeat (first | refine DAL.r rfl rfl rfl (fun h' hx hn => op_moveI rfl ⟨rfl, rfl⟩) ?_ | refine DAL.r rfl rfl rfl (fun h' hx hn => op_moveB rfl ⟨rfl, rfl⟩) ?_ | refine DAL.r rfl rfl rfl (fun h' hx hn => op_moveP rfl ⟨rfl, rfl⟩) ?_ | refine DAL.r rfl rfl rfl (fun h' hx hn => op_move (v := u) rfl ⟨rfl, rfl⟩) ?_ | refine DAL.r rfl rfl rfl (fun h' hx hn => op_lenN (d.own.rn.ext hx) rfl ⟨rfl, rfl⟩) ?_ | refine DAL.r rfl rfl rfl (fun h' hx hn => op_intT rfl rfl rfl (by rw [hGr]; omega) ⟨rfl, rfl⟩) ?_ | refine DAL.r rfl rfl rfl (fun h' hx hn => op_nilCheck rfl ⟨rfl, rfl⟩) ?_ | refine DAL.r rfl rfl rfl (fun h' hx hn => op_fa rfl ⟨rfl, rfl⟩) ?_ | refine DAL.r rfl rfl rfl (fun h' hx hn => op_load rfl rfl (hx.c _ _ rH.box) rfl ⟨rfl, rfl⟩) ?_ | refine DAL.r rfl rfl rfl (fun h' hx hn => op_indexND (rH.rn.ext hx) rfl rfl (by omega) hx2 ⟨rfl, rfl⟩) ?_ | refine DAL.r rfl rfl rfl (fun h' hx hn => op_indexND (d.own.rn.ext hx) rfl rfl (by omega) hy2 ⟨rfl, rfl⟩) ?_ | refine DAL.r rfl rfl rfl (fun h' hx hn => op_faN (hp.ext hx) rfl ⟨rfl, rfl⟩) ?_ | refine DAL.r rfl rfl rfl (fun h' hx hn => op_faN (hpy.ext hx) rfl ⟨rfl, rfl⟩) ?_ | refine DAL.r rfl rfl rfl (fun h' hx hn => op_loadF0 (off := 0) (hp.ext hx) rfl rfl rfl ⟨rfl, rfl⟩) ?_ | refine DAL.r rfl rfl rfl (fun h' hx hn => op_loadF0 (off := 0) (hpy.ext hx) rfl rfl rfl ⟨rfl, rfl⟩) ?_ | refine DAL.r rfl rfl rfl (fun h' hx hn => op_sLssB rfl rfl hlb ⟨rfl, rfl⟩) ?_ | refine DAL.r rfl rfl rfl (fun h' hx hn => op_pick rfl rfl ⟨rfl, rfl⟩) ?_)
        refine DAL.nil ?_
        repeat (first | refine AWp.condF rfl ?_ | refine AWp.exit ?_)
        refine AWp.tree (t := OT.seq [(0, .P), (1, .P), (2, .P), (4, .P), (5, .P), (6, .P), (7, .R), (8, .P), (9, .R), (10, .R), (13, .P), (14, .P), (15, .P)] (.alt (OT.seq [(3, .X), (11, .X), (12, .W), (16, .W), (17, .P)] .nil) (OT.seq [(11, .X), (3, .X), (12, .W), (16, .W), (17, .P)] .nil))) mixed (by kernel_rfl) ?_
        repeat (first | refine TAL.r rfl rfl rfl (fun h' hx hn => op_load rfl rfl (hx.c _ _ rH.box) rfl ⟨rfl, rfl⟩) ?_ | refine TAL.r rfl rfl rfl (fun h' hx hn => op_indexND (rH.rn.ext hx) rfl rfl (by omega) hx2 ⟨rfl, rfl⟩) ?_ | refine TAL.r rfl rfl rfl (fun h' hx hn => op_loadN (hp.ext hx) rfl rfl rfl ⟨rfl, rfl⟩) ?_ | refine TAL.p rfl rfl rfl (fun h' hn => op_moveI rfl ⟨rfl, rfl⟩) ?_ | refine TAL.p rfl rfl rfl (fun h' hn => op_moveP rfl ⟨rfl, rfl⟩) ?_ | refine TAL.p rfl rfl rfl (fun h' hn => op_move (v := u) rfl ⟨rfl, rfl⟩) ?_ | refine TAL.p rfl rfl rfl (fun h' hn => op_sliceP (l := 0) (m := (p : Nat)) hsh rfl rfl rfl (by omega) (by omega) (by omega) ⟨rfl, rfl⟩) ?_ | refine TAL.p rfl rfl rfl (fun h' hn => op_sliceP (l := (p : Nat)) (m := (G.length : Nat)) hsh rfl rfl rfl (by omega) (by omega) (by omega) ⟨rfl, rfl⟩) ?_ | refine TAL.p rfl rfl rfl (fun h' hn => op_nilCheck rfl ⟨rfl, rfl⟩) ?_ | refine TAL.p rfl rfl rfl (fun h' hn => op_fa rfl ⟨rfl, rfl⟩) ?_)
        refine TAL.two ?_ ?_
        · refine TAL.x rfl rfl rfl (op_cloneN (z := .agg #[.string ⟨#[]⟩, .string ⟨#[]⟩, .string ⟨#[]⟩]) rfl d.wf rs rfl rfl (by simp only [maxLen, List.length_map, List.length_take]; omega) (by simp only [List.length_map, List.length_take]; omega) ?_)
          intro u2 H2 o2 x2 wf2 n2 _
          refine ⟨x2, ?_⟩
          refine TAL.x rfl rfl rfl (op_rowN1 (sz := 3) (row := rowR x) (by decide) (by decide) rfl rfl ?_)
          refine ⟨wf2.ext _, ?_⟩
          have x3 := x2.trans (wf2.ext (rfB x))
          have wf3 := wf2.alloc (rfB x)
          have g3 := Heap.alloc_new H2 (rfB x)
          have n3 : (H2.alloc (rfB x)).next = H2.next + 1 := rfl
          have o3 := o2.ext (wf2.ext (rfB x))
          generalize H2.alloc (rfB x) = H3 at x3 wf3 g3 n3 o3 ⊢
          refine TAL.w rfl rfl rfl (op_appendN (m := 1) (z := .agg #[.string ⟨#[]⟩, .string ⟨#[]⟩, .string ⟨#[]⟩]) (news := [rowR x]) rfl wf3 (show H.next ≤ H3.next by omega) o3 rfl rfl (RN.row1 rfl g3).src rfl (by simp [rowR]) rfl (by simp only [maxLen]; omega) (by omega) ?_)
          intro u4 H4 o4 hf4 k4 wf4 n4
          have x4 : Ext H H4 := x3.keep k4 d.wf fun q hq => o3.blk q hq
          have r4 := (d.own.rn.ext x4).sub (l := (p : Nat)) (m := (G.length : Nat)) (by omega) (by omega) (by rw [List.length_map]; omega)
          have hr4l : ((List.take ((G.length : Nat) : Int).toNat (G.map rowR)).drop ((p : Nat) : Int).toNat) = (G.drop p).map rowR := by rw [Int.toNat_natCast, Int.toNat_natCast, ← List.map_take, ← List.map_drop, List.take_length]
          rw [hr4l] at r4
          have hl4 : ((G.take p).map rowR ++ [rowR x]).length = p + 1 := by simp; omega
          have hl5 : ((G.drop p).map rowR).length = G.length - p := by simp
          refine TAL.w rfl rfl rfl (op_appendN (m := ((G.drop p).map rowR).length) (z := .agg #[.string ⟨#[]⟩, .string ⟨#[]⟩, .string ⟨#[]⟩]) (news := (G.drop p).map rowR) rfl wf4 (show H.next ≤ H4.next by omega) o4 rfl rfl r4.src rfl (rows_len _) (rows_one _) (by simp only [maxLen]; omega) (by omega) ?_)
          intro u5 H5 o5 _ k5 wf5 n5
          have x5 : Ext H H5 := x4.keep k5 d.wf fun q hq => o4.blk q hq
          repeat (first | refine TAL.p rfl rfl rfl (fun h' hn => op_assign (v := u5) rfl ⟨rfl, rfl⟩) ?_)
          refine TAL.nil ?_
          repeat (first | refine AL.nil ?_ | refine AWp.region ?_ | refine AL.set rfl rfl (op_moveI rfl ?_) | refine AL.set rfl rfl (op_assignI rfl ?_) | refine AL.set rfl rfl (op_add64 rfl rfl (by omega) ?_))
          have hrow : (G.take p).map rowR ++ [rowR x] ++ (G.drop p).map rowR = (G.take p ++ x :: G.drop p).map rowR := by simp
          rw [hrow] at o5
          have hnm : (G.take p ++ x :: G.drop p).map (·.1) = insN (G.map (·.1)) p x.1 := by simp [insN, List.map_take, List.map_drop]
          refine ⟨(i + 1, u5, G.take p ++ x :: G.drop p, H5), ⟨hlt, ⟨o5.low d.nx, ?_, ?_, d.ext.trans x5, wf5, by show h.next ≤ H5.next; have := d.nx; omega⟩⟩, by show F.length - (i + 1) < F.length - i; omega, Weak.same (EW.cons rfl (EW.cons rfl (EW.cons rfl EW.nil)))⟩
          · rw [List.take_add_one, hx]
            refine List.perm_middle.trans ?_
            rw [List.take_append_drop]
            exact (List.Perm.cons _ d.perm).trans (List.perm_append_comm (l₁ := [x]))
          · rw [hnm]
            exact insN_rise d.rise hpl hnot
        · refine TAL.x rfl rfl rfl (op_rowN1 (sz := 3) (row := rowR x) (by decide) (by decide) rfl rfl ?_)
          refine ⟨d.wf.ext _, ?_⟩
          have x2 := d.wf.ext (rfB x)
          have wf2 := d.wf.alloc (rfB x)
          have g2 := Heap.alloc_new H (rfB x)
          have n2 : (H.alloc (rfB x)).next = H.next + 1 := rfl
          generalize H.alloc (rfB x) = H2 at x2 wf2 g2 n2 ⊢
          refine TAL.x rfl rfl rfl (op_cloneN (z := .agg #[.string ⟨#[]⟩, .string ⟨#[]⟩, .string ⟨#[]⟩]) rfl wf2 (rs.ext x2) rfl rfl (by simp only [maxLen, List.length_map, List.length_take]; omega) (by simp only [List.length_map, List.length_take]; omega) ?_)
          intro u3 H3 o3' x3' wf3 n3 _
          refine ⟨x3', ?_⟩
          have x3 := x2.trans x3'
          have g3 := x3'.c _ _ g2
          have o3 := o3'.low (show H.next ≤ H2.next by omega)
          refine TAL.w rfl rfl rfl (op_appendN (m := 1) (z := .agg #[.string ⟨#[]⟩, .string ⟨#[]⟩, .string ⟨#[]⟩]) (news := [rowR x]) rfl wf3 (show H.next ≤ H3.next by omega) o3 rfl rfl (RN.row1 rfl g3).src rfl (by simp [rowR]) rfl (by simp only [maxLen]; omega) (by omega) ?_)
          intro u4 H4 o4 hf4 k4 wf4 n4
          have x4 : Ext H H4 := x3.keep k4 d.wf fun q hq => o3.blk q hq
          have r4 := (d.own.rn.ext x4).sub (l := (p : Nat)) (m := (G.length : Nat)) (by omega) (by omega) (by rw [List.length_map]; omega)
          have hr4l : ((List.take ((G.length : Nat) : Int).toNat (G.map rowR)).drop ((p : Nat) : Int).toNat) = (G.drop p).map rowR := by rw [Int.toNat_natCast, Int.toNat_natCast, ← List.map_take, ← List.map_drop, List.take_length]
          rw [hr4l] at r4
          have hl4 : ((G.take p).map rowR ++ [rowR x]).length = p + 1 := by simp; omega
          have hl5 : ((G.drop p).map rowR).length = G.length - p := by simp
          refine TAL.w rfl rfl rfl (op_appendN (m := ((G.drop p).map rowR).length) (z := .agg #[.string ⟨#[]⟩, .string ⟨#[]⟩, .string ⟨#[]⟩]) (news := (G.drop p).map rowR) rfl wf4 (show H.next ≤ H4.next by omega) o4 rfl rfl r4.src rfl (rows_len _) (rows_one _) (by simp only [maxLen]; omega) (by omega) ?_)
          intro u5 H5 o5 _ k5 wf5 n5
          have x5 : Ext H H5 := x4.keep k5 d.wf fun q hq => o4.blk q hq
          repeat (first | refine TAL.p rfl rfl rfl (fun h' hn => op_assign (v := u5) rfl ⟨rfl, rfl⟩) ?_)
          refine TAL.nil ?_
          repeat (first | refine AL.nil ?_ | refine AWp.region ?_ | refine AL.set rfl rfl (op_moveI rfl ?_) | refine AL.set rfl rfl (op_assignI rfl ?_) | refine AL.set rfl rfl (op_add64 rfl rfl (by omega) ?_))
          have hrow : (G.take p).map rowR ++ [rowR x] ++ (G.drop p).map rowR = (G.take p ++ x :: G.drop p).map rowR := by simp
          rw [hrow] at o5
          have hnm : (G.take p ++ x :: G.drop p).map (·.1) = insN (G.map (·.1)) p x.1 := by simp [insN, List.map_take, List.map_drop]
          refine ⟨(i + 1, u5, G.take p ++ x :: G.drop p, H5), ⟨hlt, ⟨o5.low d.nx, ?_, ?_, d.ext.trans x5, wf5, by show h.next ≤ H5.next; have := d.nx; omega⟩⟩, by show F.length - (i + 1) < F.length - i; omega, Weak.same (EW.cons rfl (EW.cons rfl (EW.cons rfl EW.nil)))⟩
          · rw [List.take_add_one, hx]
            refine List.perm_middle.trans ?_
            rw [List.take_append_drop]
            exact (List.Perm.cons _ d.perm).trans (List.perm_append_comm (l₁ := [x]))
          · rw [hnm]
            exact insN_rise d.rise hpl hnot
    · have hpe : p = G.length := by omega
      have hpl := place_of (s := x.1) d.rise hp1 hp2 (fun z hz => by have := (List.getElem?_eq_some_iff.1 hz).1; omega)
      repeat (first | refine AWp.seq ?_)
      refine AWp.draw (σ := [(0, .R), (1, .R), (2, .R), (3, .R), (4, .R), (5, .R), (6, .R), (7, .R), (8, .R), (9, .R), (10, .R), (11, .R), (12, .R), (13, .R), (14, .R), (15, .R), (16, .R), (17, .R), (18, .R), (19, .R)]) mixed (by kernel_rfl) ?_
      repeat (first | refine DAL.r rfl rfl rfl (fun h' hx hn => op_moveI rfl ⟨rfl, rfl⟩) ?_ | refine DAL.r rfl rfl rfl (fun h' hx hn => op_moveB rfl ⟨rfl, rfl⟩) ?_ | refine DAL.r rfl rfl rfl (fun h' hx hn => op_move (v := u) rfl ⟨rfl, rfl⟩) ?_ | refine DAL.r rfl rfl rfl (fun h' hx hn => op_lenN (d.own.rn.ext hx) rfl ⟨rfl, rfl⟩) ?_ | refine DAL.r rfl rfl rfl (fun h' hx hn => op_intF rfl rfl rfl (by rw [hGr]; omega) ⟨rfl, rfl⟩) ?_ | refine DAL.r rfl rfl rfl (fun h' hx hn => op_pick rfl rfl ⟨rfl, rfl⟩) ?_ | refine DAL.skip rfl rfl rfl ?_)
      refine DAL.nil ?_
      repeat (first | refine AWp.condF rfl ?_ | refine AWp.exit ?_)
      refine AWp.tree (t := OT.seq [(0, .P), (1, .P), (2, .P), (4, .P), (5, .P), (6, .P), (7, .R), (8, .P), (9, .R), (10, .R), (13, .P), (14, .P), (15, .P)] (.alt (OT.seq [(3, .X), (11, .X), (12, .W), (16, .W), (17, .P)] .nil) (OT.seq [(11, .X), (3, .X), (12, .W), (16, .W), (17, .P)] .nil))) mixed (by kernel_rfl) ?_
      repeat (first | refine TAL.r rfl rfl rfl (fun h' hx hn => op_load rfl rfl (hx.c _ _ rH.box) rfl ⟨rfl, rfl⟩) ?_ | refine TAL.r rfl rfl rfl (fun h' hx hn => op_indexND (rH.rn.ext hx) rfl rfl (by omega) hx2 ⟨rfl, rfl⟩) ?_ | refine TAL.r rfl rfl rfl (fun h' hx hn => op_loadN (hp.ext hx) rfl rfl rfl ⟨rfl, rfl⟩) ?_ | refine TAL.p rfl rfl rfl (fun h' hn => op_moveI rfl ⟨rfl, rfl⟩) ?_ | refine TAL.p rfl rfl rfl (fun h' hn => op_moveP rfl ⟨rfl, rfl⟩) ?_ | refine TAL.p rfl rfl rfl (fun h' hn => op_move (v := u) rfl ⟨rfl, rfl⟩) ?_ | refine TAL.p rfl rfl rfl (fun h' hn => op_sliceP (l := 0) (m := (p : Nat)) hsh rfl rfl rfl (by omega) (by omega) (by omega) ⟨rfl, rfl⟩) ?_ | refine TAL.p rfl rfl rfl (fun h' hn => op_sliceP (l := (p : Nat)) (m := (G.length : Nat)) hsh rfl rfl rfl (by omega) (by omega) (by omega) ⟨rfl, rfl⟩) ?_ | refine TAL.p rfl rfl rfl (fun h' hn => op_nilCheck rfl ⟨rfl, rfl⟩) ?_ | refine TAL.p rfl rfl rfl (fun h' hn => op_fa rfl ⟨rfl, rfl⟩) ?_)
      refine TAL.two ?_ ?_
      · refine TAL.x rfl rfl rfl (op_cloneN (z := .agg #[.string ⟨#[]⟩, .string ⟨#[]⟩, .string ⟨#[]⟩]) rfl d.wf rs rfl rfl (by simp only [maxLen, List.length_map, List.length_take]; omega) (by simp only [List.length_map, List.length_take]; omega) ?_)
        intro u2 H2 o2 x2 wf2 n2 _
        refine ⟨x2, ?_⟩
        refine TAL.x rfl rfl rfl (op_rowN1 (sz := 3) (row := rowR x) (by decide) (by decide) rfl rfl ?_)
        refine ⟨wf2.ext _, ?_⟩
        have x3 := x2.trans (wf2.ext (rfB x))
        have wf3 := wf2.alloc (rfB x)
        have g3 := Heap.alloc_new H2 (rfB x)
        have n3 : (H2.alloc (rfB x)).next = H2.next + 1 := rfl
        have o3 := o2.ext (wf2.ext (rfB x))
        generalize H2.alloc (rfB x) = H3 at x3 wf3 g3 n3 o3 ⊢
        refine TAL.w rfl rfl rfl (op_appendN (m := 1) (z := .agg #[.string ⟨#[]⟩, .string ⟨#[]⟩, .string ⟨#[]⟩]) (news := [rowR x]) rfl wf3 (show H.next ≤ H3.next by omega) o3 rfl rfl (RN.row1 rfl g3).src rfl (by simp [rowR]) rfl (by simp only [maxLen]; omega) (by omega) ?_)
        intro u4 H4 o4 hf4 k4 wf4 n4
        have x4 : Ext H H4 := x3.keep k4 d.wf fun q hq => o3.blk q hq
        have r4 := (d.own.rn.ext x4).sub (l := (p : Nat)) (m := (G.length : Nat)) (by omega) (by omega) (by rw [List.length_map]; omega)
        have hr4l : ((List.take ((G.length : Nat) : Int).toNat (G.map rowR)).drop ((p : Nat) : Int).toNat) = (G.drop p).map rowR := by rw [Int.toNat_natCast, Int.toNat_natCast, ← List.map_take, ← List.map_drop, List.take_length]
        rw [hr4l] at r4
        have hl4 : ((G.take p).map rowR ++ [rowR x]).length = p + 1 := by simp; omega
        have hl5 : ((G.drop p).map rowR).length = G.length - p := by simp
        refine TAL.w rfl rfl rfl (op_appendN (m := ((G.drop p).map rowR).length) (z := .agg #[.string ⟨#[]⟩, .string ⟨#[]⟩, .string ⟨#[]⟩]) (news := (G.drop p).map rowR) rfl wf4 (show H.next ≤ H4.next by omega) o4 rfl rfl r4.src rfl (rows_len _) (rows_one _) (by simp only [maxLen]; omega) (by omega) ?_)
        intro u5 H5 o5 _ k5 wf5 n5
        have x5 : Ext H H5 := x4.keep k5 d.wf fun q hq => o4.blk q hq
        repeat (first | refine TAL.p rfl rfl rfl (fun h' hn => op_assign (v := u5) rfl ⟨rfl, rfl⟩) ?_)
        refine TAL.nil ?_
        repeat (first | refine AL.nil ?_ | refine AWp.region ?_ | refine AL.set rfl rfl (op_moveI rfl ?_) | refine AL.set rfl rfl (op_assignI rfl ?_) | refine AL.set rfl rfl (op_add64 rfl rfl (by omega) ?_))
        have hrow : (G.take p).map rowR ++ [rowR x] ++ (G.drop p).map rowR = (G.take p ++ x :: G.drop p).map rowR := by simp
        rw [hrow] at o5
        have hnm : (G.take p ++ x :: G.drop p).map (·.1) = insN (G.map (·.1)) p x.1 := by simp [insN, List.map_take, List.map_drop]
        refine ⟨(i + 1, u5, G.take p ++ x :: G.drop p, H5), ⟨hlt, ⟨o5.low d.nx, ?_, ?_, d.ext.trans x5, wf5, by show h.next ≤ H5.next; have := d.nx; omega⟩⟩, by show F.length - (i + 1) < F.length - i; omega, Weak.same (EW.cons rfl (EW.cons rfl (EW.cons rfl EW.nil)))⟩
        · rw [List.take_add_one, hx]
          refine List.perm_middle.trans ?_
          rw [List.take_append_drop]
          exact (List.Perm.cons _ d.perm).trans (List.perm_append_comm (l₁ := [x]))
        · rw [hnm]
          exact insN_rise d.rise hpl hnot
      · refine TAL.x rfl rfl rfl (op_rowN1 (sz := 3) (row := rowR x) (by decide) (by decide) rfl rfl ?_)
        refine ⟨d.wf.ext _, ?_⟩
        have x2 := d.wf.ext (rfB x)
        have wf2 := d.wf.alloc (rfB x)
        have g2 := Heap.alloc_new H (rfB x)
        have n2 : (H.alloc (rfB x)).next = H.next + 1 := rfl
        generalize H.alloc (rfB x) = H2 at x2 wf2 g2 n2 ⊢
        refine TAL.x rfl rfl rfl (op_cloneN (z := .agg #[.string ⟨#[]⟩, .string ⟨#[]⟩, .string ⟨#[]⟩]) rfl wf2 (rs.ext x2) rfl rfl (by simp only [maxLen, List.length_map, List.length_take]; omega) (by simp only [List.length_map, List.length_take]; omega) ?_)
        intro u3 H3 o3' x3' wf3 n3 _
        refine ⟨x3', ?_⟩
        have x3 := x2.trans x3'
        have g3 := x3'.c _ _ g2
        have o3 := o3'.low (show H.next ≤ H2.next by omega)
        refine TAL.w rfl rfl rfl (op_appendN (m := 1) (z := .agg #[.string ⟨#[]⟩, .string ⟨#[]⟩, .string ⟨#[]⟩]) (news := [rowR x]) rfl wf3 (show H.next ≤ H3.next by omega) o3 rfl rfl (RN.row1 rfl g3).src rfl (by simp [rowR]) rfl (by simp only [maxLen]; omega) (by omega) ?_)
        intro u4 H4 o4 hf4 k4 wf4 n4
        have x4 : Ext H H4 := x3.keep k4 d.wf fun q hq => o3.blk q hq
        have r4 := (d.own.rn.ext x4).sub (l := (p : Nat)) (m := (G.length : Nat)) (by omega) (by omega) (by rw [List.length_map]; omega)
        have hr4l : ((List.take ((G.length : Nat) : Int).toNat (G.map rowR)).drop ((p : Nat) : Int).toNat) = (G.drop p).map rowR := by rw [Int.toNat_natCast, Int.toNat_natCast, ← List.map_take, ← List.map_drop, List.take_length]
        rw [hr4l] at r4
        have hl4 : ((G.take p).map rowR ++ [rowR x]).length = p + 1 := by simp; omega
        have hl5 : ((G.drop p).map rowR).length = G.length - p := by simp
        refine TAL.w rfl rfl rfl (op_appendN (m := ((G.drop p).map rowR).length) (z := .agg #[.string ⟨#[]⟩, .string ⟨#[]⟩, .string ⟨#[]⟩]) (news := (G.drop p).map rowR) rfl wf4 (show H.next ≤ H4.next by omega) o4 rfl rfl r4.src rfl (rows_len _) (rows_one _) (by simp only [maxLen]; omega) (by omega) ?_)
        intro u5 H5 o5 _ k5 wf5 n5
        have x5 : Ext H H5 := x4.keep k5 d.wf fun q hq => o4.blk q hq
        repeat (first | refine TAL.p rfl rfl rfl (fun h' hn => op_assign (v := u5) rfl ⟨rfl, rfl⟩) ?_)
        refine TAL.nil ?_
        repeat (first | refine AL.nil ?_ | refine AWp.region ?_ | refine AL.set rfl rfl (op_moveI rfl ?_) | refine AL.set rfl rfl (op_assignI rfl ?_) | refine AL.set rfl rfl (op_add64 rfl rfl (by omega) ?_))
        have hrow : (G.take p).map rowR ++ [rowR x] ++ (G.drop p).map rowR = (G.take p ++ x :: G.drop p).map rowR := by simp
        rw [hrow] at o5
        have hnm : (G.take p ++ x :: G.drop p).map (·.1) = insN (G.map (·.1)) p x.1 := by simp [insN, List.map_take, List.map_drop]
        refine ⟨(i + 1, u5, G.take p ++ x :: G.drop p, H5), ⟨hlt, ⟨o5.low d.nx, ?_, ?_, d.ext.trans x5, wf5, by show h.next ≤ H5.next; have := d.nx; omega⟩⟩, by show F.length - (i + 1) < F.length - i; omega, Weak.same (EW.cons rfl (EW.cons rfl (EW.cons rfl EW.nil)))⟩
        · rw [List.take_add_one, hx]
          refine List.perm_middle.trans ?_
          rw [List.take_append_drop]
          exact (List.Perm.cons _ d.perm).trans (List.perm_append_comm (l₁ := [x]))
        · rw [hnm]
          exact insN_rise d.rise hpl hnot
  · obtain rfl : i = F.length := by omega
    have hpm := d.perm
    rw [List.take_length] at hpm
    repeat (first | refine AL.nil ?_ | refine AWp.seq ?_ | refine AWp.region ?_ | refine AWp.condF rfl ?_ | refine AWp.ret ?_ | refine AWp.exit ?_ | refine AL.set rfl rfl (op_moveI rfl ?_) | refine AL.set rfl rfl (op_moveB rfl ?_) | refine AL.set rfl rfl (op_moveP rfl ?_) | refine AL.set rfl rfl (op_nilCheck rfl ?_) | refine AL.set rfl rfl (op_fa rfl ?_) | refine AL.set rfl rfl (op_nePtrNil rfl rfl ?_) | refine AL.set rfl rfl (op_load rfl rfl rH.box rfl ?_) | refine AL.set rfl rfl (op_lenN rH.rn rfl ?_) | refine AL.set rfl rfl (op_intF rfl rfl rfl (by rw [List.length_map]; omega) ?_) | refine AL.set rfl rfl (op_pick rfl rfl ?_) | refine AL.set rfl rfl (op_move (v := u) rfl ?_) | refine AL.set rfl rfl (op_assign (v := u) rfl ?_))
    exact ⟨_, ResV.tmp rfl, G, d.own, hpm, d.rise, d.ext, d.wf, d.nx⟩
/-- Two rows of files, one by one. -/
instance : EqD Try.prog 61 [(0, .string), (1, .string), (2, .string)] := ⟨_, Try.underlying61, by kernel_rfl, by kernel_rfl, by kernel_rfl⟩
theorem eqRow_eq (f g : RF) : eqRows [(0, .string), (1, .string), (2, .string)] (rowR f) (rowR g) = decide (f = g) := by
  show (eqV (.string (bstr f.1)) (.string (bstr g.1)) && (eqV (.string (bstr f.2.1)) (.string (bstr g.2.1)) && (eqV (.string (bstr f.2.2)) (.string (bstr g.2.2)) && true))) = _
  rw [eqV_str, eqV_str, eqV_str, Bool.eq_iff_iff, decide_eq_true_iff]
  obtain ⟨a, b, c⟩ := f
  obtain ⟨a', b', c'⟩ := g
  simp
/-- The same files, in one order or another. -/
def sameR (room room' : Nat) (F F' : List RF) : Prop := room = room' ∧ F.Perm F'
theorem sorted_perm {G G' : List RF} (h1 : Rise (G.map (·.1))) (h2 : Rise (G'.map (·.1))) (hp : G.Perm G') : G = G' := by
  induction G generalizing G' with
  | nil => exact (List.Perm.nil_eq hp)
  | cons a G ih =>
    cases G' with
    | nil => exact absurd hp.length_eq (by simp)
    | cons b G' =>
      have hl := List.pairwise_cons.1 h1
      have hm := List.pairwise_cons.1 h2
      have hab : a = b := by
        rcases List.mem_cons.1 (hp.subset (by simp : a ∈ a :: G)) with e | e
        · exact e
        · rcases List.mem_cons.1 (hp.symm.subset (by simp : b ∈ b :: G')) with e2 | e2
          · exact e2.symm
          · have q1 := hm.1 a.1 (List.mem_map.2 ⟨a, e, rfl⟩)
            have q2 := hl.1 b.1 (List.mem_map.2 ⟨b, e2, rfl⟩)
            have := less_trans q1 q2
            rw [less_irrefl] at this; cases this
      subst hab
      rw [ih hl.2 hm.2 hp.cons_inv]
theorem rise_nodup {L : List (List UInt8)} (h : Rise L) : L.Nodup := List.Pairwise.imp (fun {a b} hab e => by subst e; rw [less_irrefl] at hab; cases hab) h
set_option maxHeartbeats 2000000 in
theorem rsame_c (j j' room room' : Nat) (v v' : Value) (F F' : List RF) (h : Heap) (r : RAt h j room v F) (r' : RAt h j' room' v' F') (hnd : (F.map (·.1)).Nodup) (hnd' : (F'.map (·.1)).Nodup) :
    ACalls Try.prog 36 [ptr j, ptr j'] h fun u h' => (∃ b, u = .bool b ∧ (b = true ↔ sameR room room' F F')) ∧ h' = h := by
  refine ACalls.wf fun wf => ACalls.reset ?_
  refine ACalls.body Try.func36 rfl rfl ?_
  have hc := r.cnt
  have hc' := r'.cnt
  repeat (first | refine AL.nil ?_ | refine AWp.seq ?_ | refine AWp.region ?_ | refine AWp.condF rfl ?_ | refine AWp.skip ?_ | refine AL.set rfl rfl (op_moveB rfl ?_) | refine AL.set rfl rfl (op_moveP rfl ?_) | refine AL.set rfl rfl (op_assignB rfl ?_) | refine AL.set rfl rfl (op_eqPtrNil rfl rfl ?_) | refine AL.set rfl rfl (op_pick rfl rfl ?_))
  refine AL.set rfl rfl (op_call rfl rfl ((files_c j room v F h r hnd).mono ?_))
  rintro u H1 ⟨G, o1, p1, s1, x1, wf1, n1⟩
  repeat (first | refine AL.set rfl rfl (op_moveP rfl ?_))
  refine AL.set rfl rfl (op_call rfl rfl ((files_c j' room' v' F' H1 (r'.ext x1) hnd').mono ?_))
  rintro u' H2 ⟨G', o2, p2, s2, x2, wf2, n2⟩
  have o1 := o1.ext x2
  have x := x1.trans x2
  have q1 := r.ext x
  have q2 := r'.ext x
  have l1 : (G.map rowR).length = F.length := by rw [List.length_map, p1.length_eq]
  have l2 : (G'.map rowR).length = F'.length := by rw [List.length_map, p2.length_eq]
  obtain ⟨ua, uc, rfl⟩ := o1.rn.slice
  obtain ⟨ua', uc', rfl⟩ := o2.rn.slice
  have hpm : F.Perm F' → G = G' := fun hp => sorted_perm s1 s2 (p1.trans (hp.trans p2.symm))
  repeat (first | refine AL.nil ?_ | refine AWp.seq ?_ | refine AL.set rfl rfl (op_assignS rfl ?_))
  by_cases hroom : room = room'
  · by_cases hll : F.length = F'.length
    · refine AWp.draw (σ := [(0, .R), (1, .R), (2, .R), (3, .R), (4, .R), (5, .R), (6, .R), (7, .R), (8, .R), (9, .R), (10, .R), (11, .R), (12, .R), (13, .R), (14, .R), (15, .R)]) mixed (by kernel_rfl) ?_
      repeat (first | refine DAL.r rfl rfl rfl (fun h' hx hn => op_moveS rfl ⟨rfl, rfl⟩) ?_ | refine DAL.r rfl rfl rfl (fun h' hx hn => op_moveB rfl ⟨rfl, rfl⟩) ?_ | refine DAL.r rfl rfl rfl (fun h' hx hn => op_moveP rfl ⟨rfl, rfl⟩) ?_ | refine DAL.r rfl rfl rfl (fun h' hx hn => op_nilCheck rfl ⟨rfl, rfl⟩) ?_ | refine DAL.r rfl rfl rfl (fun h' hx hn => op_fa rfl ⟨rfl, rfl⟩) ?_ | refine DAL.r rfl rfl rfl (fun h' hx hn => op_load rfl rfl (hx.c _ _ q1.box) rfl ⟨rfl, rfl⟩) ?_ | refine DAL.r rfl rfl rfl (fun h' hx hn => op_load rfl rfl (hx.c _ _ q2.box) rfl ⟨rfl, rfl⟩) ?_ | refine DAL.r rfl rfl rfl (fun h' hx hn => op_intF rfl rfl rfl (by rw [l1, l2]; omega) ⟨rfl, rfl⟩) ?_ | refine DAL.r rfl rfl rfl (fun h' hx hn => op_intF rfl rfl rfl (by omega) ⟨rfl, rfl⟩) ?_ | refine DAL.r rfl rfl rfl (fun h' hx hn => op_pick rfl rfl ⟨rfl, rfl⟩) ?_ | refine DAL.r rfl rfl rfl (fun h' hx hn => op_lenS rfl ⟨rfl, rfl⟩) ?_)
      refine DAL.nil ?_
      repeat (first | refine AL.nil ?_ | refine AWp.seq ?_ | refine AWp.region ?_ | refine AWp.condF rfl ?_ | refine AWp.block ?_ | refine AWp.skip ?_ | refine AL.set rfl rfl (op_assignI rfl ?_))
      refine AWp.loop (α := Nat) (fun k => [(5, .slice ua (G.map rowR).length uc), (6, .slice ua' (G'.map rowR).length uc'), (7, .int .i64 (k : Nat))]) (fun _ => H2) (fun k => k ≤ F.length ∧ G.take k = G'.take k) (fun k => F.length - k) 0 ⟨Nat.zero_le _, rfl⟩ (Weak.same (EW.cons rfl (EW.cons rfl (EW.cons rfl EW.nil)))) ?_
      rintro k ⟨hk, hpre⟩
      by_cases hlt : k < F.length
      · obtain ⟨y, hy⟩ : ∃ y, G[k]? = some y := ⟨_, List.getElem?_eq_getElem (by rw [List.length_map] at l1; omega)⟩
        obtain ⟨z, hz⟩ : ∃ z, G'[k]? = some z := ⟨_, List.getElem?_eq_getElem (by rw [List.length_map] at l2; omega)⟩
        have hy2 := row_at hy
        have hz2 := row_at hz
        have py := o1.rn.elt hy2
        have pz := o2.rn.elt hz2
        have heq := eqRow_eq y z
        by_cases hyz : y = z
        · rw [decide_eq_true hyz] at heq
          repeat (first | refine AL.nil ?_ | refine AWp.seq ?_ | refine AWp.region ?_ | refine AWp.condT rfl ?_ | refine AWp.block ?_ | refine AWp.skip ?_ | refine AL.set rfl rfl (op_moveI rfl ?_) | refine AL.set rfl rfl (op_moveS rfl ?_) | refine AL.set rfl rfl (op_intT rfl rfl rfl (by rw [l1]; omega) ?_) | refine AL.set rfl rfl (op_lenS rfl ?_))
          refine AWp.draw (σ := [(0, .R), (1, .R), (2, .R), (3, .R), (4, .R), (5, .R), (6, .R), (7, .R), (8, .R)]) mixed (by kernel_rfl) ?_
          repeat (first | refine DAL.r rfl rfl rfl (fun h' hx hn => op_moveI rfl ⟨rfl, rfl⟩) ?_ | refine DAL.r rfl rfl rfl (fun h' hx hn => op_moveS rfl ⟨rfl, rfl⟩) ?_ | refine DAL.r rfl rfl rfl (fun h' hx hn => op_indexND (o1.rn.ext hx) rfl rfl (by omega) hy2 ⟨rfl, rfl⟩) ?_ | refine DAL.r rfl rfl rfl (fun h' hx hn => op_indexND (o2.rn.ext hx) rfl rfl (by omega) hz2 ⟨rfl, rfl⟩) ?_ | refine DAL.r rfl rfl rfl (fun h' hx hn => op_loadN (py.ext hx) rfl rfl rfl ⟨rfl, rfl⟩) ?_ | refine DAL.r rfl rfl rfl (fun h' hx hn => op_loadN (pz.ext hx) rfl rfl rfl ⟨rfl, rfl⟩) ?_ | refine DAL.r rfl rfl rfl (fun h' hx hn => op_neStB (xs := rowR y) (ys := rowR z) rfl rfl rfl heq ⟨rfl, rfl⟩) ?_)
          refine DAL.nil ?_
          repeat (first | refine AL.nil ?_ | refine AWp.region ?_ | refine AWp.condF rfl ?_ | refine AWp.skip ?_ | refine AL.set rfl rfl (op_moveI rfl ?_) | refine AL.set rfl rfl (op_assignI rfl ?_) | refine AL.set rfl rfl (op_add64 rfl rfl (by omega) ?_))
          refine ⟨k + 1, ⟨hlt, ?_⟩, by omega, Weak.same (EW.cons rfl (EW.cons rfl (EW.cons rfl EW.nil)))⟩
          rw [List.take_add_one, List.take_add_one, hpre, hy, hz, hyz]
        · rw [decide_eq_false hyz] at heq
          repeat (first | refine AL.nil ?_ | refine AWp.seq ?_ | refine AWp.region ?_ | refine AWp.condT rfl ?_ | refine AWp.block ?_ | refine AWp.skip ?_ | refine AL.set rfl rfl (op_moveI rfl ?_) | refine AL.set rfl rfl (op_moveS rfl ?_) | refine AL.set rfl rfl (op_intT rfl rfl rfl (by rw [l1]; omega) ?_) | refine AL.set rfl rfl (op_lenS rfl ?_))
          refine AWp.draw (σ := [(0, .R), (1, .R), (2, .R), (3, .R), (4, .R), (5, .R), (6, .R), (7, .R), (8, .R)]) mixed (by kernel_rfl) ?_
          repeat (first | refine DAL.r rfl rfl rfl (fun h' hx hn => op_moveI rfl ⟨rfl, rfl⟩) ?_ | refine DAL.r rfl rfl rfl (fun h' hx hn => op_moveS rfl ⟨rfl, rfl⟩) ?_ | refine DAL.r rfl rfl rfl (fun h' hx hn => op_indexND (o1.rn.ext hx) rfl rfl (by omega) hy2 ⟨rfl, rfl⟩) ?_ | refine DAL.r rfl rfl rfl (fun h' hx hn => op_indexND (o2.rn.ext hx) rfl rfl (by omega) hz2 ⟨rfl, rfl⟩) ?_ | refine DAL.r rfl rfl rfl (fun h' hx hn => op_loadN (py.ext hx) rfl rfl rfl ⟨rfl, rfl⟩) ?_ | refine DAL.r rfl rfl rfl (fun h' hx hn => op_loadN (pz.ext hx) rfl rfl rfl ⟨rfl, rfl⟩) ?_ | refine DAL.r rfl rfl rfl (fun h' hx hn => op_neStB (xs := rowR y) (ys := rowR z) rfl rfl rfl heq ⟨rfl, rfl⟩) ?_)
          refine DAL.nil ?_
          repeat (first | refine AL.nil ?_ | refine AWp.seq ?_ | refine AWp.region ?_ | refine AWp.condT rfl ?_ | refine AWp.ret ?_ | refine AL.set rfl rfl (op_assignB rfl ?_))
          refine ⟨_, ResV.tmp rfl, rfl, x, ⟨false, rfl, ?_⟩, rfl⟩
          simp only [Bool.false_eq_true, false_iff]
          rintro ⟨_, hp⟩
          have := hpm hp
          rw [this, hz] at hy
          cases hy
          exact hyz rfl
      · obtain rfl : k = F.length := by omega
        repeat (first | refine AL.nil ?_ | refine AWp.seq ?_ | refine AWp.region ?_ | refine AWp.condF rfl ?_ | refine AWp.ret ?_ | refine AWp.exit ?_ | refine AL.set rfl rfl (op_moveI rfl ?_) | refine AL.set rfl rfl (op_moveS rfl ?_) | refine AL.set rfl rfl (op_assignB rfl ?_) | refine AL.set rfl rfl (op_intF rfl rfl rfl (by rw [l1]; omega) ?_) | refine AL.set rfl rfl (op_lenS rfl ?_))
        refine ⟨_, ResV.tmp rfl, rfl, x, ⟨true, rfl, ?_⟩, rfl⟩
        simp only [true_iff]
        rw [List.length_map] at l1 l2
        rw [List.take_of_length_le (by omega), List.take_of_length_le (by omega)] at hpre
        subst hpre
        exact ⟨hroom, p1.symm.trans p2⟩
    · refine AWp.draw (σ := [(0, .R), (1, .R), (2, .R), (3, .R), (4, .R), (5, .R), (6, .R), (7, .R), (8, .R), (9, .R), (10, .R), (11, .R), (12, .R), (13, .R), (14, .R), (15, .R)]) mixed (by kernel_rfl) ?_
      repeat (first | refine DAL.r rfl rfl rfl (fun h' hx hn => op_moveS rfl ⟨rfl, rfl⟩) ?_ | refine DAL.r rfl rfl rfl (fun h' hx hn => op_moveB rfl ⟨rfl, rfl⟩) ?_ | refine DAL.r rfl rfl rfl (fun h' hx hn => op_moveP rfl ⟨rfl, rfl⟩) ?_ | refine DAL.r rfl rfl rfl (fun h' hx hn => op_nilCheck rfl ⟨rfl, rfl⟩) ?_ | refine DAL.r rfl rfl rfl (fun h' hx hn => op_fa rfl ⟨rfl, rfl⟩) ?_ | refine DAL.r rfl rfl rfl (fun h' hx hn => op_load rfl rfl (hx.c _ _ q1.box) rfl ⟨rfl, rfl⟩) ?_ | refine DAL.r rfl rfl rfl (fun h' hx hn => op_load rfl rfl (hx.c _ _ q2.box) rfl ⟨rfl, rfl⟩) ?_ | refine DAL.r rfl rfl rfl (fun h' hx hn => op_intT rfl rfl rfl (by rw [l1, l2]; omega) ⟨rfl, rfl⟩) ?_ | refine DAL.r rfl rfl rfl (fun h' hx hn => op_intF rfl rfl rfl (by omega) ⟨rfl, rfl⟩) ?_ | refine DAL.r rfl rfl rfl (fun h' hx hn => op_pick rfl rfl ⟨rfl, rfl⟩) ?_ | refine DAL.r rfl rfl rfl (fun h' hx hn => op_lenS rfl ⟨rfl, rfl⟩) ?_)
      refine DAL.nil ?_
      repeat (first | refine AL.nil ?_ | refine AWp.seq ?_ | refine AWp.region ?_ | refine AWp.condT rfl ?_ | refine AWp.ret ?_ | refine AL.set rfl rfl (op_assignB rfl ?_))
      refine ⟨_, ResV.tmp rfl, rfl, x, ⟨false, rfl, ?_⟩, rfl⟩
      simp only [Bool.false_eq_true, false_iff]
      exact fun hp => hll hp.2.length_eq
  · refine AWp.draw (σ := [(0, .R), (1, .R), (2, .R), (3, .R), (4, .R), (5, .R), (6, .R), (7, .R), (8, .R), (9, .R), (10, .R), (11, .R), (12, .R), (13, .R), (14, .R), (15, .R)]) mixed (by kernel_rfl) ?_
    repeat (first | refine DAL.r rfl rfl rfl (fun h' hx hn => op_moveB rfl ⟨rfl, rfl⟩) ?_ | refine DAL.r rfl rfl rfl (fun h' hx hn => op_moveP rfl ⟨rfl, rfl⟩) ?_ | refine DAL.r rfl rfl rfl (fun h' hx hn => op_nilCheck rfl ⟨rfl, rfl⟩) ?_ | refine DAL.r rfl rfl rfl (fun h' hx hn => op_fa rfl ⟨rfl, rfl⟩) ?_ | refine DAL.r rfl rfl rfl (fun h' hx hn => op_load rfl rfl (hx.c _ _ q1.box) rfl ⟨rfl, rfl⟩) ?_ | refine DAL.r rfl rfl rfl (fun h' hx hn => op_load rfl rfl (hx.c _ _ q2.box) rfl ⟨rfl, rfl⟩) ?_ | refine DAL.r rfl rfl rfl (fun h' hx hn => op_intT rfl rfl rfl (by omega) ⟨rfl, rfl⟩) ?_ | refine DAL.r rfl rfl rfl (fun h' hx hn => op_pick rfl rfl ⟨rfl, rfl⟩) ?_ | refine DAL.skip rfl rfl rfl ?_)
    refine DAL.nil ?_
    repeat (first | refine AL.nil ?_ | refine AWp.seq ?_ | refine AWp.region ?_ | refine AWp.condT rfl ?_ | refine AWp.ret ?_ | refine AL.set rfl rfl (op_assignB rfl ?_))
    refine ⟨_, ResV.tmp rfl, rfl, x, ⟨false, rfl, ?_⟩, rfl⟩
    simp only [Bool.false_eq_true, false_iff]
    exact fun hp => hroom hp.1
end Go.Proofs.Ytiebmncpdnbcjaa

/-
  What a crash leaves: names in their order; it finds room.
-/
namespace Go.Dsk
open Go Go.Eng

theorem place_ex {N : List (List UInt8)} (hr : Rise N) (s : List UInt8) : ∃ p, Place N s p := by
  induction N with
  | nil => exact ⟨0, ⟨Nat.le_refl _, by simp, by simp⟩⟩
  | cons a N ih =>
    have h := List.pairwise_cons.1 hr
    cases hc : less a s with
    | true =>
      obtain ⟨p, h1, h2, h3⟩ := ih h.2
      refine ⟨p + 1, by simpa using h1, fun x hx => ?_, fun x hx => h3 x (by simpa using hx)⟩
      rw [List.take_succ_cons] at hx
      rcases List.mem_cons.1 hx with rfl | hx
      · exact hc
      · exact h2 x hx
    | false =>
      refine ⟨0, Nat.zero_le _, by simp, fun x hx => ?_⟩
      rw [List.drop_zero] at hx
      rcases List.mem_cons.1 hx with rfl | hx
      · exact hc
      · cases hq : less x s with
        | false => rfl
        | true =>
          have := less_trans (h.1 x hx) hq
          rw [hc] at this; cases this
theorem sorted_ex : ∀ L : List (List UInt8), L.Nodup → ∃ N, Rise N ∧ ∀ x, x ∈ N ↔ x ∈ L
  | [], _ => ⟨[], List.Pairwise.nil, fun _ => Iff.rfl⟩
  | a :: L, hn => by
    rw [List.nodup_cons] at hn
    obtain ⟨N, h1, h2⟩ := sorted_ex L hn.2
    obtain ⟨p, hp⟩ := place_ex h1 a
    refine ⟨insN N p a, insN_rise h1 hp (fun h => hn.1 ((h2 a).1 h)), fun x => ?_⟩
    rw [insN_mem, h2, List.mem_cons]
theorem rise_nodup' {L : List (List UInt8)} (h : Rise L) : L.Nodup := List.Pairwise.imp (fun {a b} hab e => by subst e; rw [less_irrefl] at hab; cases hab) h
theorem used_left (l : FL) (out : KL) (N : List (List UInt8)) : used (leftL l out N) = (N.map fun s => (cutN l out s).length).sum := by
  unfold used leftL
  rw [List.map_map]
  have : ((fun e : List UInt8 × File × Nat => (allF e.2.1).length) ∘ fun x : List UInt8 × Nat => (x.1, ((cutN l out x.1, []) : File), x.2)) = (fun s => (cutN l out s).length) ∘ Prod.fst := by
    funext x
    simp [allF]
  rw [this, ← List.map_map, List.zipIdx_map_fst]
theorem cut_le (l : FL) (out : KL) (s : List UInt8) : (cutN l out s).length ≤ (allF (fileOf l s)).length := by
  unfold cutN
  rw [List.length_take]
  omega
theorem sum_le_map {α : Type} {f g : α → Nat} (h : ∀ x, f x ≤ g x) : ∀ L : List α, (L.map f).sum ≤ (L.map g).sum
  | [] => Nat.le_refl _
  | a :: L => by
    rw [List.map_cons, List.map_cons, List.sum_cons, List.sum_cons]
    have := h a
    have := sum_le_map h L
    omega
theorem sum_take_le {α : Type} (f : α → Nat) (L : List α) (k : Nat) : ((L.take k).map f).sum ≤ (L.map f).sum := by
  conv => rhs; rw [← List.take_append_drop k L]
  rw [List.map_append, List.sum_append]
  omega
theorem used_names {l : FL} (hn : (l.map (·.1)).Nodup) : used l = ((l.map (·.1)).map fun s => (allF (fileOf l s)).length).sum := by
  unfold used
  rw [List.map_map]
  congr 1
  apply List.map_congr_left
  intro e he
  have : getS l e.1 = some e.2.1 := mem_get hn (s := e.1) (v := e.2.1) (b := e.2.2) (by simpa using he)
  simp only [Function.comp, fileOf, this, Option.getD_some]
theorem left_room {l : FL} (hn : (l.map (·.1)).Nodup) (out : KL) {N : List (List UInt8)} (hN : Rise N) (hm : ∀ x, x ∈ N ↔ x ∈ l.map (·.1)) (k : Nat) : used (leftL l out (N.take k)) ≤ used l := by
  rw [used_left, used_names hn]
  have hp : N.Perm (l.map (·.1)) := (List.perm_ext_iff_of_nodup (rise_nodup' hN) hn).2 hm
  have h1 := sum_take_le (fun s => (cutN l out s).length) N k
  have h2 := sum_le_map (cut_le l out) N
  have h3 := (hp.map fun s => (allF (fileOf l s)).length).sum_nat
  omega
theorem left_ok {room c : Nat} {l : FL} (d : DOk room l c) (out : KL) {N : List (List UInt8)} (hN : Rise N) (hm : ∀ x, x ∈ N ↔ x ∈ l.map (·.1)) (k : Nat) (hk : k ≤ N.length) : DOk room (leftL l out (N.take k)) k := by
  have hp : N.Perm (l.map (·.1)) := (List.perm_ext_iff_of_nodup (rise_nodup' hN) d.names).2 hm
  have hl : N.length = l.length := by have := hp.length_eq; simpa using this
  have hkl : (N.take k).length = k := by rw [List.length_take]; omega
  have hb : (leftL l out (N.take k)).map (·.2.2) = List.range' 0 k := by
    unfold leftL
    rw [List.map_map]
    have : ((fun e : List UInt8 × File × Nat => e.2.2) ∘ fun x : List UInt8 × Nat => (x.1, ((cutN l out x.1, []) : File), x.2)) = Prod.snd := rfl
    rw [this, List.zipIdx_map_snd, hkl]
  refine ⟨?_, ?_, ?_, ?_, ?_, ?_⟩
  · rw [leftL_names]
    exact (rise_nodup' hN).sublist (List.take_sublist _ _)
  · rw [hb]
    exact List.nodup_range'
  · intro e he
    have : e.2.2 ∈ (leftL l out (N.take k)).map (·.2.2) := List.mem_map.2 ⟨e, he, rfl⟩
    rw [hb, List.mem_range'_1] at this
    omega
  · have := left_room d.names out hN hm k
    have := d.used
    omega
  · have : (leftL l out (N.take k)).length = k := by unfold leftL; simp; omega
    have := d.cnt
    omega
  · intro e he
    have : e.1 ∈ (leftL l out (N.take k)).map (·.1) := List.mem_map.2 ⟨e, he, rfl⟩
    rw [leftL_names] at this
    have h2 := (hm _).1 (List.mem_of_mem_take this)
    obtain ⟨x, hx, he2⟩ := List.mem_map.1 h2
    rw [← he2]
    exact d.good x hx
theorem left_step {l : FL} (out : KL) {N : List (List UInt8)} (hN : Rise N) {k : Nat} {s : List UInt8} (hs : N[k]? = some s) : leftL l out (N.take (k + 1)) = putD (leftL l out (N.take k)) s (cutN l out s, []) k := by
  have hkl := (List.getElem?_eq_some_iff.1 hs).1
  have hnot : s ∉ N.take k := by
    intro hm
    obtain ⟨m, hm⟩ := List.getElem?_of_mem hm
    have hmk : m < k := by have := (List.getElem?_eq_some_iff.1 hm).1; rw [List.length_take] at this; omega
    rw [List.getElem?_take_of_lt hmk] at hm
    have := rise_get hN hmk hm hs
    rw [less_irrefl] at this
    cases this
  rw [List.take_add_one, hs]
  have := leftL_push l out (N.take k) s hnot
  rw [List.length_take, Nat.min_eq_left (by omega)] at this
  exact this
theorem left_fit {room c : Nat} {l : FL} (d : DOk room l c) (out : KL) {N : List (List UInt8)} (hN : Rise N) (hm : ∀ x, x ∈ N ↔ x ∈ l.map (·.1)) {k : Nat} {s : List UInt8} (hs : N[k]? = some s) : used (delS (leftL l out (N.take k)) s) + (allF (cutN l out s, ([] : List UInt8))).length ≤ room := by
  have h1 := left_step (l := l) out hN hs
  have h2 := left_room d.names out hN hm (k + 1)
  rw [h1] at h2
  unfold putD at h2
  rw [used_push] at h2
  have := d.used
  omega
end Go.Dsk

/-
  A crash that leaves a disk.
-/
namespace Go.Proofs.Ytiebmncpdnbcjaa
open Go Go.Eng Go.Dsk
attribute [local irreducible] AWp AL DAL AOp XWp XL

theorem op_lookupK {ρ : Operand → Value} {h : Heap} {K : Value → Heap → Prop} {dst : Option Tmp} {ty : TypeId} {pos : String} {aft : Array Edge} {g : Option (Nat × Bool)} {x y : Operand} {i c : Nat} {s : List UInt8} {out : KL} {n : Int} (hx : ρ x = .map (some i)) (hy : ρ y = .string (bstr s))
    (hi : h.obj i = some (.map (ents (kvI out)) c)) (hn : (getS out s).getD 0 = n) (kk : K (.int .i64 n) h) : AOp Try.prog ⟨dst, .lookup 99 x y false, ty, pos, aft, g⟩ ρ h K := by
  refine op_lookup (z := .int .i64 0) hx hy hi rfl ?_
  rw [getS_kvI]
  subst hn
  cases hg : getS out s with
  | none => rw [hg] at kk; exact kk
  | some n => rw [hg] at kk; exact kk
/-- A crash on its way. -/
structure CrY (h : Heap) (i m room : Nat) (l : FL) (c p2 p6 p8 mk cc i' m' pa : Nat) (out : KL) (N : List (List UInt8)) (k : Nat) (H : Heap) : Prop where
  dk : At H i m room l c
  c2 : H.get p2 = some ⟨[ptr i], 26, true⟩
  c6 : H.get p6 = some ⟨[.map (some mk)], 99, true⟩
  c8 : H.get p8 = some ⟨[ptr i'], 26, true⟩
  km : H.obj mk = some (.map (ents (kvI out)) cc)
  nd : At H i' m' room (leftL l out (N.take k)) k
  ext : Ext h H
theorem CrY.grow {h : Heap} {i m room : Nat} {l : FL} {c p2 p6 p8 mk cc i' m' pa : Nat} {out : KL} {N : List (List UInt8)} {k : Nat} {H H' : Heap} (y : CrY h i m room l c p2 p6 p8 mk cc i' m' pa out N k H) (hx : Ext H H') : CrY h i m room l c p2 p6 p8 mk cc i' m' pa out N k H' :=
  ⟨⟨hx.c _ _ y.dk.box, hx.o _ _ y.dk.map, y.dk.ok, y.dk.big⟩, hx.c _ _ y.c2, hx.c _ _ y.c6, hx.c _ _ y.c8, hx.o _ _ y.km, ⟨hx.c _ _ y.nd.box, hx.o _ _ y.nd.map, y.nd.ok, y.nd.big⟩, y.ext.trans hx⟩
theorem op_sureF {ρ : Operand → Value} {h : Heap} {K : Value → Heap → Prop} {dst : Option Tmp} {ty : TypeId} {pos : String} {aft : Array Edge} {g : Option (Nat × Bool)} {x : Operand} {f : File} (hx : ρ x = fileV f) (kk : K (.string (bstr f.1)) h) : AOp Try.prog ⟨dst, .field 86 x 0, ty, pos, aft, g⟩ ρ h K :=
  op_field (fld := fd "sure" 9 0 "hectare/disk" 0) (d := .string) (vs := #[.string (bstr f.1), .string (bstr f.2)]) rfl rfl hx rfl kk
set_option maxHeartbeats 4000000 in
theorem crash_ok (i m room : Nat) (l : FL) (c : Nat) (v : Value) (ks : List (List UInt8 × Int)) (h : Heap) (a : At h i m room l c) (hv : KS h v ks) (hl : ks.length ≤ 1000000) (hn : ∀ x ∈ ks, x.1.length ≤ 4611686018427387904) (out : KL) (cc : Nat) (hk : keptS l ks = some (out, cc, 0)) (ht : ∀ s, 0 ≤ (getS out s).getD 0) :
    ACalls Try.prog 34 [ptr i, v] h fun u h' => ∃ i' m' N, u = .tuple #[ptr i', .int .i64 0] ∧ h.next ≤ i' ∧ h.next ≤ m' ∧ Rise N ∧ (∀ x, x ∈ N ↔ x ∈ l.map (·.1)) ∧ At h' i' m' room (leftL l out N) N.length ∧ Ext h h' ∧ WF h' ∧ h.next ≤ h'.next := by
  refine ACalls.wf fun wf => ?_
  refine ACalls.bodyX Try.func34 rfl (Nat.le_of_ble_eq_true rfl) fun bb => ?_
  obtain ⟨N, hN, hm⟩ := sorted_ex _ a.ok.names
  have hx1 := wf.ext ⟨[ptr i], 26, true⟩
  have wf1 := wf.alloc ⟨[ptr i], 26, true⟩
  have g1 := Heap.alloc_new h ⟨[ptr i], 26, true⟩
  repeat (first | refine XWp.seq ?_ | refine XWp.region ?_)
  refine XL.set rfl rfl rfl (op_box (v := ptr i) rfl (by intro e; cases e) ?_)
  refine XL.heap (show _ = h.alloc ⟨[ptr i], 26, true⟩ from rfl) ?_
  have hnn : (h.alloc ⟨[ptr i], 26, true⟩).next = h.next + 1 := rfl
  generalize h.alloc ⟨[ptr i], 26, true⟩ = H1 at hx1 wf1 g1 hnn ⊢
  have a1 : At H1 i m room l c := ⟨hx1.c _ _ a.box, hx1.o _ _ a.map, a.ok, a.big⟩
  obtain ⟨va, vc, rfl⟩ : ∃ a c, v = .slice a ks.length c := by
    rcases hv with ⟨rfl, rfl⟩ | ⟨i, o, s, c, rfl, _⟩
    · exact ⟨_, _, rfl⟩
    · exact ⟨_, _, rfl⟩
  repeat (first | refine XL.nil ?_ | refine XWp.seq ?_ | refine XWp.region ?_ | refine XWp.condF rfl ?_ | refine XWp.skip ?_ | refine XL.set rfl rfl rfl (op_moveS rfl ?_) | refine XL.set rfl rfl rfl (op_assignI rfl ?_) | refine XL.set rfl rfl rfl (op_assignP rfl ?_) | refine XL.set rfl rfl rfl (op_load rfl rfl g1 rfl ?_) | refine XL.set rfl rfl rfl (op_callS rfl rfl (on_c i room (used l : Nat) (some m) H1 a1.box) ?_) | refine XL.set rfl rfl rfl (op_call rfl rfl ((kept_c i m room l c _ ks H1 a1 (hv.ext hx1) hl hn).mono ?_)) | refine XL.set rfl rfl rfl (op_not rfl ?_))
  rintro u H2 ⟨(⟨h1, _⟩ | ⟨out', cc', e', h1, rfl, hmo⟩), hx2, wf2, hn2⟩
  · rw [hk] at h1; cases h1
  rw [hk] at h1; cases h1
  have a2 : At H2 i m room l c := ⟨hx2.c _ _ a1.box, hx2.o _ _ a1.map, a.ok, a.big⟩
  have g2 := hx2.c _ _ g1
  have x2 := hx1.trans hx2
  repeat (first | refine XL.set rfl rfl rfl (op_moveT rfl ?_) | refine XL.set rfl rfl rfl (op_extract rfl rfl ?_) | refine XL.set rfl rfl rfl (op_alloc (z := .map none) ?_))
  have gt3 := Heap.alloc_new H2 ⟨[.map none], 99, true⟩
  refine XL.eff rfl rfl (op_store (v := .map (some H1.next)) rfl rfl rfl gt3 rfl (by decide) ?_)
  refine XL.heap (h' := (H2.alloc ⟨[.map none], 99, true⟩).set H2.next ⟨[.map (some H1.next)], 99, true⟩) rfl ?_
  refine XL.heap (Heap.set_alloc _ _ _) ?_
  have hx3 := wf2.ext ⟨[.map (some H1.next)], 99, true⟩
  have wf3 := wf2.alloc ⟨[.map (some H1.next)], 99, true⟩
  have g6 := Heap.alloc_new H2 ⟨[.map (some H1.next)], 99, true⟩
  have n3 : (H2.alloc ⟨[.map (some H1.next)], 99, true⟩).next = H2.next + 1 := rfl
  generalize H2.alloc ⟨[.map (some H1.next)], 99, true⟩ = H3 at hx3 wf3 g6 n3 ⊢
  have a3 : At H3 i m room l c := ⟨hx3.c _ _ a2.box, hx3.o _ _ a2.map, a.ok, a.big⟩
  have g2 := hx3.c _ _ g2
  have hmo := hx3.o _ _ hmo
  have x3 := x2.trans hx3
  repeat (first | refine XL.nil ?_ | refine XWp.seq ?_ | refine XWp.region ?_ | refine XWp.condF rfl ?_ | refine XWp.skip ?_ | refine XL.set rfl rfl rfl (op_moveI rfl ?_) | refine XL.set rfl rfl rfl (op_assignI rfl ?_) | refine XL.set rfl rfl rfl (op_intF rfl rfl rfl (by omega) ?_) | refine XL.set rfl rfl rfl (op_load rfl rfl g2 rfl ?_) | refine XL.set rfl rfl rfl (op_nilCheck rfl ?_) | refine XL.set rfl rfl rfl (op_fa rfl ?_) | refine XL.set rfl rfl rfl (op_load rfl rfl a3.box rfl ?_) | refine XL.set rfl rfl rfl (op_makeMap ?_))
  have hx4 := wf3.extO (.map (ents []) 0)
  have wf4 := wf3.allocO (.map (ents []) 0)
  have g4 := Heap.allocO_new H3 (.map (ents []) 0)
  have n4 : (H3.allocO (.map (ents []) 0)).next = H3.next + 1 := rfl
  generalize H3.allocO (.map (ents []) 0) = H4 at hx4 wf4 g4 n4 ⊢
  refine XL.set rfl rfl rfl (op_buildS (out := [.int .i64 (room : Nat), .int .i64 0, .map (some H3.next)]) rfl rfl ?_)
  skip
  refine XL.set rfl rfl rfl (op_box (v := .agg #[.int .i64 (room : Nat), .int .i64 0, .map (some H3.next)]) rfl (by intro e; cases e) ?_)
  refine XL.heap (show _ = H4.alloc (dskB room ((used [] : Nat)) (some H3.next)) from rfl) ?_
  have hx5 := wf4.ext (dskB room ((used [] : Nat)) (some H3.next))
  have wf5 := wf4.alloc (dskB room ((used [] : Nat)) (some H3.next))
  have g5 := Heap.alloc_new H4 (dskB room ((used [] : Nat)) (some H3.next))
  have n5 : (H4.alloc (dskB room ((used [] : Nat)) (some H3.next))).next = H4.next + 1 := rfl
  have g4 := hx5.o _ _ g4
  generalize H4.alloc (dskB room ((used [] : Nat)) (some H3.next)) = H5 at hx5 wf5 g5 n5 g4 ⊢
  repeat (first | refine XL.set rfl rfl rfl (op_alloc (z := .pointer none) ?_))
  have gt6 := Heap.alloc_new H5 ⟨[.pointer none], 26, true⟩
  refine XL.eff rfl rfl (op_store (v := ptr H4.next) rfl rfl rfl gt6 rfl (by decide) ?_)
  refine XL.heap (h' := (H5.alloc ⟨[.pointer none], 26, true⟩).set H5.next ⟨[ptr H4.next], 26, true⟩) rfl ?_
  refine XL.heap (Heap.set_alloc _ _ _) ?_
  have hx6 := wf5.ext ⟨[ptr H4.next], 26, true⟩
  have wf6 := wf5.alloc ⟨[ptr H4.next], 26, true⟩
  have g8 := Heap.alloc_new H5 ⟨[ptr H4.next], 26, true⟩
  have n6 : (H5.alloc ⟨[ptr H4.next], 26, true⟩).next = H5.next + 1 := rfl
  have g5 := hx6.c _ _ g5
  have g4 := hx6.o _ _ g4
  generalize H5.alloc ⟨[ptr H4.next], 26, true⟩ = H6 at hx6 wf6 g8 n6 g5 g4 ⊢
  have x36 := (hx4.trans hx5).trans hx6
  have g2 := x36.c _ _ g2
  have g6 := x36.c _ _ g6
  have hmo := x36.o _ _ hmo
  have x6 := x3.trans x36
  have a6 : At H6 i m room l c := ⟨x36.c _ _ a3.box, x36.o _ _ a3.map, a.ok, a.big⟩
  have y6 : CrY h i m room l c h.next H2.next H5.next H1.next cc H4.next H3.next 0 out N 0 H6 := ⟨a6, g2, g6, g8, hmo, ⟨g5, g4, ⟨by simp [leftL], by simp [leftL], by simp [leftL], by simp [leftL, used], by simp [leftL], by simp [leftL]⟩, a.big⟩, x6⟩
  repeat (first | refine XL.nil ?_ | refine XWp.seq ?_ | refine XWp.region ?_ | refine XL.set rfl rfl rfl (op_load rfl rfl g2 rfl ?_) | refine XL.set rfl rfl rfl (op_call rfl rfl ((dall_c (some ⟨i, 0, none⟩) H6).mono ?_)))
  rintro _ H7 ⟨rfl, hx7, gp, wf7, n7⟩
  have y7 := y6.grow hx7
  have a7 := y7.dk
  have hNl : N.length = l.length := by
    have := ((List.perm_ext_iff_of_nodup (rise_nodup' hN) a.ok.names).2 hm).length_eq
    simpa using this
  repeat (first | refine XL.nil ?_ | refine XWp.block ?_)
  refine XWp.rangeFunc (ι := Nat × Heap) (fi := []) (ca := [ptr H6.next]) (PreA l N (CrY h i m room l c h.next H2.next H5.next H1.next cc H4.next H3.next 0 out N)) (TA (fun j => j = H4.next ∨ j = H3.next) (CrY h i m room l c h.next H2.next H5.next H1.next cc H4.next H3.next 0 out N)) (fun _ _ _ => False) (fun H => CrY h i m room l c h.next H2.next H5.next H1.next cc H4.next H3.next 0 out N N.length H) (fun _ _ => False)
    rfl (fun k e => e) (fun _ _ l => l) rfl ?_ ?_ ?_ ?_ ?_
  · rintro i H args ⟨s, q, rfl, _⟩; rfl
  · intro C1 y hq ys
    exact dall1_x C1 hq y H6.next i m room l c N H7 a7 gp hN hm (fun j => j = H4.next ∨ j = H3.next) (by rintro j (rfl | rfl) <;> omega) _ _ (fun k H H' hY hx _ => hY.grow hx) ys y7
  · rintro Ca Cb y ⟨k, G⟩ H args ⟨s, q, rfl, hs, hq, _, hY, rfl, wfH⟩
    replace hs : N[k]? = some s := hs
    have hpv : RB G (.slice (some ⟨q, 0, some 1⟩) (allF (fileOf l s)).length ((allF (fileOf l s)).length + 1)) (allF (fileOf l s)) := RS.own hq (bv_length _)
    replace hY : CrY h i m room l c h.next H2.next H5.next H1.next cc H4.next H3.next 0 out N k G := hY
    replace wfH : WF G := wfH
    show XWp Ca _ _ _ _ (setPs _ [.string (bstr s), .slice (some ⟨q, 0, some 1⟩) (allF (fileOf l s)).length ((allF (fileOf l s)).length + 1)] _) G none
    have hdk := hY.dk
    obtain ⟨f1, f2⟩ := fileOf_le a.ok s
    have hus := a.ok.used
    have hbg := a.big
    have hal : (allF (fileOf l s)).length = (fileOf l s).1.length + (fileOf l s).2.length := by simp [allF]
    obtain ⟨kn, hkn⟩ : ∃ n, (getS out s).getD 0 = n := ⟨_, rfl⟩
    have hk0 : 0 ≤ kn := by rw [← hkn]; exact ht s
    have hkl := (List.getElem?_eq_some_iff.1 hs).1
    have hput := put_c H4.next H3.next room (leftL l out (N.take k)) k s (cutN l out s, []) G hY.nd (left_fit a.ok out hN hm hs)
    have hcut : cutN l out s = (allF (fileOf l s)).take ((fileOf l s).1.length + (min kn (((allF (fileOf l s)).length : Int) - (fileOf l s).1.length)).toNat) := by unfold cutN; rw [hkn]
    repeat (first | refine XL.nil ?_ | refine XWp.seq ?_ | refine XWp.region ?_ | refine XWp.block ?_ | refine XL.set rfl rfl rfl (op_moveStr rfl ?_) | refine XL.set rfl rfl rfl (op_assignI rfl ?_) | refine XL.set rfl rfl rfl (op_assignS rfl ?_) | refine XL.set rfl rfl rfl (op_assignStr rfl ?_) | refine XL.set rfl rfl rfl (op_load rfl rfl hY.c2 rfl ?_) | refine XL.set rfl rfl rfl (op_nilCheck rfl ?_) | refine XL.set rfl rfl rfl (op_fa rfl ?_) | refine XL.set rfl rfl rfl (op_load rfl rfl hdk.box rfl ?_) | refine XL.set rfl rfl rfl (op_lookupF rfl rfl hdk.map ?_) | refine XL.set rfl rfl rfl (op_sureF rfl ?_) | refine XL.set rfl rfl rfl (op_lenSB rfl ?_))
    refine XWp.draw (σ := [(0, .R), (1, .R), (2, .R), (3, .R), (4, .R), (5, .R), (6, .R), (7, .R), (8, .R), (9, .R), (10, .R), (11, .R), (12, .R), (13, .R), (14, .R), (15, .R), (16, .W)]) mixed (by kernel_rfl) (by kernel_rfl) ?_
    obtain ⟨mm, hmm⟩ : ∃ mm, mm = min kn (((allF (fileOf l s)).length : Int) - (fileOf l s).1.length) := ⟨_, rfl⟩
    have hmin : (if (((allF (fileOf l s)).length : Int) - (fileOf l s).1.length) < kn then (((allF (fileOf l s)).length : Int) - (fileOf l s).1.length) else kn) = mm := by rw [hmm]; split <;> omega
    have hm1 : 0 ≤ mm := by omega
    have hm2 : (fileOf l s).1.length + mm ≤ (allF (fileOf l s)).length := by omega
    rw [← hmm] at hcut
    clear hmm
    have hsl : ∀ h', Ext G h' → RB h' (subS (.slice (some ⟨q, 0, some 1⟩) (allF (fileOf l s)).length ((allF (fileOf l s)).length + 1)) 0 (((fileOf l s).1.length : Int) + mm)) (cutN l out s) := by
      intro h' hx
      have := (hpv.ext hx).sub (l := 0) (m := ((fileOf l s).1.length : Int) + mm) (by omega) (by omega) (by omega)
      rw [Int.toNat_zero, List.drop_zero, show (((fileOf l s).1.length : Int) + mm).toNat = (fileOf l s).1.length + mm.toNat by omega] at this
      rw [hcut]
      exact this
    repeat (first | refine XDAL.r rfl rfl rfl (fun h' hx hn => op_moveI rfl ⟨rfl, rfl⟩) ?_ | refine XDAL.r rfl rfl rfl (fun h' hx hn => op_moveS rfl ⟨rfl, rfl⟩) ?_ | refine XDAL.r rfl rfl rfl (fun h' hx hn => op_moveStr rfl ⟨rfl, rfl⟩) ?_ | refine XDAL.r rfl rfl rfl (fun h' hx hn => op_load rfl rfl (hx.c _ _ hY.c8) rfl ⟨rfl, rfl⟩) ?_ | refine XDAL.r rfl rfl rfl (fun h' hx hn => op_load rfl rfl (hx.c _ _ hY.c6) rfl ⟨rfl, rfl⟩) ?_ | refine XDAL.r rfl rfl rfl (fun h' hx hn => op_lookupK rfl rfl (hx.o _ _ hY.km) hkn ⟨rfl, rfl⟩) ?_ | refine XDAL.r rfl rfl rfl (fun h' hx hn => op_min2 rfl rfl (by rw [hmin]; exact ⟨rfl, rfl⟩)) ?_ | refine XDAL.r rfl rfl rfl (fun h' hx hn => op_sliceDB (l := 0) (m := ((fileOf l s).1.length : Int) + mm) (hpv.ext hx) rfl rfl rfl (by omega) (by omega) (by omega) ⟨rfl, rfl⟩) ?_ | refine XDAL.r rfl rfl rfl (fun h' hx hn => op_bytesStrR (hsl _ hx) rfl ⟨rfl, rfl⟩) ?_ | refine XDAL.r rfl rfl rfl (fun h' hx hn => op_buildS (out := [.string (bstr (cutN l out s)), .string (bstr [])]) rfl rfl ⟨rfl, rfl⟩) ?_ | refine XDAL.r rfl rfl rfl (fun h' hx hn => op_add64 rfl rfl (by omega) ⟨rfl, rfl⟩) ?_ | refine XDAL.r rfl rfl rfl (fun h' hx hn => op_sub64 rfl rfl (by omega) ⟨rfl, rfl⟩) ?_ | refine XDAL.r rfl rfl rfl (fun h' hx hn => op_lenS rfl ⟨rfl, rfl⟩) ?_)
    refine XDAL.w rfl rfl rfl (op_call rfl rfl (hput.mono ?_))
    rintro _ _ ⟨rfl, rfl⟩
    refine XDAL.nil ?_
    have lnd := hY.nd.lt wfH
    have lo := a.lt wf
    have kc := st_ch (room := room) (l := putD (leftL l out (N.take k)) s (cutN l out s, []) k) (c := k + 1) wfH lnd.1 lnd.2
    rw [← left_step out hN hs] at kc ⊢
    refine ⟨⟨⟨kc.c _ _ hdk.box (by omega), kc.o _ _ hdk.map (by omega), a.ok, a.big⟩, kc.c _ _ hY.c2 (by omega), kc.c _ _ hY.c6 (by omega), kc.c _ _ hY.c8 (by omega), kc.o _ _ hY.km (by omega), At.st (left_ok a.ok out hN hm (k + 1) hkl) a.big, ?_⟩, ?_⟩
    · exact ⟨fun q b hq => kc.c q b (hY.ext.c q b hq) (by have := wf.lt hq; omega), fun q b hq => kc.o q b (hY.ext.o q b hq) (by have := wf.ltO hq; omega)⟩
    · exact ⟨fun q b hq ho => kc.c q b hq fun e => ho (.inl (.inl e)), fun q b hq ho => kc.o q b hq fun e => ho (.inl (.inr e))⟩
  · intro H _ hE
    replace hE : CrY h i m room l c h.next H2.next H5.next H1.next cc H4.next H3.next 0 out N N.length H := hE
    have hnd := hE.nd
    rw [List.take_length] at hnd
    refine XWp.wf fun wfE => ?_
    repeat (first | refine XL.nil ?_ | refine XWp.seq ?_ | refine XWp.region ?_ | refine XWp.ret ?_ | refine XL.set rfl rfl rfl (op_assignI rfl ?_) | refine XL.set rfl rfl rfl (op_assignP rfl ?_) | refine XL.set rfl rfl rfl (op_load rfl rfl hE.c8 rfl ?_))
    exact ⟨_, ResV.tmp2 rfl, H4.next, H3.next, N, rfl, by omega, by omega, hN, hm, hnd, hE.ext, wfE, by have := wfE.lt hnd.box; omega⟩
  · intro h' j _ e; exact e.elim
end Go.Proofs.Ytiebmncpdnbcjaa

/-
  What goes over files: its files are these.
-/
namespace Go.Proofs.Ytiebmncpdnbcjaa
open Go Go.Eng Go.Dsk
attribute [local irreducible] AWp AL DAL AOp XWp XL

instance : FnC Try.prog 40 := ⟨Try.f40, Try.func40, by kernel_rfl, by kernel_rfl⟩
instance : TyD Try.prog 83 (.func #[103] #[] false) := ⟨Try.underlying83⟩
/-- The files of a disk, in their order. -/
structure Lst (l : FL) (G : List RF) : Prop where
  sm : Sm l G
  rise : Rise (G.map (·.1))
abbrev cellI (n : Nat) : Blk := ⟨[.int .i64 (n : Nat)], 3, true⟩
abbrev cellB (b : Bool) : Blk := ⟨[.bool b], 4, true⟩
theorem Heap.set_same {h : Heap} {i : Nat} {b : Blk} (hg : h.get i = some b) : h.set i b = h := by
  simp only [Heap.set]
  congr 1
  funext j
  by_cases hj : j = i
  · subst hj; rw [if_pos rfl, hg]
  · rw [if_neg hj]
structure OvY (h : Heap) (v : Value) (most : Int) (i : Nat) (x : Bool) (k : Nat) (H : Heap) : Prop where
  ext : Ext h H
  c4 : H.get h.next = some ⟨[v], 52, true⟩
  c5 : H.get (h.next + 1) = some ⟨[.int .i64 most], 3, true⟩
  res : H.get (h.next + 2) = some (cellB x)
  cnt : H.get (h.next + 4) = some (cellI k)
section
variable {h : Heap} {v : Value} {most : Int} {i : Nat} {x : Bool} {k : Nat} {H H' : Heap}
theorem OvY.grow (c : OvY h v most i x k H) (hx : Ext H H') : OvY h v most i x k H' := ⟨c.ext.trans hx, hx.c _ _ c.c4, hx.c _ _ c.c5, hx.c _ _ c.res, hx.c _ _ c.cnt⟩
theorem OvY.set_cnt (c : OvY h v most i x k H) (wf : WF h) : OvY h v most i x (k + 1) (H.set (h.next + 4) (cellI (k + 1))) :=
  ⟨wf.ext_set c.ext (by omega) _, by rw [Heap.set_other (by omega)]; exact c.c4, by rw [Heap.set_other (by omega)]; exact c.c5, by rw [Heap.set_other (by omega)]; exact c.res, by rw [Heap.set_at]⟩
theorem OvY.set_res (c : OvY h v most i x k H) (wf : WF h) (y : Bool) : OvY h v most i y k (H.set (h.next + 2) (cellB y)) :=
  ⟨wf.ext_set c.ext (by omega) _, by rw [Heap.set_other (by omega)]; exact c.c4, by rw [Heap.set_other (by omega)]; exact c.c5, by rw [Heap.set_at], by rw [Heap.set_other (by omega)]; exact c.cnt⟩
theorem OvY.set_q (c : OvY h v most i x k H) (wf : WF h) {q : Nat} (hq : h.next + 5 ≤ q) (b : Blk) : OvY h v most i x k (H.set q b) :=
  ⟨wf.ext_set c.ext (by omega) _, by rw [Heap.set_other (by omega)]; exact c.c4, by rw [Heap.set_other (by omega)]; exact c.c5, by rw [Heap.set_other (by omega)]; exact c.res, by rw [Heap.set_other (by omega)]; exact c.cnt⟩
end
theorem lst_at {room c : Nat} {l : FL} {G : List RF} (t : Lst l G) (d : DOk room l c) {k : Nat} {s : List UInt8} (hs : (G.map (·.1))[k]? = some s) : ∃ f, G[k]? = some f ∧ f.1 = s ∧ fileOf l s = (f.2.1, f.2.2) := by
  rw [List.getElem?_map] at hs
  cases hg : G[k]? with
  | none => rw [hg] at hs; cases hs
  | some f =>
    rw [hg] at hs
    cases hs
    exact ⟨f, rfl, rfl, (t.sm.file d.names (List.mem_of_getElem? hg)).1⟩
set_option maxHeartbeats 4000000 in
theorem over_c (i m room : Nat) (l : FL) (c : Nat) (v : Value) (G : List RF) (most : Int) (h : Heap) (a : At h i m room l c) (t : Lst l G) (rv : RN 3 h v (G.map rowR)) :
    ACalls Try.prog 40 [ptr i, v, .int .i64 most] h fun u h' => u = .bool true ∧ h' = h := by
  refine ACalls.wf fun wf => ACalls.resetB ?_
  refine ACalls.bodyX Try.func40 rfl (Nat.le_of_ble_eq_true rfl) fun bb => ?_
  have hGl : G.length = l.length := t.sm.len.symm
  have hcnt := a.ok.cnt
  have hlen : (G.map rowR).length = G.length := by simp
  have li := a.lt wf
  obtain ⟨va, vc, rfl⟩ := rv.slice
  repeat (first | refine XL.nil ?_ | refine XWp.seq ?_ | refine XWp.region ?_ | refine XL.set rfl rfl rfl (op_moveP rfl ?_) | refine XL.set rfl rfl rfl (op_box (v := .slice va (G.map rowR).length vc) rfl (by intro e; cases e) ?_) | refine XL.set rfl rfl rfl (op_box (v := .int .i64 most) rfl (by intro e; cases e) ?_) | refine XL.set rfl rfl rfl (op_alloc (z := .bool false) ?_))
  have hx1 : Ext h (((h.alloc ⟨[.slice va (G.map rowR).length vc], 52, true⟩).alloc ⟨[.int .i64 most], 3, true⟩).alloc (cellB false)) := (wf.ext _).trans (((wf.alloc _).ext _).trans (((wf.alloc _).alloc _).ext _))
  have wf1 : WF (((h.alloc ⟨[.slice va (G.map rowR).length vc], 52, true⟩).alloc ⟨[.int .i64 most], 3, true⟩).alloc (cellB false)) := ((wf.alloc _).alloc _).alloc _
  have g0 : (((h.alloc ⟨[.slice va (G.map rowR).length vc], 52, true⟩).alloc ⟨[.int .i64 most], 3, true⟩).alloc (cellB false)).get h.next = _ := Heap.new2 _ _ _ _
  have g1 : (((h.alloc ⟨[.slice va (G.map rowR).length vc], 52, true⟩).alloc ⟨[.int .i64 most], 3, true⟩).alloc (cellB false)).get (h.next + 1) = _ := Heap.new1 (h.alloc _) _ _
  have g2 : (((h.alloc ⟨[.slice va (G.map rowR).length vc], 52, true⟩).alloc ⟨[.int .i64 most], 3, true⟩).alloc (cellB false)).get (h.next + 2) = _ := Heap.alloc_new ((h.alloc _).alloc _) _
  have n1 : (((h.alloc ⟨[.slice va (G.map rowR).length vc], 52, true⟩).alloc ⟨[.int .i64 most], 3, true⟩).alloc (cellB false)).next = h.next + 3 := rfl
  refine XL.heap (h := ((h.alloc ⟨[.slice va (G.map rowR).length vc], 52, true⟩).alloc ⟨[.int .i64 most], 3, true⟩).alloc (cellB false)) rfl ?_
  generalize ((h.alloc ⟨[.slice va (G.map rowR).length vc], 52, true⟩).alloc ⟨[.int .i64 most], 3, true⟩).alloc (cellB false) = H1 at hx1 wf1 g0 g1 g2 n1 ⊢
  repeat (first | refine XL.set rfl rfl rfl (op_call rfl rfl ((dall_c (some ⟨i, 0, none⟩) H1).mono ?_)))
  rintro _ H2 ⟨rfl, hx2, gp, wf2, n2⟩
  have x2 := hx1.trans hx2
  have g0 := hx2.c _ _ g0
  have g1 := hx2.c _ _ g1
  have g2 := hx2.c _ _ g2
  repeat (first | refine XL.nil ?_ | refine XWp.seq ?_ | refine XWp.region ?_ | refine XWp.condF rfl ?_ | refine XWp.skip ?_ | refine XL.set rfl rfl rfl (op_moveF rfl ?_) | refine XL.set rfl rfl rfl (op_assignF rfl ?_) | refine XL.set rfl rfl rfl (op_eqFuncNil rfl rfl ?_) | refine XL.set rfl rfl rfl (op_alloc (z := .int .i64 0) ?_))
  refine XL.eff rfl rfl (op_store (v := .int .i64 0) rfl rfl rfl (Heap.alloc_new _ _) rfl (by decide) ?_)
  refine XL.heap (h' := (H2.alloc (cellI 0)).set H2.next (cellI 0)) rfl ?_
  refine XL.heap (Heap.set_alloc _ _ _) ?_
  have e4 : H2.next = h.next + 4 := by omega
  have hx3 := wf2.ext (cellI 0)
  have wf3 := wf2.alloc (cellI 0)
  have g3 := Heap.alloc_new H2 (cellI 0)
  have n3 : (H2.alloc (cellI 0)).next = H2.next + 1 := rfl
  rw [e4] at g3 ⊢
  have hY0 : OvY h (.slice va (G.map rowR).length vc) most i false 0 (H2.alloc (cellI 0)) := ⟨x2.trans hx3, hx3.c _ _ g0, hx3.c _ _ g1, hx3.c _ _ g2, g3⟩
  have gp := hx3.c _ _ gp
  have a3 : At (H2.alloc (cellI 0)) i m room l c := ⟨(x2.trans hx3).c _ _ a.box, (x2.trans hx3).o _ _ a.map, a.ok, a.big⟩
  clear hx3 g0 g1 g2 g3
  generalize H2.alloc (cellI 0) = H3 at wf3 n3 hY0 gp a3 ⊢
  repeat (first | refine XL.nil ?_ | refine XWp.seq ?_ | refine XWp.region ?_ | refine XWp.block ?_ | refine XL.set rfl rfl rfl (op_moveF rfl ?_))
  refine XWp.rangeFunc (ι := Nat × Heap) (fi := []) (ca := [ptr H1.next]) (PreA l (G.map (·.1)) (OvY h (.slice va (G.map rowR).length vc) most i false)) (TA (fun j => j = h.next + 2 ∨ j = h.next + 4) (OvY h (.slice va (G.map rowR).length vc) most i false)) (fun _ H c => c = .ret ∧ ∃ k, OvY h (.slice va (G.map rowR).length vc) most i true k H) (fun H => OvY h (.slice va (G.map rowR).length vc) most i false (G.map (·.1)).length H) (fun H c => c = .ret ∧ ∃ k, OvY h (.slice va (G.map rowR).length vc) most i true k H)
    rfl (fun k e => e) (fun _ _ l => l) rfl ?_ ?_ ?_ ?_ ?_
  · rintro i H args ⟨s, q, rfl, _⟩; rfl
  · intro C1 y hq ys
    exact dall1_x C1 hq y H1.next i m room l c (G.map (·.1)) H3 a3 gp t.rise (fun x => (t.sm.mem x).symm) (fun j => j = h.next + 2 ∨ j = h.next + 4) (by rintro j (rfl | rfl) <;> omega) _ _ (fun k H H' hY hx _ => hY.grow hx) ys hY0
  · rintro Ca Cb y ⟨k, H⟩ H' args ⟨s, q, rfl, hs, hq, hqn, hY, rfl, wfH⟩
    replace hs : (G.map (·.1))[k]? = some s := hs
    replace hY : OvY h (.slice va (G.map rowR).length vc) most i false k H := hY
    replace wfH : WF H := wfH
    replace hqn : q + 1 = H.next := hqn
    show XWp Ca _ _ _ _ (setPs _ [.string (bstr s), .slice (some ⟨q, 0, some 1⟩) (allF (fileOf l s)).length ((allF (fileOf l s)).length + 1)] _) H none
    obtain ⟨f, hf, hfs, hff⟩ := lst_at t a.ok hs
    have hkl := (List.getElem?_eq_some_iff.1 hf).1
    have hf2 := row_at hf
    have rvH := rv.ext hY.ext
    have hp := rvH.elt hf2
    have hpv : RB H (.slice (some ⟨q, 0, some 1⟩) (allF (fileOf l s)).length ((allF (fileOf l s)).length + 1)) (allF (fileOf l s)) := RS.own hq (bv_length _)
    obtain ⟨f1, f2⟩ := fileOf_le a.ok s
    have hus := a.ok.used
    have hbg := a.big
    have hal : allF (fileOf l s) = f.2.1 ++ f.2.2 := by rw [hff]; rfl
    rw [hff] at f1
    simp only at f1
    have lq : h.next + 5 ≤ q := by
      have h1 := wfH.lt hY.cnt
      have hne : q ≠ h.next + 4 := by
        rintro rfl
        rw [hY.cnt] at hq
        injection hq with hq
        injection hq with _ e _
        exact absurd e (by decide)
      omega
    repeat (first | refine XL.nil ?_ | refine XWp.seq ?_ | refine XWp.region ?_ | refine XWp.block ?_ | refine XL.set rfl rfl rfl (op_assignS rfl ?_) | refine XL.set rfl rfl rfl (op_assignStr rfl ?_))
    refine XWp.draw (σ := [(0, .R), (1, .R), (2, .R), (3, .R), (4, .R), (5, .R), (6, .R), (7, .R), (8, .R), (9, .R), (10, .R), (11, .R), (12, .R), (13, .R), (14, .R), (15, .R), (16, .R), (17, .R), (18, .R), (19, .R), (20, .R), (21, .R), (22, .R)]) mixed (by kernel_rfl) (by kernel_rfl) ?_
    repeat (first | refine XDAL.r rfl rfl rfl (fun h' hx hn => op_moveS rfl ⟨rfl, rfl⟩) ?_ | refine XDAL.r rfl rfl rfl (fun h' hx hn => op_moveB rfl ⟨rfl, rfl⟩) ?_ | refine XDAL.r rfl rfl rfl (fun h' hx hn => op_moveStr rfl ⟨rfl, rfl⟩) ?_ | refine XDAL.r rfl rfl rfl (fun h' hx hn => op_load rfl rfl (hx.c _ _ hY.cnt) rfl ⟨rfl, rfl⟩) ?_ | refine XDAL.r rfl rfl rfl (fun h' hx hn => op_load rfl rfl (hx.c _ _ hY.c4) rfl ⟨rfl, rfl⟩) ?_ | refine XDAL.r rfl rfl rfl (fun h' hx hn => op_lenS rfl ⟨rfl, rfl⟩) ?_ | refine XDAL.r rfl rfl rfl (fun h' hx hn => op_intF rfl rfl rfl (by rw [hlen]; omega) ⟨rfl, rfl⟩) ?_ | refine XDAL.r rfl rfl rfl (fun h' hx hn => op_indexND (rvH.ext hx) rfl rfl (by omega) hf2 ⟨rfl, rfl⟩) ?_ | refine XDAL.r rfl rfl rfl (fun h' hx hn => op_faN (hp.ext hx) rfl ⟨rfl, rfl⟩) ?_ | refine XDAL.r rfl rfl rfl (fun h' hx hn => op_loadF0 (off := 0) (hp.ext hx) rfl rfl rfl ⟨rfl, rfl⟩) ?_ | refine XDAL.r rfl rfl rfl (fun h' hx hn => op_sNeF rfl rfl hfs.symm ⟨rfl, rfl⟩) ?_ | refine XDAL.r rfl rfl rfl (fun h' hx hn => op_pick rfl rfl ⟨rfl, rfl⟩) ?_ | refine XDAL.r rfl rfl rfl (fun h' hx hn => op_bytesStrR (hpv.ext hx) rfl ⟨rfl, rfl⟩) ?_ | refine XDAL.r rfl rfl rfl (fun h' hx hn => op_loadN (hp.ext hx) rfl rfl rfl ⟨rfl, rfl⟩) ?_ | refine XDAL.r rfl rfl rfl (fun h' hx hn => op_callS rfl rfl (rall_c f h' (by omega)) ⟨rfl, rfl⟩) ?_ | refine XDAL.r rfl rfl rfl (fun h' hx hn => op_sNeF rfl rfl hal ⟨rfl, rfl⟩) ?_)
    refine XDAL.nil ?_
    obtain ⟨n, hn⟩ : ∃ n, n = (allF (fileOf l s)).length := ⟨_, rfl⟩
    have hnl : n ≤ 1048576 := by omega
    repeat (first | refine XL.nil ?_ | refine XWp.seq ?_ | refine XWp.region ?_ | refine XWp.condF rfl ?_ | refine XWp.block ?_ | refine XWp.skip ?_ | refine XL.set rfl rfl rfl (op_assignI rfl ?_))
    refine XWp.loop (α := Nat × List Value × Heap) (fun d => [(4, ptr h.next), (5, ptr (h.next + 1)), (6, ptr (h.next + 2)), (8, ptr (h.next + 4)), (10, .slice (some ⟨q, 0, some 1⟩) (allF (fileOf l s)).length ((allF (fileOf l s)).length + 1)), (11, .int .i64 (d.1 : Nat))]) (fun d => d.2.2)
      (fun d => d.1 ≤ n ∧ d.2.1.length = n ∧ d.2.1.drop d.1 = (bv (allF (fileOf l s))).drop d.1 ∧ d.2.2.get q = some ⟨d.2.1, 5, true⟩ ∧ OvY h (.slice va (G.map rowR).length vc) most i false k d.2.2 ∧ Kp (fun j => (j = h.next + 2 ∨ j = h.next + 4) ∨ j + 1 = H.next) H d.2.2 ∧ WF d.2.2) (fun d => n - d.1) (0, bv (allF (fileOf l s)), H)
      ⟨Nat.zero_le _, by rw [bv_length, hn], rfl, hq, hY, ⟨fun j b e _ => e, fun j b e _ => e⟩, wfH⟩ (Weak.same (EW.cons rfl (EW.cons rfl (EW.cons rfl (EW.cons rfl (EW.cons rfl (EW.cons rfl EW.nil))))))) ?_
    rintro ⟨k2, vs, H2'⟩ ⟨w1, w2, w3, w4, w5, w6, w7⟩
    replace w1 : k2 ≤ n := w1
    replace w2 : vs.length = n := w2
    replace w3 : vs.drop k2 = (bv (allF (fileOf l s))).drop k2 := w3
    replace w4 : H2'.get q = some ⟨vs, 5, true⟩ := w4
    replace w5 : OvY h (.slice va (G.map rowR).length vc) most i false k H2' := w5
    replace w6 : Kp (fun j => (j = h.next + 2 ∨ j = h.next + 4) ∨ j + 1 = H.next) H H2' := w6
    replace w7 : WF H2' := w7
    show XWp _ _ _ _ _ [(4, ptr h.next), (5, ptr (h.next + 1)), (6, ptr (h.next + 2)), (8, ptr (h.next + 4)), (10, .slice (some ⟨q, 0, some 1⟩) (allF (fileOf l s)).length ((allF (fileOf l s)).length + 1)), (11, .int .i64 (k2 : Nat))] H2' none
    by_cases hk2 : k2 < n
    · obtain ⟨b, hb⟩ : ∃ b, (allF (fileOf l s))[k2]? = some b := ⟨_, List.getElem?_eq_getElem (by omega)⟩
      have hvk : vs[0 + ((k2 : Nat) : Int).toNat * 1]? = some (.int .u8 (b.toNat : Int)) := by
        have e1 := congrArg (fun L : List Value => L[0]?) w3
        simp only [List.getElem?_drop, Nat.add_zero] at e1
        rw [Int.toNat_natCast, Nat.zero_add, Nat.mul_one, e1]
        exact bv_get _ _ _ hb
      repeat (first | refine XL.nil ?_ | refine XWp.seq ?_ | refine XWp.region ?_ | refine XWp.condT rfl ?_ | refine XWp.block ?_ | refine XWp.skip ?_ | refine XL.set rfl rfl rfl (op_moveI rfl ?_) | refine XL.set rfl rfl rfl (op_moveS rfl ?_) | refine XL.set rfl rfl rfl (op_lenS rfl ?_) | refine XL.set rfl rfl rfl (op_intT rfl rfl rfl (by omega) ?_) | refine XL.set rfl rfl rfl (op_indexS (sz := 1) rfl rfl (by omega) (by omega) ?_) | refine XL.set rfl rfl rfl (op_load rfl rfl w4 hvk ?_) | refine XL.set rfl rfl rfl (op_int rfl rfl rfl ?_))
      refine XL.eff rfl rfl (op_store rfl rfl rfl w4 rfl (by rw [Int.toNat_natCast]; show _ < vs.length; omega) ?_)
      repeat (first | refine XL.nil ?_ | refine XWp.region ?_ | refine XL.set rfl rfl rfl (op_moveI rfl ?_) | refine XL.set rfl rfl rfl (op_assignI rfl ?_) | refine XL.set rfl rfl rfl (op_add64 rfl rfl (by omega) ?_))
      refine ⟨rfl, (k2 + 1, vs.set (0 + ((k2 : Nat) : Int).toNat * 1) _, H2'.set q _), ⟨hk2, by simpa using w2, ?_, Heap.set_at _ _ _, w5.set_q wf lq _, ⟨fun j x e ho => (Heap.set_other (fun e2 => ho (.inr (by omega)))).trans (w6.c j x e ho), fun j x e ho => w6.o j x e ho⟩, w7.set (w7.lt w4) _⟩, by show n - (k2 + 1) < n - k2; omega, Weak.same (EW.cons rfl (EW.cons rfl (EW.cons rfl (EW.cons rfl (EW.cons rfl (EW.cons rfl EW.nil))))))⟩
      show (vs.set (0 + ((k2 : Nat) : Int).toNat * 1) _).drop (k2 + 1) = (bv (allF (fileOf l s))).drop (k2 + 1)
      rw [List.drop_set_of_lt (by rw [Int.toNat_natCast]; omega), ← List.drop_drop (i := 1), w3, List.drop_drop]
    · repeat (first | refine XL.nil ?_ | refine XWp.seq ?_ | refine XWp.region ?_ | refine XWp.condF rfl ?_ | refine XWp.exit ?_ | refine XL.set rfl rfl rfl (op_moveI rfl ?_) | refine XL.set rfl rfl rfl (op_moveS rfl ?_) | refine XL.set rfl rfl rfl (op_lenS rfl ?_) | refine XL.set rfl rfl rfl (op_intF rfl rfl rfl (by omega) ?_) | refine XL.set rfl rfl rfl (op_load rfl rfl w5.cnt rfl ?_) | refine XL.set rfl rfl rfl (op_add64 rfl rfl (by omega) ?_))
      refine XL.eff rfl rfl (op_store (v := .int .i64 ((k : Int) + 1)) rfl rfl rfl w5.cnt rfl Nat.zero_lt_one ?_)
      have hs1 : H2'.set (h.next + 4) ⟨[.int .i64 ((k : Int) + 1)], 3, true⟩ = H2'.set (h.next + 4) (cellI (k + 1)) := by
        rw [show (k : Int) + 1 = ((k + 1 : Nat) : Int) from by omega]
      refine XL.heap hs1 ?_
      have hY2 := w5.set_cnt wf
      have hc2 := hY2.cnt
      have kp2 : Kp (fun j => (j = h.next + 2 ∨ j = h.next + 4) ∨ j + 1 = H.next) H (H2'.set (h.next + 4) (cellI (k + 1))) := ⟨fun j x e ho => (Heap.set_other (fun e2 => ho (.inl (.inr e2)))).trans (w6.c j x e ho), fun j x e ho => w6.o j x e ho⟩
      generalize H2'.set (h.next + 4) (cellI (k + 1)) = H5 at hY2 hc2 kp2 ⊢
      by_cases hm : ((k + 1 : Nat) : Int) = most
      · repeat (first | refine XL.nil ?_ | refine XWp.seq ?_ | refine XWp.region ?_ | refine XWp.condT rfl ?_ | refine XL.set rfl rfl rfl (op_load rfl rfl hc2 rfl ?_) | refine XL.set rfl rfl rfl (op_load rfl rfl hY2.c5 rfl ?_) | refine XL.set rfl rfl rfl (op_intT rfl rfl rfl (by omega) ?_))
        refine XL.eff rfl rfl (op_store (v := .bool true) rfl rfl rfl hY2.res rfl Nat.zero_lt_one ?_)
        have hY3 := hY2.set_res wf true
        repeat (first | refine XL.nil ?_ | refine XWp.ret ?_)
        exact ⟨rfl, _, hY3⟩
      · repeat (first | refine XL.nil ?_ | refine XWp.seq ?_ | refine XWp.region ?_ | refine XWp.condF rfl ?_ | refine XWp.skip ?_ | refine XL.set rfl rfl rfl (op_load rfl rfl hc2 rfl ?_) | refine XL.set rfl rfl rfl (op_load rfl rfl hY2.c5 rfl ?_) | refine XL.set rfl rfl rfl (op_intF rfl rfl rfl (by omega) ?_))
        exact ⟨hY2, kp2⟩
  · intro H _ hE
    replace hE : OvY h (.slice va (G.map rowR).length vc) most i false (G.map (·.1)).length H := hE
    have hll : (((G.map (·.1)).length : Nat) : Int) = ((G.map rowR).length : Nat) := by simp
    repeat (first | refine XWp.seq ?_ | refine XWp.region ?_ | refine XL.set rfl rfl rfl (op_load rfl rfl hE.cnt rfl ?_) | refine XL.set rfl rfl rfl (op_load rfl rfl hE.c4 rfl ?_) | refine XL.set rfl rfl rfl (op_lenS rfl ?_) | refine XL.set rfl rfl rfl (op_intT rfl rfl rfl hll ?_))
    refine XL.eff rfl rfl (op_store (v := .bool true) rfl rfl rfl hE.res rfl Nat.zero_lt_one ?_)
    have hY3 := hE.set_res wf true
    repeat (first | refine XL.nil ?_ | refine XWp.ret ?_)
    exact ⟨_, ResV.cell rfl rfl rfl hY3.res rfl, Bdd.plain rfl, hY3.ext, rfl, rfl⟩
  · rintro h' j _ ⟨rfl, k, hE⟩
    repeat (first | refine XWp.ret ?_)
    exact ⟨_, ResV.cell rfl rfl rfl hE.res rfl, Bdd.plain rfl, hE.ext, rfl, rfl⟩
end Go.Proofs.Ytiebmncpdnbcjaa

/-
  A disk has just these files, by all that can be looked at.
-/
namespace Go.Proofs.Ytiebmncpdnbcjaa
open Go Go.Eng Go.Dsk
attribute [local irreducible] AWp AL DAL AOp TAL

instance : FnC Try.prog 26 := ⟨Try.f26, Try.func26, by kernel_rfl, by kernel_rfl⟩
theorem Lst.good {room c : Nat} {l : FL} {G : List RF} (t : Lst l G) (d : DOk room l c) {f : RF} (hf : f ∈ G) : goodN f.1 = true ∧ openE l f.1 [] = 0 ∧ openF l f.1 [] = (f.2.1, f.2.2) := by
  obtain ⟨h1, h2⟩ := t.sm.file d.names hf
  have hg : goodN f.1 = true := by
    obtain ⟨e, he, h3⟩ := List.mem_map.1 (has_mem.1 h2)
    rw [← h3]
    exact d.good e he
  have h3 : openE l f.1 [] = 0 := by unfold openE; rw [hg, h2]; rfl
  exact ⟨hg, h3, by unfold openF; rw [h3, if_pos rfl, h1]⟩
theorem good_len {s : List UInt8} (h : goodN s = true) : s.length ≤ 32 := by
  unfold goodN at h
  simp only [Bool.and_eq_true, decide_eq_true_iff] at h
  omega
set_option maxHeartbeats 4000000 in
theorem has_c (i m room : Nat) (l : FL) (c : Nat) (v : Value) (G : List RF) (h : Heap) (a : At h i m room l c) (t : Lst l G) (rv : RN 3 h v (G.map rowR)) :
    ACalls Try.prog 26 [ptr i, .int .i64 (room : Nat), v] h fun u h' => u = .bool true ∧ h' = h := by
  refine ACalls.wf fun wf => ACalls.reset ?_
  refine ACalls.body Try.func26 rfl rfl ?_
  have hGl : G.length = l.length := t.sm.len.symm
  have hcnt := a.ok.cnt
  have hus := a.ok.used
  have hbg := a.big
  have hlen : (G.map rowR).length = G.length := by simp
  have hug : used l = usedR G := t.sm.used
  obtain ⟨va, vc, rfl⟩ := rv.slice
  repeat (first | refine AL.nil ?_ | refine AWp.seq ?_ | refine AWp.region ?_ | refine AL.set rfl rfl (op_moveP rfl ?_) | refine AL.set rfl rfl (op_assignB rfl ?_))
  refine AL.set rfl rfl (op_call rfl rfl ((names_c i m room l c h a).mono ?_))
  rintro u H1 ⟨N, o1, r1, q1, k1, x1, wf1, n1⟩
  obtain rfl : N = G.map (·.1) := rise_eq r1 t.rise fun x => by rw [q1]; exact t.sm.mem x
  have a1 : At H1 i m room l c := ⟨x1.c _ _ a.box, x1.o _ _ a.map, a.ok, a.big⟩
  have rv1 := rv.ext x1
  have hsl : (sv (G.map (·.1))).length = G.length := by rw [sv_length]; simp
  obtain ⟨ua, uc, rfl⟩ := o1.rs.slice
  have c0 := over_c i m room l c _ G 0 H1 a1 t rv1
  have c1 := over_c i m room l c _ G 1 H1 a1 t rv1
  have hll : ((sv (G.map (·.1))).length : Int) = ((G.map rowR).length : Nat) := by rw [hsl, hlen]
  repeat (first | refine AL.nil ?_ | refine AL.skip rfl rfl ?_ | refine AWp.seq ?_ | refine AWp.region ?_ | refine AWp.condF rfl ?_ | refine AWp.block ?_ | refine AWp.skip ?_ | refine AL.set rfl rfl (op_moveI rfl ?_) | refine AL.set rfl rfl (op_moveS rfl ?_) | refine AL.set rfl rfl (op_moveB rfl ?_) | refine AL.set rfl rfl (op_moveP rfl ?_) | refine AL.set rfl rfl (op_assignI rfl ?_) | refine AL.set rfl rfl (op_assignS rfl ?_) | refine AL.set rfl rfl (op_lenS rfl ?_) | refine AL.set rfl rfl (op_intF rfl rfl rfl (by exact fun e => e hll) ?_) | refine AL.set rfl rfl (op_callS rfl rfl (room_c i m room l c H1 a1) ?_) | refine AL.set rfl rfl (op_intF rfl rfl rfl (by omega) ?_) | refine AL.set rfl rfl (op_pick rfl rfl ?_) | refine AL.set rfl rfl (op_callS rfl rfl c0 ?_) | refine AL.set rfl rfl (op_callS rfl rfl c1 ?_) | refine AL.set rfl rfl (op_not rfl ?_))
  refine AWp.loop (α := Nat × Heap) (fun d => [(0, ptr i), (1, .int .i64 (room : Nat)), (2, .slice va (G.map rowR).length vc), (7, .slice ua (sv (G.map (·.1))).length uc), (8, .int .i64 (usedR (G.take d.1) : Nat)), (9, .int .i64 (d.1 : Nat))]) (fun d => d.2) (fun d => d.1 ≤ G.length ∧ Ext H1 d.2 ∧ WF d.2) (fun d => G.length - d.1) (0, H1) ⟨Nat.zero_le _, Ext.refl _, wf1⟩
    (Weak.same (EW.cons rfl (EW.cons rfl (EW.cons rfl (EW.cons rfl (EW.cons rfl (EW.cons rfl EW.nil))))))) ?_
  rintro ⟨k, H⟩ ⟨hk, xH, wfH⟩
  replace hk : k ≤ G.length := hk
  replace xH : Ext H1 H := xH
  replace wfH : WF H := wfH
  show AWp _ _ _ _ [(0, ptr i), (1, .int .i64 (room : Nat)), (2, .slice va (G.map rowR).length vc), (7, .slice ua (sv (G.map (·.1))).length uc), (8, .int .i64 (usedR (G.take k) : Nat)), (9, .int .i64 (k : Nat))] H
  have aH : At H i m room l c := ⟨xH.c _ _ a1.box, xH.o _ _ a1.map, a.ok, a.big⟩
  have rvH := rv1.ext xH
  have oH := o1.ext xH
  by_cases hlt : k < G.length
  · obtain ⟨f, hf⟩ : ∃ f, G[k]? = some f := ⟨_, List.getElem?_eq_getElem hlt⟩
    have hf2 := row_at hf
    have hs2 : (sv (G.map (·.1)))[((k : Nat) : Int).toNat]? = some (.string (bstr f.1)) := by
      rw [Int.toNat_natCast]
      exact sv_get (by rw [List.getElem?_map, hf]; rfl)
    obtain ⟨hg, hE, hF⟩ := t.good a.ok (List.mem_of_getElem? hf)
    have hgl := good_len hg
    have hxl := usedR_at hf
    have hst := usedR_take hf
    have hle := usedR_le G (k + 1)
    have cr := (read_c i m room l c f.1 H aH (by omega)).wf_post
    rw [hE, hF] at cr
    repeat (first | refine AL.nil ?_ | refine AWp.seq ?_ | refine AWp.region ?_ | refine AWp.condT rfl ?_ | refine AWp.block ?_ | refine AWp.skip ?_ | refine AL.set rfl rfl (op_moveI rfl ?_) | refine AL.set rfl rfl (op_moveS rfl ?_) | refine AL.set rfl rfl (op_moveP rfl ?_) | refine AL.set rfl rfl (op_lenS rfl ?_) | refine AL.set rfl rfl (op_intT rfl rfl rfl (by rw [hlen]; omega) ?_) | refine AL.set rfl rfl (op_indexD oH.rs rfl rfl (by omega) hs2 (fun _ => ?_)) | refine AL.set rfl rfl (op_loadR (PT.of oH.rs hs2) rfl rfl ?_) | refine AL.set rfl rfl (op_call rfl rfl (cr.mono ?_)))
    rintro _ H2 ⟨⟨w, rfl, ow, x2⟩, wf2, n2⟩
    obtain ⟨wa, wc, rfl⟩ := ow.rs.slice
    have a2 : At H2 i m room l c := ⟨x2.c _ _ aH.box, x2.o _ _ aH.map, a.ok, a.big⟩
    have rv2 := rvH.ext x2
    have o2 := oH.ext x2
    have hp := rv2.elt hf2
    have cl := lasting_c i m room l c f.1 H2 a2 (by omega)
    rw [hE, hF] at cl
    replace cl : ACalls Try.prog 30 [ptr i, .string (bstr f.1)] H2 fun u h' => u = .tuple #[.int .i64 (f.2.1.length : Nat), .int .i64 0] ∧ h' = H2 := cl
    have hbl : (bv (allF (f.2.1, f.2.2))).length = f.2.1.length + f.2.2.length := by rw [bv_length]; simp [allF]
    repeat (first | refine AL.nil ?_ | refine AWp.seq ?_ | refine AWp.region ?_ | refine AL.set rfl rfl (op_moveI rfl ?_) | refine AL.set rfl rfl (op_moveS rfl ?_) | refine AL.set rfl rfl (op_moveP rfl ?_) | refine AL.set rfl rfl (op_moveT rfl ?_) | refine AL.set rfl rfl (op_assignI rfl ?_) | refine AL.set rfl rfl (op_assignS rfl ?_) | refine AL.set rfl rfl (op_extract rfl rfl ?_) | refine AL.set rfl rfl (op_indexD o2.rs rfl rfl (by omega) hs2 (fun _ => ?_)) | refine AL.set rfl rfl (op_loadR (PT.of o2.rs hs2) rfl rfl ?_) | refine AL.set rfl rfl (op_callS rfl rfl cl ?_))
    refine AWp.draw (σ := [(0, .R), (1, .R), (2, .R), (3, .R), (4, .R), (5, .R), (6, .R), (7, .R), (8, .R), (9, .R), (10, .R), (11, .R), (12, .R), (13, .R), (14, .R), (15, .R), (16, .R), (17, .R), (18, .R), (19, .R), (20, .R), (21, .R), (22, .R), (23, .R), (24, .R), (25, .R), (26, .R), (27, .R), (28, .R), (29, .R), (30, .R), (31, .R), (32, .R), (33, .R), (34, .R), (35, .R), (36, .R), (37, .R)]) mixed (by kernel_rfl) ?_
    repeat (first | refine DAL.r rfl rfl rfl (fun h' hx hn => op_moveI rfl ⟨rfl, rfl⟩) ?_ | refine DAL.r rfl rfl rfl (fun h' hx hn => op_moveS rfl ⟨rfl, rfl⟩) ?_ | refine DAL.r rfl rfl rfl (fun h' hx hn => op_moveB rfl ⟨rfl, rfl⟩) ?_ | refine DAL.r rfl rfl rfl (fun h' hx hn => op_indexD (o2.rs.ext hx) rfl rfl (by omega) hs2 (fun _ => ⟨rfl, rfl⟩)) ?_ | refine DAL.r rfl rfl rfl (fun h' hx hn => op_loadR (PT.of (o2.rs.ext hx) hs2) rfl rfl ⟨rfl, rfl⟩) ?_ | refine DAL.r rfl rfl rfl (fun h' hx hn => op_indexND (rv2.ext hx) rfl rfl (by omega) hf2 ⟨rfl, rfl⟩) ?_ | refine DAL.r rfl rfl rfl (fun h' hx hn => op_faN (hp.ext hx) rfl ⟨rfl, rfl⟩) ?_ | refine DAL.r rfl rfl rfl (fun h' hx hn => op_loadF0 (off := 0) (hp.ext hx) rfl rfl rfl ⟨rfl, rfl⟩) ?_ | refine DAL.r rfl rfl rfl (fun h' hx hn => op_loadF0 (off := 1) (hp.ext hx) rfl rfl rfl ⟨rfl, rfl⟩) ?_ | refine DAL.r rfl rfl rfl (fun h' hx hn => op_sNeF rfl rfl rfl ⟨rfl, rfl⟩) ?_ | refine DAL.r rfl rfl rfl (fun h' hx hn => op_pick rfl rfl ⟨rfl, rfl⟩) ?_ | refine DAL.r rfl rfl rfl (fun h' hx hn => op_bytesStrR (RS.ext ow.rs hx) rfl ⟨rfl, rfl⟩) ?_ | refine DAL.r rfl rfl rfl (fun h' hx hn => op_loadN (hp.ext hx) rfl rfl rfl ⟨rfl, rfl⟩) ?_ | refine DAL.r rfl rfl rfl (fun h' hx hn => op_callS rfl rfl (rall_c f h' (by omega)) ⟨rfl, rfl⟩) ?_ | refine DAL.r rfl rfl rfl (fun h' hx hn => op_callS rfl rfl (num_c 0 h') ⟨rfl, rfl⟩) ?_ | refine DAL.r rfl rfl rfl (fun h' hx hn => op_lenSB rfl ⟨rfl, rfl⟩) ?_ | refine DAL.r rfl rfl rfl (fun h' hx hn => op_intF rfl rfl rfl (by omega) ⟨rfl, rfl⟩) ?_ | refine DAL.r rfl rfl rfl (fun h' hx hn => op_add64 rfl rfl (by omega) ⟨rfl, rfl⟩) ?_)
    refine DAL.nil ?_
    repeat (first | refine AL.nil ?_ | refine AWp.region ?_ | refine AWp.condF rfl ?_ | refine AWp.skip ?_ | refine AL.set rfl rfl (op_moveI rfl ?_) | refine AL.set rfl rfl (op_moveS rfl ?_) | refine AL.set rfl rfl (op_assignI rfl ?_) | refine AL.set rfl rfl (op_lenS rfl ?_) | refine AL.set rfl rfl (op_add64 rfl rfl (by omega) ?_))
    exact ⟨(k + 1, H2), ⟨hlt, xH.trans x2, wf2⟩, by show G.length - (k + 1) < G.length - k; omega, Weak.same (EW.cons rfl (EW.cons rfl (EW.cons rfl (EW.cons rfl (EW.cons (congrArg (Value.int .i64) (by show ((usedR (G.take k) : Nat) : Int) + ((bv (allF (f.2.1, f.2.2))).length : Nat) = ((usedR (G.take (k + 1)) : Nat) : Int); omega)) (EW.cons rfl EW.nil))))))⟩
  · obtain rfl : k = G.length := by omega
    rw [List.take_length]
    repeat (first | refine AL.nil ?_ | refine AWp.seq ?_ | refine AWp.region ?_ | refine AWp.condF rfl ?_ | refine AWp.ret ?_ | refine AWp.exit ?_ | refine AL.set rfl rfl (op_moveI rfl ?_) | refine AL.set rfl rfl (op_moveS rfl ?_) | refine AL.set rfl rfl (op_moveB rfl ?_) | refine AL.set rfl rfl (op_moveP rfl ?_) | refine AL.set rfl rfl (op_assignB rfl ?_) | refine AL.set rfl rfl (op_lenS rfl ?_) | refine AL.set rfl rfl (op_intF rfl rfl rfl (by rw [hlen]; omega) ?_) | refine AL.set rfl rfl (op_callS rfl rfl (used_c i m room l c H aH) ?_) | refine AL.set rfl rfl (op_intT rfl rfl rfl (by rw [hug]) ?_) | refine AL.set rfl rfl (op_intT rfl rfl rfl (by omega) ?_) | refine AL.set rfl rfl (op_pick rfl rfl ?_))
    exact ⟨_, ResV.tmp rfl, rfl, x1.trans xH, rfl, rfl⟩
end Go.Proofs.Ytiebmncpdnbcjaa

/-
  Steps of both disks, in plain words.
-/
namespace Go.Dsk
open Go Go.Eng

structure StepM where
  kind : Int
  a : List UInt8
  b : List UInt8
  data : List UInt8
  keep : List Kp1
section
variable {room c : Nat} {l : FL} {F : List RF}
theorem fullB_eq (m : Sm l F) (d : DOk room l c) (s b : List UInt8) : fullB room l s b = true ↔ (room < usedR F + b.length ∨ ((seekN F s).isSome = false ∧ F.length = 128)) := by
  unfold fullB
  rw [m.has, m.used, m.len, Bool.or_eq_true, decide_eq_true_iff, Bool.and_eq_true, decide_eq_true_iff, Bool.not_eq_true']
  have := d.cnt
  have := m.len
  constructor
  · rintro (⟨h1, h2⟩ | h)
    · exact .inr ⟨h1, by omega⟩
    · exact .inl h
  · rintro (h | ⟨h1, h2⟩)
    · exact .inr h
    · exact .inl ⟨h1, by omega⟩
theorem app_eq (m : Sm l F) (d : DOk room l c) (s b : List UInt8) : appE room l s b = appRE room F s b := by
  have hf := fullB_eq m d s b
  unfold appE appRE eR
  cases hg : goodN s with
  | false => rfl
  | true =>
    cases hs : (seekN F s).isSome with
    | true =>
      rw [hs] at hf
      by_cases hq : room < usedR F + b.length
      · have : fullB room l s b = true := hf.2 (.inl hq)
        simp [this, hq]
      · have : fullB room l s b = false := by
          cases h : fullB room l s b with
          | false => rfl
          | true => rcases hf.1 h with h | ⟨h, _⟩
                    · exact absurd h hq
                    · cases h
        simp [this, hq]
    | false =>
      rw [hs] at hf
      by_cases hq : room < usedR F + b.length ∨ F.length = 128
      · have : fullB room l s b = true := hf.2 (hq.imp id fun h => ⟨rfl, h⟩)
        simp [this, hq]
      · have : fullB room l s b = false := by
          cases h : fullB room l s b with
          | false => rfl
          | true => exact absurd ((hf.1 h).imp id And.right) hq
        simp [this, hq]
theorem appRE_zero {s b : List UInt8} (h : appRE room F s b = 0) : eR F s ≠ 2 ∧ ¬ room < usedR F + b.length ∧ ¬ (eR F s = 6 ∧ F.length = 128) := by
  unfold appRE at h
  split at h
  · cases h
  · rename_i h1
    split at h
    · cases h
    · rename_i h2
      exact ⟨h1, fun e => h2 (.inl e), fun e => h2 (.inr e)⟩
theorem app_sm (m : Sm l F) (d : DOk room l c) (s b : List UInt8) : Sm (appL room l c s b) (appR room F s b) := by
  have he := app_eq m d s b
  by_cases h0 : appRE room F s b = 0
  · obtain ⟨q1, q2, q3⟩ := appRE_zero h0
    have h1 : appL room l c s b = putD l s ((fileOf l s).1, (fileOf l s).2 ++ b) c := by unfold appL; rw [he, h0]; rfl
    have h2 : appR room F s b = match seekN F s with
      | none => F ++ [(s, [], b)]
      | some i => match F[i]? with
        | some x => F.set i (x.1, x.2.1, x.2.2 ++ b)
        | none => F := by
      unfold appR
      rw [if_neg (fun h => h.elim q1 fun h => h.elim q2 q3)]
      rfl
    rw [h1, h2]
    cases hs : seekN F s with
    | none =>
      have hn : hasS l s = false := by rw [m.has, hs]; rfl
      have : fileOf l s = ([], []) := by unfold fileOf; rw [getS_none.2 hn]; rfl
      rw [this]
      exact m.push hn ([], b) c
    | some i =>
      obtain ⟨x, hx, hxs⟩ := seekN_at hs
      simp only [hx]
      have := (m.file d.names (List.mem_of_getElem? hx)).1
      rw [← hxs, this]
      exact m.put d.names hx (x.2.1, x.2.2 ++ b) c
  · have h1 : appL room l c s b = l := by unfold appL; rw [he, if_neg h0]
    have h2 : appR room F s b = F := by
      unfold appR
      by_cases hc : eR F s = 2 ∨ room < usedR F + b.length ∨ (eR F s = 6 ∧ F.length = 128)
      · rw [if_pos hc]
      · exfalso
        apply h0
        unfold appRE
        rw [if_neg fun e => hc (.inl e), if_neg fun e => hc (.inr e)]
    rw [h1, h2]
    exact m
def syncR (F : List RF) (s : List UInt8) : List RF := if eR F s = 0 then (match seekN F s with
  | some i => match F[i]? with
    | some x => F.set i (s, x.2.1 ++ x.2.2, [])
    | none => F
  | none => F) else F
def remR (F : List RF) (s : List UInt8) : List RF := if eR F s = 0 then (match seekN F s with
  | some i => dropR F i
  | none => F) else F
def renE (F : List RF) (s t : List UInt8) : Int := if eR F s = 2 ∨ eR F t = 2 then 2 else eR F s
def renR (F : List RF) (s t : List UInt8) : List RF := if renE F s t = 0 ∧ s ≠ t then (match seekN F s with
  | some i => match F[i]? with
    | some x => match seekN F t with
      | some k => dropR (F.set i (t, x.2.1, x.2.2)) k
      | none => F.set i (t, x.2.1, x.2.2)
    | none => F
  | none => F) else F
def stepF (room : Nat) (F : List RF) (x : StepM) : List RF :=
  if x.kind = 1 then appR room F x.a x.data else if x.kind = 2 then syncR F x.a else if x.kind = 3 then renR F x.a x.b else if x.kind = 4 then remR F x.a else
    if x.kind = 5 then (if crashE F x.keep = 0 then crashL F x.keep else F) else F
theorem ren_eq (m : Sm l F) (s t : List UInt8) : openE l s [t] = renE F s t := by
  unfold openE renE eR
  rw [← m.has s, show [t].all goodN = goodN t by simp]
  cases goodN s <;> cases goodN t <;> cases hasS l s <;> cases (seekN F t).isSome <;> simp
theorem Sm.perm {G : List RF} (m : Sm l F) (h : F.Perm G) : Sm l G := List.Perm.trans m h
theorem putD_same (d : (l.map (·.1)).Nodup) (m : Sm l F) {s : List UInt8} (hs : hasS l s = true) (c : Nat) : Sm (putD (delS l s) s (fileOf l s) c) F := by
  rw [m.has] at hs
  obtain ⟨i, hi⟩ := Option.isSome_iff_exists.1 hs
  obtain ⟨x, hx, hxs⟩ := seekN_at hi
  have hf := (m.file d (List.mem_of_getElem? hx)).1
  subst hxs
  rw [hf]
  have h1 := m.del d hx
  have h2 : hasS (delS l x.1) x.1 = false := by rw [del_has d]; simp
  have h3 := h1.push h2 (x.2.1, x.2.2) c
  refine h3.perm ?_
  exact (List.perm_append_comm).trans (eraseIdx_perm hx).symm
theorem ren_sm (m : Sm l F) (hn : (l.map (·.1)).Nodup) {s t : List UInt8} (hst : s ≠ t) {i : Nat} {x : RF} (hx : F[i]? = some x) (hxs : x.1 = s) (c : Nat) :
    (seekN F t = none → Sm (putD (delS l s) t (fileOf l s) c) (F.set i (t, x.2.1, x.2.2))) ∧ (∀ k y, F[k]? = some y → y.1 = t → Sm (putD (delS l s) t (fileOf l s) c) (dropR (F.set i (t, x.2.1, x.2.2)) k)) := by
  have hil := (List.getElem?_eq_some_iff.1 hx).1
  have hf := (m.file hn (List.mem_of_getElem? hx)).1
  rw [hxs] at hf
  have h1 := m.del hn hx
  rw [hxs] at h1
  have hn1 : ((delS l s).map (·.1)).Nodup := hn.sublist ((del_sub l s).map _)
  rw [hf]
  refine ⟨fun ht => ?_, fun k y hy hyt => ?_⟩
  · have h2 : hasS (delS l s) t = false := by
      rw [del_has hn, m.has, ht]; rfl
    refine (h1.push h2 (x.2.1, x.2.2) c).perm ?_
    exact (List.perm_append_comm).trans (set_perm hil).symm
  · have hkl := (List.getElem?_eq_some_iff.1 hy).1
    have hik : i ≠ k := by
      rintro rfl
      rw [hx] at hy
      cases hy
      exact hst (hxs.symm.trans hyt)
    have e1 : (F.set i (t, x.2.1, x.2.2))[k]? = some y := by rw [List.getElem?_set_ne hik]; exact hy
    have hin : y ∈ F.eraseIdx i := by
      rw [List.mem_eraseIdx_iff_getElem?]
      exact ⟨k, fun e => hik e.symm, hy⟩
    obtain ⟨q, hq⟩ := List.getElem?_of_mem hin
    have h2 := h1.del hn1 hq
    rw [hyt] at h2
    have h3 : Sm (putD (delS l s) t (x.2.1, x.2.2) c) ((F.eraseIdx i).eraseIdx q ++ [(t, x.2.1, x.2.2)]) := by
      unfold putD
      show (flat _).Perm _
      rw [flat_append]
      exact List.Perm.append_right _ h2
    refine h3.perm ?_
    have p1 := dropR_perm (F := F.set i (t, x.2.1, x.2.2)) (i := k) (by simpa using hkl)
    have p2 := eraseIdx_perm e1
    have p3 := set_perm (x := (t, x.2.1, x.2.2)) hil
    have p4 := eraseIdx_perm hq
    have p5 : (y :: (F.set i (t, x.2.1, x.2.2)).eraseIdx k).Perm (y :: (t, x.2.1, x.2.2) :: (F.eraseIdx i).eraseIdx q) :=
      p2.symm.trans (p3.trans ((List.Perm.cons _ p4).trans (List.Perm.swap _ _ _)))
    exact (List.perm_append_comm).trans ((p1.trans p5.cons_inv).symm)
theorem flat_mem {l : FL} (hn : (l.map (·.1)).Nodup) (s : List UInt8) (f : File) : (s, f.1, f.2) ∈ flat l ↔ getS l s = some f := by
  constructor
  · intro h
    obtain ⟨e, he, h2⟩ := List.mem_map.1 h
    simp only [Prod.mk.injEq] at h2
    obtain ⟨rfl, h3, h4⟩ := h2
    have : getS l e.1 = some e.2.1 := mem_get hn (s := e.1) (v := e.2.1) (b := e.2.2) (by simpa using he)
    rw [this]
    congr 1
    exact Prod.ext h3 h4
  · intro h
    obtain ⟨b, hb⟩ := get_mem h
    exact List.mem_map.2 ⟨_, hb, rfl⟩
theorem flat_nodup {l : FL} (hn : (l.map (·.1)).Nodup) : (flat l).Nodup := by
  rw [← flat_names] at hn
  exact (List.pairwise_map.1 hn).imp (fun h e => h (by rw [e]))
theorem Sm.copy {l l' : FL} {F : List RF} (m : Sm l F) (hn : (l.map (·.1)).Nodup) (hn' : (l'.map (·.1)).Nodup) (hg : ∀ s, getS l' s = getS l s) : Sm l' F := by
  refine List.Perm.trans ?_ m
  refine (List.perm_ext_iff_of_nodup (flat_nodup hn') (flat_nodup hn)).2 fun x => ?_
  obtain ⟨s, a, b⟩ := x
  have h1 := flat_mem hn' s (a, b)
  have h2 := flat_mem hn s (a, b)
  rw [h1, h2, hg]
end
end Go.Dsk

/-
  A step of both disks.
-/
namespace Go.Proofs.Ytiebmncpdnbcjaa
open Go Go.Eng Go.Dsk
attribute [local irreducible] AWp AL DAL AOp TAL

instance : FnC Try.prog 21 := ⟨Try.f21, Try.func21, by kernel_rfl, by kernel_rfl⟩
instance : TyD Try.prog 41 (.struct #[fd "Kind" 3 0 "" 0, fd "A" 9 1 "" 8, fd "B" 9 2 "" 24, fd "Data" 23 3 "" 40, fd "Keep" 39 4 "" 64]) := ⟨Try.underlying41⟩
instance : TyI Try.prog 41 5 88 (.agg #[.int .i64 0, .string ⟨#[]⟩, .string ⟨#[]⟩, .slice none 0 0, .slice none 0 0]) := ⟨info_of (by kernel_rfl), rfl, rfl⟩
instance : TyI Try.prog 39 1 24 (.slice none 0 0) := ⟨info_of (by kernel_rfl), rfl, rfl⟩
instance : TyD Try.prog 22 (.slice 41) := ⟨Try.underlying22⟩
instance : FAd Try.prog 41 0 0 := FAd.mk' (ft := 3) Try.underlying41 rfl rfl rfl rfl
instance : FAd Try.prog 41 1 1 := FAd.mk' (ft := 9) Try.underlying41 rfl rfl rfl rfl
instance : FAd Try.prog 41 2 2 := FAd.mk' (ft := 9) Try.underlying41 rfl rfl rfl rfl
instance : FAd Try.prog 41 3 3 := FAd.mk' (ft := 23) Try.underlying41 rfl rfl rfl rfl
instance : FAd Try.prog 41 4 4 := FAd.mk' (ft := 39) Try.underlying41 rfl rfl rfl rfl
theorem RN.ks {h : Heap} {v : Value} {ks : List Kp1} (r : RN 2 h v (ks.map keepR)) : KS h v ks := by
  rcases r.at_ with ⟨rfl, e⟩ | ⟨i, o, s, cap, rfl, _, hb⟩
  · left
    exact ⟨rfl, by simpa using e⟩
  · right
    refine ⟨i, o, s, cap, by rw [List.length_map], fun hk => ?_⟩
    · obtain ⟨b, h1, h2, h3⟩ := hb (by simpa using hk)
      refine ⟨b, h1, fun j x hx => ?_⟩
      have hx2 : (ks.map keepR)[j]? = some (keepR x) := by rw [List.getElem?_map, hx]; rfl
      have h4 := flat_chunk r.len hx2
      have hjl := (List.getElem?_eq_some_iff.1 hx2).1
      rw [← h3, List.drop_take, List.take_take, Nat.min_eq_left (by omega), List.drop_drop] at h4
      have e0 := congrArg (fun L : List Value => L[0]?) h4
      have e1 := congrArg (fun L : List Value => L[1]?) h4
      simp only [List.getElem?_take_of_lt (show 0 < 2 by omega), List.getElem?_take_of_lt (show 1 < 2 by omega), List.getElem?_drop, Nat.add_zero] at e0 e1
      exact ⟨e0, e1⟩
end Go.Proofs.Ytiebmncpdnbcjaa

/-
  A step of both disks.
-/
namespace Go.Proofs.Ytiebmncpdnbcjaa
open Go Go.Eng Go.Dsk
attribute [local irreducible] AWp AL DAL AOp TAL

theorem ne_get {h0 : Heap} {q i : Nat} {b : Blk} (hq : h0.get q = some b) (hi : h0.get i = none) : q ≠ i := fun e => by rw [e, hi] at hq; cases hq
theorem ne_obj {h0 : Heap} {q i : Nat} {b : AObj} (hq : h0.obj q = some b) (hi : h0.obj i = none) : q ≠ i := fun e => by rw [e, hi] at hq; cases hq
theorem Ext.free {h0 h : Heap} (hx : Ext h0 h) (wf : WF h) {q : Nat} (hq : h.next ≤ q) : h0.get q = none := by
  cases hg : h0.get q with
  | none => rfl
  | some b => have := hx.c q b hg; rw [wf.c q hq] at this; cases this
theorem Ext.freeO {h0 h : Heap} (hx : Ext h0 h) (wf : WF h) {q : Nat} (hq : h.next ≤ q) : h0.obj q = none := by
  cases hg : h0.obj q with
  | none => rfl
  | some b => have := hx.o q b hg; rw [wf.o q hq] at this; cases this
/-- Both disks, where they lie, apart from all that h0 says. -/
structure St (h0 h : Heap) (room i m : Nat) (l : FL) (c j : Nat) (v : Value) (F : List RF) : Prop where
  dk : At h i m room l c
  rk : RAt h j room v F
  ne : i ≠ j
  nv : vblk v ≠ some i
  sm : Sm l F
  li : h0.get i = none
  lm : h0.obj m = none
  lj : h0.get j = none
  ext : Ext h0 h
  wf : WF h
section
variable {h0 h H h2 : Heap} {room i m : Nat} {l l1 : FL} {c c1 j : Nat} {v : Value} {F F1 : List RF}
theorem RAt.ch (r : RAt h j room v F) (k : Ch i m h H) (hj : j ≠ i) (hv : vblk v ≠ some i) : RAt H j room v F :=
  ⟨k.c _ _ r.box hj, r.rn.keep fun q b hq hb => k.c q b hb (fun e => hv (e ▸ hq)), r.cnt, r.big, r.used⟩
theorem At.md (a : At h i m room l c) (k : Md j h H) (hi : i ≠ j) : At H i m room l c := ⟨k.c _ _ a.box hi, k.o _ _ a.map, a.ok, a.big⟩
theorem St.grow (s : St h0 h room i m l c j v F) (hx : Ext h H) (wf : WF H) : St h0 H room i m l c j v F :=
  ⟨⟨hx.c _ _ s.dk.box, hx.o _ _ s.dk.map, s.dk.ok, s.dk.big⟩, s.rk.ext hx, s.ne, s.nv, s.sm, s.li, s.lm, s.lj, s.ext.trans hx, wf⟩
theorem St.both (s : St h0 h room i m l c j v F) (d1 : DOk room l1 c1) (m1 : Sm l1 F1) (r : RSt (stD h i m room l1 c1) j room F1 h2) : ∃ v', St h0 h2 room i m l1 c1 j v' F1 := by
  obtain ⟨⟨v', r1, r2⟩, md⟩ := r
  have li := s.dk.lt s.wf
  have k1 := st_ch (room := room) (l := l1) (c := c1) s.wf li.1 li.2
  have a1 : At (stD h i m room l1 c1) i m room l1 c1 := At.st d1 s.dk.big
  have hn : (stD h i m room l1 c1).next = h.next := rfl
  exact ⟨v', ⟨a1.md md s.ne, r1, s.ne, fun e => by have := r2 i e; omega, m1, s.li, s.lm, s.lj,
    ⟨fun q b hq => md.c q b (k1.c q b (s.ext.c q b hq) (ne_get hq s.li)) (ne_get hq s.lj), fun q b hq => md.o q b (k1.o q b (s.ext.o q b hq) (ne_obj hq s.lm))⟩, md.wf⟩⟩
theorem St.one (s : St h0 h room i m l c j v F) (d1 : DOk room l1 c1) (m1 : Sm l1 F) : St h0 (stD h i m room l1 c1) room i m l1 c1 j v F := by
  have li := s.dk.lt s.wf
  have k1 := st_ch (room := room) (l := l1) (c := c1) s.wf li.1 li.2
  exact ⟨At.st d1 s.dk.big, s.rk.ch k1 (fun e => s.ne e.symm) s.nv, s.ne, s.nv, m1, s.li, s.lm, s.lj,
    ⟨fun q b hq => k1.c q b (s.ext.c q b hq) (ne_get hq s.li), fun q b hq => k1.o q b (s.ext.o q b hq) (ne_obj hq s.lm)⟩, k1.wf⟩
end
theorem DOk.syncL {room c : Nat} {l : FL} (d : DOk room l c) (s : List UInt8) : DOk room (syncL l c s) (syncC l c s) := by
  unfold Go.Proofs.Ytiebmncpdnbcjaa.syncL syncC
  by_cases he : openE l s [] = 0
  · rw [if_pos he, if_pos he]
    unfold openE at he
    cases hg : goodN s with
    | false => rw [hg] at he; simp at he
    | true =>
      cases hh : hasS l s with
      | false => rw [hg, hh] at he; simp at he
      | true => exact d.put hg (sync_fit d s) (by have := del_length hh; have := d.cnt; omega)
  · rw [if_neg he, if_neg he]; exact d
theorem DOk.renL {room c : Nat} {l : FL} (d : DOk room l c) (s t : List UInt8) : DOk room (renL l c s t) (renC l c s t) := by
  unfold Go.Proofs.Ytiebmncpdnbcjaa.renL renC
  by_cases he : openE l s [t] = 0
  · rw [if_pos he, if_pos he]
    unfold openE at he
    cases hg : goodN s with
    | false => rw [hg] at he; simp at he
    | true =>
      cases ht : goodN t with
      | false => rw [hg] at he; simp [ht] at he
      | true =>
        cases hh : hasS l s with
        | false => rw [hg, hh] at he; simp [ht] at he
        | true => exact (d.del s).put ht (ren_fit d s t) (by have := del_length hh; have := d.cnt; have := (del_sub (delS l s) t).length_le; omega)
  · rw [if_neg he, if_neg he]; exact d
/-- A step that came in. -/
structure StepOk (h : Heap) (dv kv : Value) (x : StepM) : Prop where
  rb : RB h dv x.data
  rn : RN 2 h kv (x.keep.map keepR)
  la : x.a.length ≤ 4611686018427387904
  lb : x.b.length ≤ 4611686018427387904
  ld : x.data.length ≤ 1000000
  lk : x.keep.length ≤ 1000000
  ln : ∀ y ∈ x.keep, y.1.length ≤ 4611686018427387904
abbrev stepR (dv kv : Value) (x : StepM) : List Value := [.int .i64 x.kind, .string (bstr x.a), .string (bstr x.b), dv, kv]
abbrev stepB (dv kv : Value) (x : StepM) : Blk := ⟨stepR dv kv x, 41, true⟩
theorem St.boxed {h0 h : Heap} {room i m : Nat} {l : FL} {c j : Nat} {v : Value} {F : List RF} (s : St h0 h room i m l c j v F) {q : Nat} (hq : q ≠ i) (hj : q ≠ j) {b : Blk} (l1 : FL) (c1 : Nat) (hb : h.get q = some b) :
    (stD h i m room l1 c1).get q = some b ∧ ∀ {F1 : List RF} {h2 : Heap}, RSt (stD h i m room l1 c1) j room F1 h2 → h2.get q = some b := by
  have li := s.dk.lt s.wf
  have k1 := (st_ch (room := room) (l := l1) (c := c1) s.wf li.1 li.2).c q b hb hq
  exact ⟨k1, fun r => r.md.c q b k1 hj⟩
/-- What a step comes to. -/
def Did (h0 : Heap) (room : Nat) (F : List RF) (x : StepM) (u : Value) (h' : Heap) : Prop :=
  ∃ i m l c j v, u = .tuple #[ptr i, ptr j, .bool true] ∧ St h0 h' room i m l c j v (stepF room F x)
set_option maxHeartbeats 4000000 in
theorem do2_c (h0 h : Heap) (room i m : Nat) (l : FL) (c j : Nat) (v : Value) (F : List RF) (dv kv : Value) (x : StepM) (s : St h0 h room i m l c j v F) (ok : StepOk h0 dv kv x) (hk : x.kind = 2) :
    ACalls Try.prog 21 [ptr i, ptr j, .agg (stepR dv kv x).toArray] h (Did h0 room F x) := by
  refine ACalls.wf fun wf => ?_
  refine ACalls.body Try.func21 rfl rfl ?_
  have li := s.dk.lt s.wf
  have lj := s.wf.lt s.rk.box
  have hF : stepF room F x = syncR F x.a := by unfold stepF; rw [hk]; rfl
  have hx1 := wf.ext (stepB dv kv x)
  have wf1 := wf.alloc (stepB dv kv x)
  have g1 := Heap.alloc_new h (stepB dv kv x)
  have n1 : (h.alloc (stepB dv kv x)).next = h.next + 1 := rfl
  have s1 := s.grow hx1 wf1
  repeat (first | refine AWp.seq ?_ | refine AWp.region ?_)
  refine AL.set rfl rfl (op_box (v := .agg (stepR dv kv x).toArray) rfl (by intro e; cases e) ?_)
  refine AL.heap (show _ = h.alloc (stepB dv kv x) from rfl) ?_
  generalize h.alloc (stepB dv kv x) = H1 at hx1 wf1 g1 n1 s1 ⊢
  repeat (first | refine AL.nil ?_ | refine AWp.seq ?_ | refine AWp.region ?_ | refine AWp.condT rfl ?_ | refine AWp.condF rfl ?_ | refine AWp.block ?_ | refine AL.set rfl rfl (op_assignB rfl ?_) | refine AL.set rfl rfl (op_assignP rfl ?_) | refine AL.set rfl rfl (op_fa rfl ?_) | refine AL.set rfl rfl (op_load rfl rfl g1 rfl ?_) | refine AL.set rfl rfl (op_intT rfl rfl rfl (by omega) ?_) | refine AL.set rfl rfl (op_intF rfl rfl rfl (by omega) ?_))
  have cd := sync_c i m room l c x.a H1 s1.dk ok.la
  rw [← eR_eq s.sm x.a] at cd
  refine AWp.treeJ (fun H => H.get h.next = some (stepB dv kv x)) (fun _ _ a b => b.c _ _ a) (t := OT.seq [(0, .P), (1, .P), (2, .P), (3, .P), (4, .S), (7, .P), (8, .P), (9, .S), (5, .W), (6, .P), (10, .W), (11, .P), (12, .P), (13, .P), (14, .P)] .nil) mixed (by kernel_rfl) g1 ?_
  repeat (first | refine TAL.p rfl rfl rfl (fun h' hn => op_moveP rfl ⟨rfl, rfl⟩) ?_ | refine TAL.p rfl rfl rfl (fun h' hn => op_fa rfl ⟨rfl, rfl⟩) ?_ | refine TAL.s rfl rfl rfl (fun h' hn hx => op_load rfl rfl hx rfl ⟨rfl, rfl⟩) ?_)
  refine TAL.wj rfl rfl rfl (op_call rfl rfl (cd.mono ?_))
  rintro _ _ ⟨rfl, rfl⟩
  obtain ⟨hb, hb2⟩ := s1.boxed (show h.next ≠ i by omega) (show h.next ≠ j by omega) (syncL l c x.a) (syncC l c x.a) g1
  refine ⟨hb, ?_⟩
  have dS := DOk.syncL s.dk.ok x.a
  have k1 := st_ch (room := room) (l := syncL l c x.a) (c := syncC l c x.a) s1.wf (s1.dk.lt s1.wf).1 (s1.dk.lt s1.wf).2
  have cr := rsync_c j room v F x.a _ (s1.rk.ch k1 (fun e => s1.ne e.symm) s1.nv) ok.la
  repeat (first | refine TAL.p rfl rfl rfl (fun h' hn => op_callS rfl rfl (num_c _ h') ⟨rfl, rfl⟩) ?_)
  refine TAL.wj rfl rfl rfl (op_call rfl rfl (cr.mono ?_))
  rintro _ H3 ⟨rfl, hor⟩
  have hJ3 : H3.get h.next = some (stepB dv kv x) := by
    rcases hor with ⟨_, rfl⟩ | ⟨_, _, _, _, _, _, r⟩
    · exact hb
    · exact hb2 r
  refine ⟨hJ3, ?_⟩
  repeat (first | refine TAL.p rfl rfl rfl (fun h' hn => op_assignB rfl ⟨rfl, rfl⟩) ?_ | refine TAL.p rfl rfl rfl (fun h' hn => op_assignP rfl ⟨rfl, rfl⟩) ?_ | refine TAL.p rfl rfl rfl (fun h' hn => op_intT rfl rfl rfl rfl ⟨rfl, rfl⟩) ?_)
  refine TAL.nil ?_
  repeat (first | refine AWp.ret ?_)
  have hsy : ∀ {e}, eR F x.a = e → openE l x.a [] = e := fun he => by rw [← eR_eq s.sm]; exact he
  rcases hor with ⟨h0', rfl⟩ | ⟨q, y, h1', h2', h3', h4', r⟩
  · have e1 : syncL l c x.a = l := by unfold syncL; rw [if_neg (by rw [← eR_eq s.sm]; exact h0')]
    have e2 : syncC l c x.a = c := by unfold syncC; rw [if_neg (by rw [← eR_eq s.sm]; exact h0')]
    have e3 : syncR F x.a = F := by unfold syncR; rw [if_neg h0']
    refine ⟨_, ResV.tmp3 rfl, i, m, syncL l c x.a, syncC l c x.a, j, v, rfl, ?_⟩
    rw [hF, e3]
    exact s1.one dS (by rw [e1]; exact s.sm)
  · have e3 : syncR F x.a = F.set q (x.a, y.2.1 ++ y.2.2, []) := by unfold syncR; rw [if_pos h1', h2']; simp only [h3']
    have e1 : syncL l c x.a = putD l x.a (allF (fileOf l x.a), []) c := by unfold syncL; rw [if_pos (hsy h1')]
    have hm : Sm (syncL l c x.a) (F.set q (x.a, y.2.1 ++ y.2.2, [])) := by
      rw [e1]
      have h6 := (s.sm.file s.dk.ok.names (List.mem_of_getElem? h3')).1
      rw [h4'] at h6
      have h7 := s.sm.put s.dk.ok.names h3' (y.2.1 ++ y.2.2, []) c
      rw [h4'] at h7
      rw [h6]
      exact h7
    obtain ⟨v', s3⟩ := s1.both dS hm r
    refine ⟨_, ResV.tmp3 rfl, i, m, syncL l c x.a, syncC l c x.a, j, v', rfl, ?_⟩
    rw [hF, e3]
    exact s3
end Go.Proofs.Ytiebmncpdnbcjaa

/-
  A step of both disks: kinds 3 and 4.
-/
namespace Go.Proofs.Ytiebmncpdnbcjaa
open Go Go.Eng Go.Dsk
attribute [local irreducible] AWp AL DAL AOp TAL

theorem delS_absent {l : FL} {s : List UInt8} (h : hasS l s = false) : delS l s = l := del_none h
set_option maxHeartbeats 4000000 in
theorem do4_c (h0 h : Heap) (room i m : Nat) (l : FL) (c j : Nat) (v : Value) (F : List RF) (dv kv : Value) (x : StepM) (s : St h0 h room i m l c j v F) (ok : StepOk h0 dv kv x) (hk : x.kind = 4) :
    ACalls Try.prog 21 [ptr i, ptr j, .agg (stepR dv kv x).toArray] h (Did h0 room F x) := by
  refine ACalls.wf fun wf => ?_
  refine ACalls.body Try.func21 rfl rfl ?_
  have li := s.dk.lt s.wf
  have lj := s.wf.lt s.rk.box
  have hF : stepF room F x = remR F x.a := by unfold stepF; rw [hk]; rfl
  have hx1 := wf.ext (stepB dv kv x)
  have wf1 := wf.alloc (stepB dv kv x)
  have g1 := Heap.alloc_new h (stepB dv kv x)
  have n1 : (h.alloc (stepB dv kv x)).next = h.next + 1 := rfl
  have s1 := s.grow hx1 wf1
  repeat (first | refine AWp.seq ?_ | refine AWp.region ?_)
  refine AL.set rfl rfl (op_box (v := .agg (stepR dv kv x).toArray) rfl (by intro e; cases e) ?_)
  refine AL.heap (show _ = h.alloc (stepB dv kv x) from rfl) ?_
  generalize h.alloc (stepB dv kv x) = H1 at hx1 wf1 g1 n1 s1 ⊢
  repeat (first | refine AL.nil ?_ | refine AWp.seq ?_ | refine AWp.region ?_ | refine AWp.condT rfl ?_ | refine AWp.condF rfl ?_ | refine AWp.block ?_ | refine AL.set rfl rfl (op_assignB rfl ?_) | refine AL.set rfl rfl (op_assignP rfl ?_) | refine AL.set rfl rfl (op_fa rfl ?_) | refine AL.set rfl rfl (op_load rfl rfl g1 rfl ?_) | refine AL.set rfl rfl (op_intT rfl rfl rfl (by omega) ?_) | refine AL.set rfl rfl (op_intF rfl rfl rfl (by omega) ?_))
  have cd := remove_c i m room l c x.a H1 s1.dk ok.la
  rw [← eR_eq s.sm x.a] at cd
  refine AWp.treeJ (fun H => H.get h.next = some (stepB dv kv x)) (fun _ _ a b => b.c _ _ a) (t := OT.seq [(0, .P), (1, .P), (2, .P), (3, .P), (4, .S), (7, .P), (8, .P), (9, .S), (5, .W), (6, .P), (10, .W), (11, .P), (12, .P), (13, .P), (14, .P)] .nil) mixed (by kernel_rfl) g1 ?_
  repeat (first | refine TAL.p rfl rfl rfl (fun h' hn => op_moveP rfl ⟨rfl, rfl⟩) ?_ | refine TAL.p rfl rfl rfl (fun h' hn => op_fa rfl ⟨rfl, rfl⟩) ?_ | refine TAL.s rfl rfl rfl (fun h' hn hx => op_load rfl rfl hx rfl ⟨rfl, rfl⟩) ?_)
  refine TAL.wj rfl rfl rfl (op_call rfl rfl (cd.mono ?_))
  rintro _ _ ⟨rfl, rfl⟩
  obtain ⟨hb, hb2⟩ := s1.boxed (show h.next ≠ i by omega) (show h.next ≠ j by omega) (delS l x.a) c g1
  refine ⟨hb, ?_⟩
  have dS := DOk.del s.dk.ok x.a
  have k1 := st_ch (room := room) (l := delS l x.a) (c := c) s1.wf (s1.dk.lt s1.wf).1 (s1.dk.lt s1.wf).2
  have cr := rremove_c j room v F x.a _ (s1.rk.ch k1 (fun e => s1.ne e.symm) s1.nv) ok.la
  repeat (first | refine TAL.p rfl rfl rfl (fun h' hn => op_callS rfl rfl (num_c _ h') ⟨rfl, rfl⟩) ?_)
  refine TAL.wj rfl rfl rfl (op_call rfl rfl (cr.mono ?_))
  rintro _ H3 ⟨rfl, hor⟩
  have hJ3 : H3.get h.next = some (stepB dv kv x) := by
    rcases hor with ⟨_, rfl⟩ | ⟨_, _, _, _, _, _, r⟩
    · exact hb
    · exact hb2 r
  refine ⟨hJ3, ?_⟩
  repeat (first | refine TAL.p rfl rfl rfl (fun h' hn => op_assignB rfl ⟨rfl, rfl⟩) ?_ | refine TAL.p rfl rfl rfl (fun h' hn => op_assignP rfl ⟨rfl, rfl⟩) ?_ | refine TAL.p rfl rfl rfl (fun h' hn => op_intT rfl rfl rfl rfl ⟨rfl, rfl⟩) ?_)
  refine TAL.nil ?_
  repeat (first | refine AWp.ret ?_)
  rcases hor with ⟨h0', rfl⟩ | ⟨q, y, h1', h2', h3', h4', r⟩
  · have e3 : remR F x.a = F := by unfold remR; rw [if_neg h0']
    have hd : Sm (delS l x.a) F := by
      cases hh : hasS l x.a with
      | false => rw [delS_absent hh]; exact s.sm
      | true =>
        exfalso
        rw [s.sm.has] at hh
        have hin := hh
        have hg : goodN x.a = true := by
          rw [← s.sm.has, has_mem] at hh
          obtain ⟨e, he, h2⟩ := List.mem_map.1 hh
          have := s.dk.ok.good e he
          rwa [h2] at this
        apply h0'
        unfold eR
        rw [hg, hin]
        rfl
    refine ⟨_, ResV.tmp3 rfl, i, m, delS l x.a, c, j, v, rfl, ?_⟩
    rw [hF, e3]
    exact s1.one dS hd
  · have e3 : remR F x.a = dropR F q := by unfold remR; rw [if_pos h1', h2']
    have hm : Sm (delS l x.a) (dropR F q) := by
      have h6 := s.sm.del s.dk.ok.names h3'
      rw [h4'] at h6
      exact h6.perm (dropR_perm (List.getElem?_eq_some_iff.1 h3').1).symm
    obtain ⟨v', s3⟩ := s1.both dS hm r
    refine ⟨_, ResV.tmp3 rfl, i, m, delS l x.a, c, j, v', rfl, ?_⟩
    rw [hF, e3]
    exact s3
set_option maxHeartbeats 4000000 in
theorem do3_c (h0 h : Heap) (room i m : Nat) (l : FL) (c j : Nat) (v : Value) (F : List RF) (dv kv : Value) (x : StepM) (s : St h0 h room i m l c j v F) (ok : StepOk h0 dv kv x) (hk : x.kind = 3) :
    ACalls Try.prog 21 [ptr i, ptr j, .agg (stepR dv kv x).toArray] h (Did h0 room F x) := by
  refine ACalls.wf fun wf => ?_
  refine ACalls.body Try.func21 rfl rfl ?_
  have li := s.dk.lt s.wf
  have lj := s.wf.lt s.rk.box
  have hF : stepF room F x = renR F x.a x.b := by unfold stepF; rw [hk]; rfl
  have hx1 := wf.ext (stepB dv kv x)
  have wf1 := wf.alloc (stepB dv kv x)
  have g1 := Heap.alloc_new h (stepB dv kv x)
  have n1 : (h.alloc (stepB dv kv x)).next = h.next + 1 := rfl
  have s1 := s.grow hx1 wf1
  repeat (first | refine AWp.seq ?_ | refine AWp.region ?_)
  refine AL.set rfl rfl (op_box (v := .agg (stepR dv kv x).toArray) rfl (by intro e; cases e) ?_)
  refine AL.heap (show _ = h.alloc (stepB dv kv x) from rfl) ?_
  generalize h.alloc (stepB dv kv x) = H1 at hx1 wf1 g1 n1 s1 ⊢
  repeat (first | refine AL.nil ?_ | refine AWp.seq ?_ | refine AWp.region ?_ | refine AWp.condT rfl ?_ | refine AWp.condF rfl ?_ | refine AWp.block ?_ | refine AL.set rfl rfl (op_assignB rfl ?_) | refine AL.set rfl rfl (op_assignP rfl ?_) | refine AL.set rfl rfl (op_fa rfl ?_) | refine AL.set rfl rfl (op_load rfl rfl g1 rfl ?_) | refine AL.set rfl rfl (op_intT rfl rfl rfl (by omega) ?_) | refine AL.set rfl rfl (op_intF rfl rfl rfl (by omega) ?_))
  have cd := rename_c i m room l c x.a x.b H1 s1.dk ok.la ok.lb
  have hE := ren_eq s.sm x.a x.b
  rw [hE] at cd
  refine AWp.treeJ (fun H => H.get h.next = some (stepB dv kv x)) (fun _ _ a b => b.c _ _ a) (t := OT.seq [(0, .P), (1, .P), (2, .P), (3, .P), (4, .S), (5, .P), (6, .S), (9, .P), (10, .P), (11, .S), (12, .P), (13, .S), (7, .W), (8, .P), (14, .W), (15, .P), (16, .P), (17, .P), (18, .P)] .nil) mixed (by kernel_rfl) g1 ?_
  repeat (first | refine TAL.p rfl rfl rfl (fun h' hn => op_moveP rfl ⟨rfl, rfl⟩) ?_ | refine TAL.p rfl rfl rfl (fun h' hn => op_fa rfl ⟨rfl, rfl⟩) ?_ | refine TAL.s rfl rfl rfl (fun h' hn hx => op_load rfl rfl hx rfl ⟨rfl, rfl⟩) ?_)
  refine TAL.wj rfl rfl rfl (op_call rfl rfl (cd.mono ?_))
  rintro _ _ ⟨rfl, rfl⟩
  obtain ⟨hb, hb2⟩ := s1.boxed (show h.next ≠ i by omega) (show h.next ≠ j by omega) (renL l c x.a x.b) (renC l c x.a x.b) g1
  refine ⟨hb, ?_⟩
  have dS := DOk.renL s.dk.ok x.a x.b
  have k1 := st_ch (room := room) (l := renL l c x.a x.b) (c := renC l c x.a x.b) s1.wf (s1.dk.lt s1.wf).1 (s1.dk.lt s1.wf).2
  have cr := rrename_c j room v F x.a x.b _ (s1.rk.ch k1 (fun e => s1.ne e.symm) s1.nv) ok.la ok.lb
  rw [show renRE F x.a x.b = renE F x.a x.b from rfl] at cr
  repeat (first | refine TAL.p rfl rfl rfl (fun h' hn => op_callS rfl rfl (num_c _ h') ⟨rfl, rfl⟩) ?_)
  refine TAL.wj rfl rfl rfl (op_call rfl rfl (cr.mono ?_))
  rintro _ H3 ⟨rfl, hor⟩
  have hJ3 : H3.get h.next = some (stepB dv kv x) := by
    rcases hor with ⟨_, rfl⟩ | ⟨_, _, _, _, _, _, _, ⟨_, r⟩ | ⟨_, _, _, _, _, r⟩⟩
    · exact hb
    · exact hb2 r
    · exact hb2 r
  refine ⟨hJ3, ?_⟩
  repeat (first | refine TAL.p rfl rfl rfl (fun h' hn => op_assignB rfl ⟨rfl, rfl⟩) ?_ | refine TAL.p rfl rfl rfl (fun h' hn => op_assignP rfl ⟨rfl, rfl⟩) ?_ | refine TAL.p rfl rfl rfl (fun h' hn => op_intT rfl rfl rfl rfl ⟨rfl, rfl⟩) ?_)
  refine TAL.nil ?_
  repeat (first | refine AWp.ret ?_)
  rcases hor with ⟨h0', rfl⟩ | ⟨q, y, h1', hst, h2', h3', h4', hor⟩
  · have e3 : renR F x.a x.b = F := by
      unfold renR
      rw [if_neg (fun e => h0'.elim (fun h => h e.1) (fun h => e.2 h))]
    have hm : Sm (renL l c x.a x.b) F := by
      by_cases he : renE F x.a x.b = 0
      · have hab : x.a = x.b := h0'.resolve_left (fun h => h he)
        have e1 : renL l c x.a x.b = putD (delS l x.a) x.b (fileOf l x.a) c := by unfold renL; rw [if_pos (hE.trans he)]
        rw [e1, ← hab]
        refine putD_same s.dk.ok.names s.sm ?_ c
        rw [← hE] at he
        unfold openE at he
        cases hh : hasS l x.a with
        | true => rfl
        | false =>
          rw [hh] at he
          exfalso
          revert he
          cases goodN x.a <;> cases [x.b].all goodN <;> simp
      · have e1 : renL l c x.a x.b = l := by unfold renL; rw [if_neg (fun e => he (hE.symm.trans e))]
        rw [e1]
        exact s.sm
    refine ⟨_, ResV.tmp3 rfl, i, m, renL l c x.a x.b, renC l c x.a x.b, j, v, rfl, ?_⟩
    rw [hF, e3]
    exact s1.one dS hm
  · have e1 : renL l c x.a x.b = putD (delS l x.a) x.b (fileOf l x.a) c := by unfold renL; rw [if_pos (hE.trans h1')]
    obtain ⟨p1, p2⟩ := ren_sm s.sm s.dk.ok.names hst h3' h4' c
    rcases hor with ⟨hn, r⟩ | ⟨k, z, hz1, hz2, hz3, r⟩
    · have e3 : renR F x.a x.b = F.set q (x.b, y.2.1, y.2.2) := by
        unfold renR
        rw [if_pos ⟨h1', hst⟩, h2']
        simp only [h3', hn]
      obtain ⟨v', s3⟩ := s1.both dS (by rw [e1]; exact p1 hn) r
      refine ⟨_, ResV.tmp3 rfl, i, m, renL l c x.a x.b, renC l c x.a x.b, j, v', rfl, ?_⟩
      rw [hF, e3]
      exact s3
    · have e3 : renR F x.a x.b = dropR (F.set q (x.b, y.2.1, y.2.2)) k := by
        unfold renR
        rw [if_pos ⟨h1', hst⟩, h2']
        simp only [h3', hz1]
      obtain ⟨v', s3⟩ := s1.both dS (by rw [e1]; exact p2 k z hz2 hz3) r
      refine ⟨_, ResV.tmp3 rfl, i, m, renL l c x.a x.b, renC l c x.a x.b, j, v', rfl, ?_⟩
      rw [hF, e3]
      exact s3
end Go.Proofs.Ytiebmncpdnbcjaa

/-
  A step of both disks: kinds 1, 5, 6 and any other; all of them.
-/
namespace Go.Proofs.Ytiebmncpdnbcjaa
open Go Go.Eng Go.Dsk
attribute [local irreducible] AWp AL DAL AOp TAL

theorem Ext.kp {h0 H H' : Heap} {O : Nat → Prop} (hx : Ext h0 H) (k : Kp O H H') (ho : ∀ p, O p → h0.get p = none) (hoO : ∀ p, O p → h0.obj p = none) : Ext h0 H' :=
  ⟨fun q b hq => k.c q b (hx.c q b hq) fun e => ne_get hq (ho _ e) rfl, fun q b hq => k.o q b (hx.o q b hq) fun e => ne_obj hq (hoO _ e) rfl⟩
theorem At.kp {h h' : Heap} {i m room : Nat} {l : FL} {c : Nat} {O : Nat → Prop} (a : At h i m room l c) (k : Kp O h h') (h1 : ¬ O i) (h2 : ¬ O m) : At h' i m room l c := ⟨k.c _ _ a.box h1, k.o _ _ a.map h2, a.ok, a.big⟩
theorem RAt.kp {g h h' : Heap} {j room : Nat} {v : Value} {F : List RF} {O : Nat → Prop} (a : RAt h j room v F) (r0 : RN 3 g v (F.map rowR)) (wf : WF g) (k : Kp O h h') (h1 : ¬ O j) (h2 : ∀ q, q < g.next → ¬ O q) : RAt h' j room v F := by
  refine ⟨k.c _ _ a.box h1, ⟨a.rn.len, ?_⟩, a.cnt, a.big, a.used⟩
  rcases a.rn.at_ with e | ⟨i, o, s, cap, q1, q2, q3⟩
  · exact .inl e
  · refine .inr ⟨i, o, s, cap, q1, q2, fun hv => ?_⟩
    rcases r0.at_ with ⟨_, e⟩ | ⟨i', o', s', cap', p1, _, p3⟩
    · exact absurd e hv
    obtain ⟨b', hb', _⟩ := p3 hv
    have hi : i = i' := by rw [q1] at p1; injection p1 with p1; injection p1 with p1; injection p1 with p1
    obtain ⟨b, hb, hb2⟩ := q3 hv
    exact ⟨b, k.c _ _ hb (h2 i (by have := wf.lt hb'; omega)), hb2⟩
theorem St.of {h0 H h2 : Heap} {room i m : Nat} {l1 : FL} {c1 j : Nat} {F1 : List RF} (a1 : At H i m room l1 c1) (ne : i ≠ j) (m1 : Sm l1 F1) (li : h0.get i = none) (lm : h0.obj m = none) (lj : h0.get j = none) (hx : Ext h0 H) (wf : WF H) (r : RSt H j room F1 h2) :
    ∃ v', St h0 h2 room i m l1 c1 j v' F1 := by
  obtain ⟨⟨v', r1, r2⟩, md⟩ := r
  have hi := a1.lt wf
  exact ⟨v', a1.md md ne, r1, ne, fun e => by have := r2 i e; omega, m1, li, lm, lj,
    ⟨fun q b hq => md.c q b (hx.c q b hq) (ne_get hq lj), fun q b hq => md.o q b (hx.o q b hq)⟩, md.wf⟩
set_option maxHeartbeats 4000000 in
theorem do1_c (h0 h : Heap) (room i m : Nat) (l : FL) (c j : Nat) (v : Value) (F : List RF) (dv kv : Value) (x : StepM) (s : St h0 h room i m l c j v F) (ok : StepOk h0 dv kv x) (hk : x.kind = 1) :
    ACalls Try.prog 21 [ptr i, ptr j, .agg (stepR dv kv x).toArray] h (Did h0 room F x) := by
  refine ACalls.wf fun wf => ?_
  refine ACalls.body Try.func21 rfl rfl ?_
  have li := s.dk.lt s.wf
  have lj := s.wf.lt s.rk.box
  have hF : stepF room F x = appR room F x.a x.data := by unfold stepF; rw [hk]; rfl
  have hx1 := wf.ext (stepB dv kv x)
  have wf1 := wf.alloc (stepB dv kv x)
  have g1 := Heap.alloc_new h (stepB dv kv x)
  have n1 : (h.alloc (stepB dv kv x)).next = h.next + 1 := rfl
  have s1 := s.grow hx1 wf1
  have hla := ok.la
  have hld := ok.ld
  repeat (first | refine AWp.seq ?_ | refine AWp.region ?_)
  refine AL.set rfl rfl (op_box (v := .agg (stepR dv kv x).toArray) rfl (by intro e; cases e) ?_)
  refine AL.heap (show _ = h.alloc (stepB dv kv x) from rfl) ?_
  generalize h.alloc (stepB dv kv x) = H1 at hx1 wf1 g1 n1 s1 ⊢
  repeat (first | refine AL.nil ?_ | refine AWp.seq ?_ | refine AWp.region ?_ | refine AWp.condT rfl ?_ | refine AWp.block ?_ | refine AL.set rfl rfl (op_assignB rfl ?_) | refine AL.set rfl rfl (op_assignP rfl ?_) | refine AL.set rfl rfl (op_fa rfl ?_) | refine AL.set rfl rfl (op_load rfl rfl g1 rfl ?_) | refine AL.set rfl rfl (op_intT rfl rfl rfl (by omega) ?_))
  refine AL.set rfl rfl (op_appN (e := 5) (B := H1.next) rfl wf1 (Nat.le_refl _) rfl rfl (ok.rb.ext (s.ext.trans hx1)) (by omega) ?_)
  intro u H2 hO hx2 wf2 hn2
  have s2 := s1.grow hx2 wf2
  have g2 := hx2.c _ _ g1
  have hrb : RB H2 u x.data := hO.rb
  have cd := append_c i m room l c x.a u x.data H2 s2.dk hla hrb (by omega)
  rw [app_eq s.sm s.dk.ok] at cd
  have li2 := s2.dk.lt s2.wf
  have dS := DOk.app s.dk.ok x.a x.data
  have mS := app_sm s.sm s.dk.ok (c := c) x.a x.data
  have k1 := st_ch (room := room) (l := appL room l c x.a x.data) (c := appC room l c x.a x.data) s2.wf li2.1 li2.2
  have a3 : At (stD H2 i m room (appL room l c x.a x.data) (appC room l c x.a x.data)) i m room (appL room l c x.a x.data) (appC room l c x.a x.data) := At.st dS s.dk.big
  have r3 := s2.rk.ch k1 (fun e => s.ne e.symm) s.nv
  have g3 := k1.c _ _ g2 (show h.next ≠ i by omega)
  have n3 : (stD H2 i m room (appL room l c x.a x.data) (appC room l c x.a x.data)).next = H2.next := rfl
  have hO3 : OS H1.next (stD H2 i m room (appL room l c x.a x.data) (appC room l c x.a x.data)) 5 u (bv x.data) := by
    rcases hO with hO | ⟨q, cc, q1, q2, q3⟩
    · exact .inl hO
    · exact .inr ⟨q, cc, q1, q2, k1.c _ _ q3 (by omega)⟩
  have x3 : Ext h0 (stD H2 i m room (appL room l c x.a x.data) (appC room l c x.a x.data)) := by
    exact ⟨fun q b hq => k1.c q b (s2.ext.c q b hq) (ne_get hq s.li), fun q b hq => k1.o q b (s2.ext.o q b hq) (ne_obj hq s.lm)⟩
  have wf3 := k1.wf
  have hbx := wf.lt s.rk.box
  repeat (first | refine AL.nil ?_ | refine AWp.seq ?_ | refine AWp.region ?_ | refine AL.set rfl rfl (op_moveP rfl ?_) | refine AL.set rfl rfl (op_fa rfl ?_) | refine AL.set rfl rfl (op_load rfl rfl g2 rfl ?_) | refine AL.set rfl rfl (op_move (by conv => lhs; whnf) ?_) | refine AL.set rfl rfl (op_assign (by conv => lhs; whnf) ?_))
  refine AL.set rfl rfl (op_call rfl rfl (cd.mono ?_))
  rintro _ _ ⟨rfl, rfl⟩
  generalize stD H2 i m room (appL room l c x.a x.data) (appC room l c x.a x.data) = H3 at a3 r3 g3 n3 hO3 x3 wf3 ⊢
  repeat (first | refine AL.nil ?_ | refine AWp.seq ?_ | refine AWp.region ?_ | refine AWp.block ?_ | refine AL.set rfl rfl (op_assignI rfl ?_) | refine AL.set rfl rfl (op_callS rfl rfl (num_c _ H3) ?_))
  refine AWp.loop (α := Nat × List Value × Heap) (fun d => [(0, ptr i), (1, ptr j), (5, ptr h.next), (9, u), (10, .int .i64 (appRE room F x.a x.data)), (11, .int .i64 (d.1 : Nat))]) (fun d => d.2.2)
    (fun d => d.1 ≤ x.data.length ∧ d.2.1.length = x.data.length ∧ d.2.1.drop d.1 = (bv x.data).drop d.1 ∧ OS H1.next d.2.2 5 u d.2.1 ∧ Kp (fun p => H1.next ≤ p ∧ p ≠ m) H3 d.2.2 ∧ WF d.2.2 ∧ d.2.2.next = H3.next) (fun d => x.data.length - d.1) (0, bv x.data, H3)
    ⟨Nat.zero_le _, by rw [bv_length], rfl, hO3, ⟨fun j b e _ => e, fun j b e _ => e⟩, wf3, rfl⟩ (Weak.same (EW.cons rfl (EW.cons rfl (EW.cons rfl (EW.cons rfl (EW.cons rfl (EW.cons rfl EW.nil))))))) ?_
  rintro ⟨k2, vs, H4⟩ ⟨w1, w2, w3, w4, w5, w6, w7⟩
  replace w1 : k2 ≤ x.data.length := w1
  replace w2 : vs.length = x.data.length := w2
  replace w3 : vs.drop k2 = (bv x.data).drop k2 := w3
  replace w4 : OS H1.next H4 5 u vs := w4
  replace w5 : Kp (fun p => H1.next ≤ p ∧ p ≠ m) H3 H4 := w5
  replace w6 : WF H4 := w6
  replace w7 : H4.next = H3.next := w7
  show AWp _ _ _ _ [(0, ptr i), (1, ptr j), (5, ptr h.next), (9, u), (10, .int .i64 (appRE room F x.a x.data)), (11, .int .i64 (k2 : Nat))] H4
  by_cases hk2 : k2 < x.data.length
  · obtain ⟨q, cc, hq1, rfl, hq⟩ := w4.ne (by omega)
    obtain ⟨b, hb⟩ : ∃ b, x.data[k2]? = some b := ⟨_, List.getElem?_eq_getElem hk2⟩
    have hvk : vs[0 + ((k2 : Nat) : Int).toNat * 1]? = some (.int .u8 (b.toNat : Int)) := by
      have e1 := congrArg (fun L : List Value => L[0]?) w3
      simp only [List.getElem?_drop, Nat.add_zero] at e1
      rw [Int.toNat_natCast, Nat.zero_add, Nat.mul_one, e1]
      exact bv_get _ _ _ hb
    repeat (first | refine AL.nil ?_ | refine AWp.seq ?_ | refine AWp.region ?_ | refine AWp.condT rfl ?_ | refine AWp.block ?_ | refine AWp.skip ?_ | refine AL.set rfl rfl (op_moveI rfl ?_) | refine AL.set rfl rfl (op_moveS rfl ?_) | refine AL.set rfl rfl (op_lenS rfl ?_) | refine AL.set rfl rfl (op_intT rfl rfl rfl (by omega) ?_) | refine AL.set rfl rfl (op_indexS (sz := 1) rfl rfl (by omega) (by omega) ?_) | refine AL.set rfl rfl (op_load rfl rfl hq hvk ?_) | refine AL.set rfl rfl (op_int rfl rfl rfl ?_))
    refine AL.eff rfl (op_store rfl rfl rfl hq rfl (by rw [Int.toNat_natCast]; show _ < vs.length; omega) ?_)
    repeat (first | refine AL.nil ?_ | refine AWp.region ?_ | refine AL.set rfl rfl (op_moveI rfl ?_) | refine AL.set rfl rfl (op_assignI rfl ?_) | refine AL.set rfl rfl (op_add64 rfl rfl (by omega) ?_))
    refine ⟨(k2 + 1, vs.set (0 + ((k2 : Nat) : Int).toNat * 1) _, H4.set q _), ⟨hk2, by simpa using w2, ?_, .inr ⟨q, cc, hq1, by simp, Heap.set_at _ _ _⟩, ⟨fun p y e ho => (Heap.set_other (fun e2 => ho ⟨by omega, by omega⟩)).trans (w5.c p y e ho), fun p y e ho => w5.o p y e ho⟩, w6.set (w6.lt hq) _, w7⟩, by show x.data.length - (k2 + 1) < x.data.length - k2; omega, Weak.same (EW.cons rfl (EW.cons rfl (EW.cons rfl (EW.cons rfl (EW.cons rfl (EW.cons rfl EW.nil))))))⟩
    show (vs.set (0 + ((k2 : Nat) : Int).toNat * 1) _).drop (k2 + 1) = (bv x.data).drop (k2 + 1)
    rw [List.drop_set_of_lt (by rw [Int.toNat_natCast]; omega), ← List.drop_drop (i := 1), w3, List.drop_drop]
  · have g4 := w5.c _ _ g3 (by omega)
    have a4 := a3.kp w5 (by omega) (by omega)
    have r4 := r3.kp s1.rk.rn wf1 w5 (by omega) (fun q hq => by omega)
    have x4 : Ext h0 H4 := Ext.kp x3 w5 (fun p hp => Ext.free s1.ext wf1 hp.1) (fun p hp => Ext.freeO s1.ext wf1 hp.1)
    obtain ⟨q, cc, hu⟩ := w4.rs.slice
    rw [w2] at hu
    have cr := rappend_c j room v F x.a dv x.data H4 r4 hla (ok.rb.ext x4) (by omega)
    repeat (first | refine AL.nil ?_ | refine AWp.seq ?_ | refine AWp.region ?_ | refine AWp.condF rfl ?_ | refine AWp.exit ?_ | refine AL.set rfl rfl (op_moveI rfl ?_) | refine AL.set rfl rfl (op_moveP rfl ?_) | refine AL.set rfl rfl (op_lenR w4.rs rfl ?_) | refine AL.set rfl rfl (op_intF rfl rfl rfl (by omega) ?_) | refine AL.set rfl rfl (op_fa rfl ?_) | refine AL.set rfl rfl (op_load rfl rfl g4 rfl ?_) | refine AL.set rfl rfl (op_move (by conv => lhs; whnf) ?_))
    refine AL.set rfl rfl (op_call rfl rfl (cr.mono ?_))
    rintro _ H5 ⟨rfl, hor⟩
    repeat (first | refine AL.nil ?_ | refine AWp.ret ?_ | refine AL.set rfl rfl (op_assignB rfl ?_) | refine AL.set rfl rfl (op_assignP rfl ?_) | refine AL.set rfl rfl (op_intT rfl rfl rfl rfl ?_))
    rcases hor with ⟨h0', rfl⟩ | ⟨h1', r⟩
    · have e3 : appR room F x.a x.data = F := by
        unfold appR
        refine if_pos ?_
        by_cases hc : eR F x.a = 2 ∨ room < usedR F + x.data.length ∨ (eR F x.a = 6 ∧ F.length = 128)
        · exact hc
        · exact absurd (by unfold appRE; rw [if_neg fun e => hc (.inl e), if_neg fun e => hc (.inr e)]) h0'
      refine ⟨_, ResV.tmp3 rfl, i, m, appL room l c x.a x.data, appC room l c x.a x.data, j, v, rfl, ?_⟩
      rw [hF]
      rw [e3] at mS ⊢
      exact ⟨a4, r4, s.ne, s.nv, mS, s.li, s.lm, s.lj, x4, w6⟩
    · obtain ⟨v', s5⟩ := St.of a4 s.ne mS s.li s.lm s.lj x4 w6 r
      refine ⟨_, ResV.tmp3 rfl, i, m, appL room l c x.a x.data, appC room l c x.a x.data, j, v', rfl, ?_⟩
      rw [hF]
      exact s5
set_option maxHeartbeats 4000000 in
theorem do6_c (h0 h : Heap) (room i m : Nat) (l : FL) (c j : Nat) (v : Value) (F : List RF) (dv kv : Value) (x : StepM) (s : St h0 h room i m l c j v F) (hk : x.kind = 6) :
    ACalls Try.prog 21 [ptr i, ptr j, .agg (stepR dv kv x).toArray] h (Did h0 room F x) := by
  refine ACalls.wf fun wf => ?_
  refine ACalls.body Try.func21 rfl rfl ?_
  have li := s.dk.lt s.wf
  have lj := s.wf.lt s.rk.box
  have hF : stepF room F x = F := by unfold stepF; rw [hk]; rfl
  have hx1 := wf.ext (stepB dv kv x)
  have wf1 := wf.alloc (stepB dv kv x)
  have g1 := Heap.alloc_new h (stepB dv kv x)
  have n1 : (h.alloc (stepB dv kv x)).next = h.next + 1 := rfl
  have s1 := s.grow hx1 wf1
  repeat (first | refine AWp.seq ?_ | refine AWp.region ?_)
  refine AL.set rfl rfl (op_box (v := .agg (stepR dv kv x).toArray) rfl (by intro e; cases e) ?_)
  refine AL.heap (show _ = h.alloc (stepB dv kv x) from rfl) ?_
  generalize h.alloc (stepB dv kv x) = H1 at hx1 wf1 g1 n1 s1 ⊢
  repeat (first | refine AL.nil ?_ | refine AWp.seq ?_ | refine AWp.region ?_ | refine AWp.condT rfl ?_ | refine AWp.condF rfl ?_ | refine AWp.block ?_ | refine AL.set rfl rfl (op_moveP rfl ?_) | refine AL.set rfl rfl (op_assignB rfl ?_) | refine AL.set rfl rfl (op_assignP rfl ?_) | refine AL.set rfl rfl (op_fa rfl ?_) | refine AL.set rfl rfl (op_load rfl rfl g1 rfl ?_) | refine AL.set rfl rfl (op_intT rfl rfl rfl (by omega) ?_) | refine AL.set rfl rfl (op_intF rfl rfl rfl (by omega) ?_))
  refine AL.set rfl rfl (op_call rfl rfl ((copy_c i m room l c H1 s1.dk).mono ?_))
  rintro _ H2 ⟨i', m', l', c', rfl, q1, q2, a2, ⟨q3, q4, q5⟩, hx2, wf2, hn2⟩
  have s2 := s1.grow hx2 wf2
  repeat (first | refine AL.set rfl rfl (op_moveP rfl ?_))
  refine AL.set rfl rfl (op_call rfl rfl ((rcopy_c j room v F H2 s2.rk).mono ?_))
  rintro _ H3 ⟨j', v', rfl, p1, p2, p3, hx3, wf3, hn3⟩
  have s3 := s2.grow hx3 wf3
  repeat (first | refine AL.set rfl rfl (op_moveP rfl ?_))
  refine AL.set rfl rfl (op_call rfl rfl ((copy_c i m room l c H3 s3.dk).mono ?_))
  rintro _ H4 ⟨i2, m2, l2, c2, rfl, _, _, _, _, hx4, wf4, hn4⟩
  repeat (first | refine AL.nil ?_ | refine AWp.ret ?_ | refine AL.set rfl rfl (op_assignB rfl ?_) | refine AL.set rfl rfl (op_assignP rfl ?_) | refine AL.set rfl rfl (op_nePtrNil rfl rfl ?_))
  have a4 : At H4 i' m' room l' c' := ⟨hx4.c _ _ (hx3.c _ _ a2.box), hx4.o _ _ (hx3.o _ _ a2.map), a2.ok, a2.big⟩
  have hi2 := a2.lt wf2
  refine ⟨_, ResV.tmp3 rfl, i', m', l', c', j', v', rfl, ?_⟩
  rw [hF]
  exact ⟨a4, p2.ext hx4, by omega, fun e => by have := p3 _ e; omega, s.sm.copy s.dk.ok.names a2.ok.names q3, Ext.free s1.ext s1.wf q1, Ext.freeO s1.ext s1.wf q2, Ext.free s2.ext s2.wf p1, ((s1.ext.trans hx2).trans hx3).trans hx4, wf4⟩
set_option maxHeartbeats 4000000 in
theorem do0_c (h0 h : Heap) (room i m : Nat) (l : FL) (c j : Nat) (v : Value) (F : List RF) (dv kv : Value) (x : StepM) (s : St h0 h room i m l c j v F) (h1 : x.kind ≠ 1) (h2 : x.kind ≠ 2) (h3 : x.kind ≠ 3) (h4 : x.kind ≠ 4) (h5 : x.kind ≠ 5) (h6 : x.kind ≠ 6) :
    ACalls Try.prog 21 [ptr i, ptr j, .agg (stepR dv kv x).toArray] h (Did h0 room F x) := by
  refine ACalls.wf fun wf => ?_
  refine ACalls.body Try.func21 rfl rfl ?_
  have hF : stepF room F x = F := by unfold stepF; rw [if_neg h1, if_neg h2, if_neg h3, if_neg h4, if_neg h5]
  have hx1 := wf.ext (stepB dv kv x)
  have wf1 := wf.alloc (stepB dv kv x)
  have g1 := Heap.alloc_new h (stepB dv kv x)
  have s1 := s.grow hx1 wf1
  repeat (first | refine AWp.seq ?_ | refine AWp.region ?_)
  refine AL.set rfl rfl (op_box (v := .agg (stepR dv kv x).toArray) rfl (by intro e; cases e) ?_)
  refine AL.heap (show _ = h.alloc (stepB dv kv x) from rfl) ?_
  generalize h.alloc (stepB dv kv x) = H1 at hx1 wf1 g1 s1 ⊢
  repeat (first | refine AL.nil ?_ | refine AWp.seq ?_ | refine AWp.region ?_ | refine AWp.condF rfl ?_ | refine AWp.ret ?_ | refine AWp.block ?_ | refine AWp.skip ?_ | refine AL.set rfl rfl (op_moveP rfl ?_) | refine AL.set rfl rfl (op_assignB rfl ?_) | refine AL.set rfl rfl (op_assignP rfl ?_) | refine AL.set rfl rfl (op_fa rfl ?_) | refine AL.set rfl rfl (op_load rfl rfl g1 rfl ?_) | refine AL.set rfl rfl (op_intF rfl rfl rfl h1 ?_) | refine AL.set rfl rfl (op_intF rfl rfl rfl h2 ?_) | refine AL.set rfl rfl (op_intF rfl rfl rfl h3 ?_) | refine AL.set rfl rfl (op_intF rfl rfl rfl h4 ?_) | refine AL.set rfl rfl (op_intF rfl rfl rfl h5 ?_) | refine AL.set rfl rfl (op_intF rfl rfl rfl h6 ?_))
  refine ⟨_, ResV.tmp3 rfl, i, m, l, c, j, v, rfl, ?_⟩
  rw [hF]
  exact s1
set_option maxHeartbeats 4000000 in
theorem do5_c (h0 h : Heap) (room i m : Nat) (l : FL) (c j : Nat) (v : Value) (F : List RF) (dv kv : Value) (x : StepM) (s : St h0 h room i m l c j v F) (ok : StepOk h0 dv kv x) (hk : x.kind = 5) :
    ACalls Try.prog 21 [ptr i, ptr j, .agg (stepR dv kv x).toArray] h (Did h0 room F x) := by
  refine ACalls.wf fun wf => ?_
  refine ACalls.body Try.func21 rfl rfl ?_
  have li := s.dk.lt s.wf
  have lj := s.wf.lt s.rk.box
  have hF : stepF room F x = (if crashE F x.keep = 0 then crashL F x.keep else F) := by unfold stepF; rw [hk]; rfl
  have hx1 := wf.ext (stepB dv kv x)
  have wf1 := wf.alloc (stepB dv kv x)
  have g1 := Heap.alloc_new h (stepB dv kv x)
  have n1 : (h.alloc (stepB dv kv x)).next = h.next + 1 := rfl
  have s1 := s.grow hx1 wf1
  have hlk := ok.lk
  repeat (first | refine AWp.seq ?_ | refine AWp.region ?_)
  refine AL.set rfl rfl (op_box (v := .agg (stepR dv kv x).toArray) rfl (by intro e; cases e) ?_)
  refine AL.heap (show _ = h.alloc (stepB dv kv x) from rfl) ?_
  generalize h.alloc (stepB dv kv x) = H1 at hx1 wf1 g1 n1 s1 ⊢
  repeat (first | refine AL.nil ?_ | refine AWp.seq ?_ | refine AWp.region ?_ | refine AWp.condT rfl ?_ | refine AWp.condF rfl ?_ | refine AWp.block ?_ | refine AL.set rfl rfl (op_moveP rfl ?_) | refine AL.set rfl rfl (op_assignB rfl ?_) | refine AL.set rfl rfl (op_assignP rfl ?_) | refine AL.set rfl rfl (op_fa rfl ?_) | refine AL.set rfl rfl (op_load rfl rfl g1 rfl ?_) | refine AL.set rfl rfl (op_intT rfl rfl rfl (by omega) ?_) | refine AL.set rfl rfl (op_intF rfl rfl rfl (by omega) ?_))
  have rk1 : RN 2 H1 kv (x.keep.map keepR) := ok.rn.ext s1.ext
  have bad : ∀ e : Int, e ≠ 0 → crashE F x.keep = e → ACalls Try.prog 34 [ptr i, kv] H1 (fun u h' => u = .tuple #[.pointer none, .int .i64 e] ∧ Ext H1 h' ∧ WF h') → True := fun _ _ _ _ => trivial
  clear bad
  by_cases he : crashE F x.keep = 0
  · have hb : badK x.keep = false := by
      cases hb : badK x.keep with
      | false => rfl
      | true => unfold crashE at he; rw [hb] at he; cases he
    obtain ⟨out, cc, hkp, ho⟩ := kept_some s.sm hb
    rw [he] at hkp
    have hpos : ∀ t, 0 ≤ (getS out t).getD 0 := by
      intro t
      rw [ho]
      unfold told
      cases hf : x.keep.find? (fun y => y.1 == t) with
      | none => exact Int.le_refl _
      | some y => exact (badK_mem hb y (List.mem_of_find?_eq_some hf)).2
    refine AL.set rfl rfl (op_call rfl rfl ((crash_ok i m room l c kv x.keep H1 s1.dk (RN.ks rk1) hlk ok.ln out cc hkp hpos).mono ?_))
    rintro _ H2 ⟨i', m', N, rfl, q1, q2, hR, hN, a2, hx2, wf2, hn2⟩
    have s2 := s1.grow hx2 wf2
    have g2 := hx2.c _ _ g1
    repeat (first | refine AL.nil ?_ | refine AWp.seq ?_ | refine AWp.region ?_ | refine AL.set rfl rfl (op_moveP rfl ?_) | refine AL.set rfl rfl (op_moveT rfl ?_) | refine AL.set rfl rfl (op_assignI rfl ?_) | refine AL.set rfl rfl (op_assignP rfl ?_) | refine AL.set rfl rfl (op_extract rfl rfl ?_) | refine AL.set rfl rfl (op_fa rfl ?_) | refine AL.set rfl rfl (op_load rfl rfl g2 rfl ?_))
    refine AL.set rfl rfl (op_call rfl rfl ((rcrash_c j room v F kv x.keep H2 s2.rk (rk1.ext hx2) (by omega) ok.ln).mono ?_))
    rintro _ H3 (⟨hne, _⟩ | ⟨_, j', v', rfl, p1, p2, p3, hx3, wf3, hn3⟩)
    · exact absurd he hne
    repeat (first | refine AL.nil ?_ | refine AWp.seq ?_ | refine AWp.region ?_ | refine AWp.condT rfl ?_ | refine AWp.condF rfl ?_ | refine AWp.ret ?_ | refine AWp.skip ?_ | refine AL.set rfl rfl (op_moveI rfl ?_) | refine AL.set rfl rfl (op_moveB rfl ?_) | refine AL.set rfl rfl (op_moveP rfl ?_) | refine AL.set rfl rfl (op_moveT rfl ?_) | refine AL.set rfl rfl (op_assignI rfl ?_) | refine AL.set rfl rfl (op_assignB rfl ?_) | refine AL.set rfl rfl (op_assignP rfl ?_) | refine AL.set rfl rfl (op_extract rfl rfl ?_) | refine AL.set rfl rfl (op_callS rfl rfl (num_c _ H3) ?_) | refine AL.set rfl rfl (op_intF rfl rfl rfl (by exact fun e => e rfl) ?_) | refine AL.set rfl rfl (op_eqPtrNil rfl rfl ?_) | refine AL.set rfl rfl (op_boolNeF rfl rfl rfl ?_) | refine AL.set rfl rfl (op_pick rfl rfl ?_) | refine AL.set rfl rfl (op_nePtrNil rfl rfl ?_))
    have hi2 := a2.lt wf2
    refine ⟨_, ResV.tmp3 rfl, i', m', leftL l out N, N.length, j', v', rfl, ?_⟩
    rw [hF, if_pos he]
    exact ⟨⟨hx3.c _ _ a2.box, hx3.o _ _ a2.map, a2.ok, a2.big⟩, p2, by omega, fun e => by have := p3 _ e; omega, left_sm s.sm s.dk.ok.names ho hb (rise_nodup' hR) hN, Ext.free s1.ext s1.wf q1, Ext.freeO s1.ext s1.wf q2, Ext.free s2.ext s2.wf p1, (s1.ext.trans hx2).trans hx3, wf3⟩
  · have hc : ACalls Try.prog 34 [ptr i, kv] H1 (fun u h' => u = .tuple #[.pointer none, .int .i64 (crashE F x.keep)] ∧ Ext H1 h' ∧ WF h') := by
      cases hb : badK x.keep with
      | true =>
        have : crashE F x.keep = 2 := by unfold crashE; rw [hb]; rfl
        rw [this]
        exact crash_no i m room l c kv x.keep H1 s1.dk (RN.ks rk1) hlk ok.ln (kept_none l x.keep hb)
      | false =>
        obtain ⟨out, cc, hkp, _⟩ := kept_some s.sm hb
        exact crash_err i m room l c kv x.keep H1 s1.dk (RN.ks rk1) hlk ok.ln out cc _ hkp he
    refine AL.set rfl rfl (op_call rfl rfl (hc.mono ?_))
    rintro _ H2 ⟨rfl, hx2, wf2⟩
    have s2 := s1.grow hx2 wf2
    have g2 := hx2.c _ _ g1
    repeat (first | refine AL.nil ?_ | refine AWp.seq ?_ | refine AWp.region ?_ | refine AL.set rfl rfl (op_moveP rfl ?_) | refine AL.set rfl rfl (op_moveT rfl ?_) | refine AL.set rfl rfl (op_assignI rfl ?_) | refine AL.set rfl rfl (op_assignP rfl ?_) | refine AL.set rfl rfl (op_extract rfl rfl ?_) | refine AL.set rfl rfl (op_fa rfl ?_) | refine AL.set rfl rfl (op_load rfl rfl g2 rfl ?_))
    refine AL.set rfl rfl (op_call rfl rfl ((rcrash_c j room v F kv x.keep H2 s2.rk (rk1.ext hx2) (by omega) ok.ln).mono ?_))
    rintro _ H3 (⟨_, rfl, rfl⟩ | ⟨hz, _⟩)
    · repeat (first | refine AL.nil ?_ | refine AWp.seq ?_ | refine AWp.region ?_ | refine AWp.condF rfl ?_ | refine AWp.ret ?_ | refine AWp.skip ?_ | refine AL.set rfl rfl (op_moveI rfl ?_) | refine AL.set rfl rfl (op_moveB rfl ?_) | refine AL.set rfl rfl (op_moveP rfl ?_) | refine AL.set rfl rfl (op_moveT rfl ?_) | refine AL.set rfl rfl (op_assignI rfl ?_) | refine AL.set rfl rfl (op_assignB rfl ?_) | refine AL.set rfl rfl (op_assignP rfl ?_) | refine AL.set rfl rfl (op_extract rfl rfl ?_) | refine AL.set rfl rfl (op_callS rfl rfl (num_c _ _) ?_) | refine AL.set rfl rfl (op_intF rfl rfl rfl (by exact fun e => e rfl) ?_) | refine AL.set rfl rfl (op_eqPtrNil rfl rfl ?_) | refine AL.set rfl rfl (op_boolNeF rfl rfl rfl ?_) | refine AL.set rfl rfl (op_pick rfl rfl ?_) | refine AL.set rfl rfl (op_nePtrNil rfl rfl ?_))
      refine ⟨_, ResV.tmp3 rfl, i, m, l, c, j, v, rfl, ?_⟩
      rw [hF, if_neg he]
      exact s2
    · exact absurd hz he
/-- All but the two disks. -/
def strip (H : Heap) (i m j : Nat) : Heap := ⟨fun p => if p = i ∨ p = j then none else H.get p, H.next, fun p => if p = m then none else H.obj p⟩
section
variable {h0 g0 H : Heap} {room i m : Nat} {l : FL} {c j : Nat} {v : Value} {F : List RF}
theorem strip_ext : Ext (strip H i m j) H := ⟨fun p b h => by
  unfold strip at h
  simp only at h
  split at h
  · cases h
  · exact h, fun p b h => by
  unfold strip at h
  simp only at h
  split at h
  · cases h
  · exact h⟩
theorem strip_get {p : Nat} {b : Blk} (h : H.get p = some b) (h1 : p ≠ i) (h2 : p ≠ j) : (strip H i m j).get p = some b := by
  unfold strip
  simp only
  rw [if_neg (fun e => e.elim h1 h2)]
  exact h
theorem strip_of (hx : Ext h0 H) (li : h0.get i = none) (lj : h0.get j = none) (lm : h0.obj m = none) : Ext h0 (strip H i m j) := ⟨fun p b h => strip_get (hx.c p b h) (ne_get h li) (ne_get h lj), fun p b h => by
  unfold strip
  simp only
  rw [if_neg (ne_obj h lm)]
  exact hx.o p b h⟩
theorem St.strip (z : St h0 H room i m l c j v F) : St (Go.Proofs.Ytiebmncpdnbcjaa.strip H i m j) H room i m l c j v F :=
  ⟨z.dk, z.rk, z.ne, z.nv, z.sm, if_pos (.inl rfl), if_pos rfl, if_pos (.inr rfl), strip_ext, z.wf⟩
theorem St.low (z : St h0 H room i m l c j v F) (hx : Ext g0 h0) : St g0 H room i m l c j v F := by
  refine ⟨z.dk, z.rk, z.ne, z.nv, z.sm, ?_, ?_, ?_, hx.trans z.ext, z.wf⟩
  · cases h : g0.get i with
    | none => rfl
    | some b => exact absurd rfl (ne_get (hx.c i b h) z.li)
  · cases h : g0.obj m with
    | none => rfl
    | some b => exact absurd rfl (ne_obj (hx.o m b h) z.lm)
  · cases h : g0.get j with
    | none => rfl
    | some b => exact absurd rfl (ne_get (hx.c j b h) z.lj)
theorem OS.strip {B : Nat} {e : TypeId} {u : Value} {us : List Value} (r : OS B H e u us) (hi : i < B) (hj : j < B) : OS B (Go.Proofs.Ytiebmncpdnbcjaa.strip H i m j) e u us := by
  rcases r with r | ⟨q, cc, q1, q2, q3⟩
  · exact .inl r
  · exact .inr ⟨q, cc, q1, q2, strip_get q3 (by omega) (by omega)⟩
end
/-- A step of both. -/
theorem do_c (h0 h : Heap) (room i m : Nat) (l : FL) (c j : Nat) (v : Value) (F : List RF) (dv kv : Value) (x : StepM) (s : St h0 h room i m l c j v F) (ok : StepOk h0 dv kv x) :
    ACalls Try.prog 21 [ptr i, ptr j, .agg (stepR dv kv x).toArray] h (Did h0 room F x) := by
  by_cases h1 : x.kind = 1
  · exact do1_c h0 h room i m l c j v F dv kv x s ok h1
  by_cases h2 : x.kind = 2
  · exact do2_c h0 h room i m l c j v F dv kv x s ok h2
  by_cases h3 : x.kind = 3
  · exact do3_c h0 h room i m l c j v F dv kv x s ok h3
  by_cases h4 : x.kind = 4
  · exact do4_c h0 h room i m l c j v F dv kv x s ok h4
  by_cases h5 : x.kind = 5
  · exact do5_c h0 h room i m l c j v F dv kv x s ok h5
  by_cases h6 : x.kind = 6
  · exact do6_c h0 h room i m l c j v F dv kv x s h6
  exact do0_c h0 h room i m l c j v F dv kv x s h1 h2 h3 h4 h5 h6
end Go.Proofs.Ytiebmncpdnbcjaa
