/-
  Texts of one claim, merged: 4 parts.
-/
import Derived.Test.YtigmojilaadbhaaGreatDoorMpt
import Derived.Test.YtigmojilaadbhaaGreatDoorMpf
import GoSem.Extern.BytealgCompare
import GoSem.Op.String
import Derived.Test.YtigmojilaadbhaaGreatDoorMps
import Derived.Test.YtigmojilaadbhaaGreatDoorMpp
set_option maxHeartbeats 16000000
/- . -/
namespace Go.Proofs.YtigmojilaadbhaaGreatDoor
open Go Go.Eng Go.Pln Go.Lib Go.Proofs.Tryz
attribute [local irreducible] AWp AL DAL AOp TAL
instance i_rLine : FnC prog 22 := ⟨Tryz.f22, func22, by kernel_rfl, by kernel_rfl⟩
theorem tailW_cons (w : Bytes) (l : List Bytes) : tailW (w :: l) = 32 :: w ++ tailW l := by simp [tailW]
theorem rLine_c (p : ActV) (a : ActM) (h : Heap) (t : Tabs h) (r : ActR h p a) (hm : mayAct 5 5 a = true) : ACalls prog 22 [.agg (actC p a).toArray] h fun u h' => u = str (lineM a) ∧ h' = h := by
 obtain ⟨hk, hna, hp9, hp10, hp11, hnode, hgroup, hnn, hkp⟩ := (qev (by omega) (by omega) a).1 hm
 refine aL fun wf => aO ?_
 refine aD func22 rfl rfl ?_
 repeat (first | refine W.w ?_ | refine zz rfl (qah rfl ?_) | refine zz rfl (qaS rfl (by intro e; cases e) ?_))
 generalize hH : h.alloc _ = H
 have hg : H.get h.next = some ⟨actC p a, 40, true⟩ := hH ▸ aB _ _
 have xh : Ext h H := hH ▸ wf.ext _
 have wfH : WF H := hH ▸ wf.alloc _
 clear hH
 have cn := rName_c a.kind hk H
 have hkl : (kword a.kind).length ≤ 10 := by
  have := qgR ⟨(a.kind - 1).toNat, by omega⟩
  rw [show ((a.kind - 1).toNat : Int) + 1 = a.kind by omega] at this
  exact this
 obtain ⟨ra, rc, rk⟩ := r.ext xh
 by_cases k1 : a.kind = 3 ∨ a.kind = 4 ∨ a.kind = 5
 ·
  have he : restW a = [itoa a.n] := by unfold restW; rw [Ah k1]
  rcases k1 with k | k | k <;>
  ·
   repeat (first | refine W.w ?_ | refine aE rfl ?_ | refine aG rfl ?_ | (refine zz rfl ?_; first | refine qaj rfl ?_ | refine qaa rfl ?_ | refine qah rfl ?_ | refine qan rfl ?_ | refine qaf rfl rfl hg rfl ?_ | refine qab rfl rfl cn ?_ | refine qak rfl rfl rfl (by omega) ?_ | refine qai rfl rfl rfl (by omega) ?_ | refine qaN (iv64 [a.n]) rfl rfl rfl rfl (qbD _) ?_))
   have gr := aB H ⟨iv64 [a.n], 3, true⟩
   have xr := wfH.ext ⟨iv64 [a.n], 3, true⟩
   have wr := wfH.alloc ⟨iv64 [a.n], 3, true⟩
   refine aS (h := H.alloc ⟨iv64 [a.n], 3, true⟩) rfl ?_
   generalize H.alloc ⟨iv64 [a.n], 3, true⟩ = H1 at gr xr wr ⊢
   have cN := N_c (kword a.kind) (.slice (some ⟨H.next, 0, some 1⟩) 1 1) [a.n] H1 (bK gr rfl) (by intro n hn; simp only [Ak, As, or_false] at hn; rcases hn with rfl <;> exact ⟨by omega, by omega⟩) (by simp only [Ad, Ag]; omega) (t.ext (xh.trans xr))
   repeat (first | refine W.w ?_ | refine zz rfl (qah rfl ?_) | refine zz rfl (qab rfl rfl cN ?_))
   refine ⟨_, aC rfl, rfl, xh.trans xr, ?_, rfl⟩
   unfold lineM
   rw [he, qaQ]
   rfl
 by_cases k2 : a.kind = 8 ∨ a.kind = 13
 ·
  have he : restW a = [itoa a.node] := by unfold restW; rw [Ac k1, Ah k2]
  rcases k2 with k | k <;>
  ·
   repeat (first | refine W.w ?_ | refine aE rfl ?_ | refine aG rfl ?_ | (refine zz rfl ?_; first | refine qaj rfl ?_ | refine qaa rfl ?_ | refine qah rfl ?_ | refine qan rfl ?_ | refine qaf rfl rfl hg rfl ?_ | refine qab rfl rfl cn ?_ | refine qak rfl rfl rfl (by omega) ?_ | refine qai rfl rfl rfl (by omega) ?_ | refine qaN (iv64 [a.node]) rfl rfl rfl rfl (qbD _) ?_))
   have gr := aB H ⟨iv64 [a.node], 3, true⟩
   have xr := wfH.ext ⟨iv64 [a.node], 3, true⟩
   have wr := wfH.alloc ⟨iv64 [a.node], 3, true⟩
   refine aS (h := H.alloc ⟨iv64 [a.node], 3, true⟩) rfl ?_
   generalize H.alloc ⟨iv64 [a.node], 3, true⟩ = H1 at gr xr wr ⊢
   have cN := N_c (kword a.kind) (.slice (some ⟨H.next, 0, some 1⟩) 1 1) [a.node] H1 (bK gr rfl) (by intro n hn; simp only [Ak, As, or_false] at hn; rcases hn with rfl <;> exact ⟨by omega, by omega⟩) (by simp only [Ad, Ag]; omega) (t.ext (xh.trans xr))
   repeat (first | refine W.w ?_ | refine zz rfl (qah rfl ?_) | refine zz rfl (qab rfl rfl cN ?_))
   refine ⟨_, aC rfl, rfl, xh.trans xr, ?_, rfl⟩
   unfold lineM
   rw [he, qaQ]
   rfl
 by_cases k3 : a.kind = 9
 ·
  have he : restW a = itoa a.node :: planW a.cmd := by unfold restW; rw [Ac k1, Ac k2, Ah k3]
  have hmp : mayPlan a.cmd = true := by rw [qeO]; exact hp9 k3
  obtain ⟨l1, l2, l3, l4, l5⟩ := qcJ hmp
  repeat (first | refine W.w ?_ | refine aE rfl ?_ | refine aG rfl ?_ | (refine zz rfl ?_; first | refine qaj rfl ?_ | refine qaa rfl ?_ | refine qah rfl ?_ | refine qan rfl ?_ | refine qaf rfl rfl hg rfl ?_ | refine qab rfl rfl cn ?_ | refine qak rfl rfl rfl (by omega) ?_ | refine qai rfl rfl rfl (by omega) ?_ | refine qaN (iv64 [a.node]) rfl rfl rfl rfl (qbD _) ?_))
  have gr := aB H ⟨iv64 [a.node], 3, true⟩
  have xr := wfH.ext ⟨iv64 [a.node], 3, true⟩
  have wr := wfH.alloc ⟨iv64 [a.node], 3, true⟩
  refine aS (h := H.alloc ⟨iv64 [a.node], 3, true⟩) rfl ?_
  generalize H.alloc ⟨iv64 [a.node], 3, true⟩ = H1 at gr xr wr ⊢
  have cN := N_c (kword a.kind) (.slice (some ⟨H.next, 0, some 1⟩) 1 1) [a.node] H1 (bK gr rfl) (by intro n hn; simp only [Ak, As, or_false] at hn; rcases hn with rfl <;> exact ⟨by omega, by omega⟩) (by simp only [Ad, Ag]; omega) (t.ext (xh.trans xr))
  repeat (first | refine W.w ?_ | refine zz rfl (qah rfl ?_) | refine zz rfl (qab rfl rfl cN ?_))
  have hg1 := xr.c _ _ hg
  have q : RBs H1 [p.c.k] [a.cmd.key] := ⟨rc.k.ext xr, trivial⟩
  have hb : ∀ b ∈ [a.cmd.key], b.length ≤ 1000 := by intro b hb; rw [Ax.1 hb]; omega
  have hnl := qbm (n := a.node) (by omega) (by omega)
  have htl : (tailW ([a.node].map itoa)).length ≤ 22 := by
   simp only [tailW, Bq, List.map_nil, Cn, Ek, An, Ad, Ag]
   omega
  have hml : lineM a = kword a.kind ++ tailW ([a.node].map itoa) ++ tailW (planW a.cmd) := by
   unfold lineM
   rw [he, qaQ, tailW_cons]
   simp [tailW]
  have hwk := qbU a.cmd.key
  rw [hml]
  generalize tailW ([a.node].map itoa) = T1 at htl ⊢
  by_cases k6 : a.cmd.kind = 6
  ·
   have hpw : planW a.cmd = [wSplit, wordM a.cmd.key] := by unfold planW; rw [Ah k6]
   repeat (first | refine W.w ?_ | refine aE rfl ?_ | (refine zz rfl ?_; first | refine qaj rfl ?_ | refine qan rfl ?_ | refine qaf rfl rfl hg1 rfl ?_ | refine qak rfl rfl rfl (by omega) ?_ | refine qbZ (b := 32 :: wSplit) rfl rfl (by simp only [maxLen, wSplit, An, Ad, Ag]; omega) ?_ | refine qaN [p.c.k] rfl rfl rfl rfl q.ones ?_))
   obtain ⟨H2, hQ, g2, x2, _, _⟩ := aq wr ⟨[p.c.k], 27, true⟩
   rw [hQ]
   have cb := rB_c (kword a.kind ++ T1 ++ 32 :: wSplit) (.slice (some ⟨H1.next, 0, some 1⟩) 1 1) [a.cmd.key] H2 ((q.ext x2).rbb (bK g2 rfl)) (by simp only [wSplit, An, Ad, Ag]; omega) hb (by simp)
   repeat (first | refine W.w ?_ | refine zz rfl (qah rfl ?_) | refine zz rfl (qab rfl rfl cb ?_))
   refine ⟨_, aC rfl, rfl, xh.trans (xr.trans x2), ?_, rfl⟩
   rw [hpw]
   exact congrArg str (by simp [tailW])
  by_cases k7 : a.cmd.kind = 7
  ·
   have hpw : planW a.cmd = [wUnion, wordM a.cmd.key] := by unfold planW; rw [Ac k6, Ah k7]
   repeat (first | refine W.w ?_ | refine aE rfl ?_ | refine aG rfl ?_ | (refine zz rfl ?_; first | refine qaj rfl ?_ | refine qan rfl ?_ | refine qaf rfl rfl hg1 rfl ?_ | refine qak rfl rfl rfl (by omega) ?_ | refine qai rfl rfl rfl (by omega) ?_ | refine qbZ (b := 32 :: wUnion) rfl rfl (by simp only [maxLen, wUnion, An, Ad, Ag]; omega) ?_ | refine qaN [p.c.k] rfl rfl rfl rfl q.ones ?_))
   obtain ⟨H2, hQ, g2, x2, _, _⟩ := aq wr ⟨[p.c.k], 27, true⟩
   rw [hQ]
   have cb := rB_c (kword a.kind ++ T1 ++ 32 :: wUnion) (.slice (some ⟨H1.next, 0, some 1⟩) 1 1) [a.cmd.key] H2 ((q.ext x2).rbb (bK g2 rfl)) (by simp only [wUnion, An, Ad, Ag]; omega) hb (by simp)
   repeat (first | refine W.w ?_ | refine zz rfl (qah rfl ?_) | refine zz rfl (qab rfl rfl cb ?_))
   refine ⟨_, aC rfl, rfl, xh.trans (xr.trans x2), ?_, rfl⟩
   rw [hpw]
   exact congrArg str (by simp [tailW])
  ·
   have hpw : planW a.cmd = [wMove, wordM a.cmd.key, itoa a.cmd.group] := by unfold planW; rw [Ac k6, Ac k7]
   have hi : ∀ n ∈ [a.cmd.group], I64 n := by intro n hn; rw [Ax.1 hn]; exact ⟨by omega, by omega⟩
   have hs0 : (kword a.kind ++ T1 ++ 32 :: wMove).length ≤ 100000 := by simp only [wMove, An, Ad, Ag]; omega
   have hsl : (kword a.kind ++ T1 ++ 32 :: wMove ++ tailW ([a.cmd.key].map wordM)).length + 22 * [a.cmd.group].length ≤ 140737488351232 := by
    rw [An]
    simp only [tailW, Bq, List.map_nil, Cn, Ek, An, Ad, Ag] at hs0 ⊢
    omega
   have fin : str (kword a.kind ++ T1 ++ 32 :: wMove ++ tailW ([a.cmd.key].map wordM) ++ tailW ([a.cmd.group].map itoa)) = str (kword a.kind ++ T1 ++ tailW (planW a.cmd)) := by
    rw [hpw]
    exact congrArg str (by simp [tailW])
   repeat (first | refine W.w ?_ | refine aG rfl ?_ | (refine zz rfl ?_; first | refine qan rfl ?_ | refine qaf rfl rfl hg1 rfl ?_ | refine qai rfl rfl rfl (by omega) ?_))
   refine cD (t := OT.seq [(0, .R), (1, .R), (2, .R), (3, .R), (4, .R), (7, .R), (8, .R), (9, .R)] (.alt (OT.seq [(5, .X), (6, .R), (10, .X), (11, .R), (12, .R)] .nil) (OT.seq [(10, .X), (5, .X), (6, .R), (11, .R), (12, .R)] .nil))) mixed (by kernel_rfl) ?_
   repeat (first | refine tr rfl rfl (fun _ hx _ => qaj rfl ⟨rfl, rfl⟩) ?_ | refine tr rfl rfl (fun _ hx _ => qan rfl ⟨rfl, rfl⟩) ?_ | refine tr rfl rfl (fun _ hx _ => qaf rfl rfl (hx.c _ _ hg1) rfl ⟨rfl, rfl⟩) ?_ | refine tr rfl rfl (fun _ hx _ => qbZ (b := 32 :: wMove) rfl rfl (by simp only [maxLen, wMove, An, Ad, Ag]; omega) ⟨rfl, rfl⟩) ?_)
   refine TAL.two ?_ ?_
   ·
    refine cW rfl rfl rfl (qaN [p.c.k] rfl rfl rfl rfl q.ones ⟨wr.ext _, ?_⟩)
    obtain ⟨H2, hQ, g2, x2, w2, _⟩ := aq wr ⟨[p.c.k], 27, true⟩
    rw [hQ]
    have cB := rBx_c (kword a.kind ++ T1 ++ 32 :: wMove) (.slice (some ⟨H1.next, 0, some 1⟩) 1 1) [a.cmd.key] ((q.ext x2).rbb (bK g2 rfl)) hs0 hb (by simp)
    repeat (first | refine tr rfl rfl (fun h' hx _ => qab rfl rfl (cB h' hx) ⟨rfl, rfl⟩) ?_)
    refine cW rfl rfl rfl (qaN (iv64 [a.cmd.group]) rfl rfl rfl rfl (qbD _) ⟨w2.ext _, ?_⟩)
    obtain ⟨H3, hQ, g3, x3, _, _⟩ := aq w2 ⟨iv64 [a.cmd.group], 3, true⟩
    rw [hQ]
    have cN2 := rNx_c (kword a.kind ++ T1 ++ 32 :: wMove ++ tailW ([a.cmd.key].map wordM)) (.slice (some ⟨H2.next, 0, some 1⟩) 1 1) [a.cmd.group] (H := H3) (bK g3 rfl) hi hsl (t.ext (xh.trans (xr.trans (x2.trans x3))))
    repeat (first | refine tr rfl rfl (fun _ hx _ => qah rfl ⟨rfl, rfl⟩) ?_ | refine tr rfl rfl (fun h' hx _ => qab rfl rfl (cN2 h' hx) ⟨rfl, rfl⟩) ?_)
    refine bD ?_
    repeat (first | refine aM ?_)
    exact ⟨_, aC rfl, rfl, xh.trans (xr.trans (x2.trans x3)), fin, rfl⟩
   ·
    refine cW rfl rfl rfl (qaN (iv64 [a.cmd.group]) rfl rfl rfl rfl (qbD _) ⟨wr.ext _, ?_⟩)
    obtain ⟨H2, hQ, g2, x2, w2, _⟩ := aq wr ⟨iv64 [a.cmd.group], 3, true⟩
    rw [hQ]
    refine cW rfl rfl rfl (qaN [p.c.k] rfl rfl rfl rfl q.ones ⟨w2.ext _, ?_⟩)
    obtain ⟨H3, hQ, g3, x3, _, _⟩ := aq w2 ⟨[p.c.k], 27, true⟩
    rw [hQ]
    have cB := rBx_c (kword a.kind ++ T1 ++ 32 :: wMove) (.slice (some ⟨H2.next, 0, some 1⟩) 1 1) [a.cmd.key] ((q.ext (x2.trans x3)).rbb (bK g3 rfl)) hs0 hb (by simp)
    have cN2 := rNx_c (kword a.kind ++ T1 ++ 32 :: wMove ++ tailW ([a.cmd.key].map wordM)) (.slice (some ⟨H1.next, 0, some 1⟩) 1 1) [a.cmd.group] (H := H3) ((bK g2 rfl : RS H2 _ (iv64 [a.cmd.group])).ext x3) hi hsl (t.ext (xh.trans (xr.trans (x2.trans x3))))
    repeat (first | refine tr rfl rfl (fun _ hx _ => qah rfl ⟨rfl, rfl⟩) ?_ | refine tr rfl rfl (fun h' hx _ => qab rfl rfl (cB h' hx) ⟨rfl, rfl⟩) ?_ | refine tr rfl rfl (fun h' hx _ => qab rfl rfl (cN2 h' hx) ⟨rfl, rfl⟩) ?_)
    refine bD ?_
    repeat (first | refine aM ?_)
    exact ⟨_, aC rfl, rfl, xh.trans (xr.trans (x2.trans x3)), fin, rfl⟩
 by_cases k4 : a.kind = 10
 ·
  have he : restW a = itoa a.client :: itoa a.node :: itoa a.group :: askW a.ask := by unfold restW; rw [Ac k1, Ac k2, Ac k3, Ah k4]
  have hma := hp10 k4
  have hc := hp11 (.inl k4)
  have hal := qie hma
  have e1 := qbm (n := a.client) (by omega) (by omega)
  have e2 := qbm (n := a.node) (by omega) (by omega)
  have e3 := qbm (n := a.group) (by omega) (by omega)
  have htl : (tailW ([a.client, a.node, a.group].map itoa)).length ≤ 66 := by
   simp only [tailW, Bq, List.map_nil, Cn, Ek, An, Ad, Ag]
   omega
  have hml : lineM a = kword a.kind ++ tailW ([a.client, a.node, a.group].map itoa) ++ [32] ++ joinW (askW a.ask) := by
   unfold lineM
   rw [he, qaQ]
   cases hq : askW a.ask with
   | nil => exact absurd hq (askW_ne _)
   | cons w l => rw [qaQ]; simp [tailW]
  repeat (first | refine W.w ?_ | refine aE rfl ?_ | refine aG rfl ?_ | (refine zz rfl ?_; first | refine qaa rfl ?_ | refine qah rfl ?_ | refine qan rfl ?_ | refine qaf rfl rfl hg rfl ?_ | refine qab rfl rfl cn ?_ | refine qak rfl rfl rfl (by omega) ?_ | refine qai rfl rfl rfl (by omega) ?_))
  refine cD (t := OT.seq [(0, .R), (1, .R), (2, .R), (3, .R), (4, .R), (5, .R), (6, .R), (10, .R), (11, .R), (7, .X), (8, .R), (9, .R), (12, .R), (13, .R), (14, .R)] .nil) mixed (by kernel_rfl) ?_
  repeat (first | refine tr rfl rfl (fun _ hx _ => qaj rfl ⟨rfl, rfl⟩) ?_ | refine tr rfl rfl (fun _ hx _ => qan rfl ⟨rfl, rfl⟩) ?_ | refine tr rfl rfl (fun _ hx _ => qaf rfl rfl (hx.c _ _ hg) rfl ⟨rfl, rfl⟩) ?_ | refine tr rfl rfl (fun _ hx _ => qam (sz := 7) rfl rfl (hx.c _ _ hg) (Ab rfl) ⟨rfl, rfl⟩) ?_)
  refine cW rfl rfl rfl (qaN (iv64 [a.client, a.node, a.group]) rfl rfl rfl rfl (qbD _) ⟨wfH.ext _, ?_⟩)
  obtain ⟨H2, hQ, g2, x2, _, _⟩ := aq wfH ⟨iv64 [a.client, a.node, a.group], 3, true⟩
  rw [hQ]
  have t2 := t.ext (xh.trans x2)
  have cN2 := rNx_c (kword a.kind) (.slice (some ⟨H.next, 0, some 1⟩) 3 3) [a.client, a.node, a.group] (H := H2) (bK g2 rfl) (by intro n hn; simp only [Ak, As, or_false] at hn; rcases hn with rfl | rfl | rfl <;> exact ⟨by omega, by omega⟩) (by simp only [Ad, Ag]; omega) t2
  have cA := fun (h' : Heap) (hx : Ext H2 h') => rAsk_c p.q a.ask h' (ra.ext (x2.trans hx)) hma (t2.ext hx)
  generalize tailW ([a.client, a.node, a.group].map itoa) = T1 at htl hml cN2 ⊢
  repeat (first | refine tr rfl rfl (fun _ hx _ => qah rfl ⟨rfl, rfl⟩) ?_ | refine tr rfl rfl (fun h' hx _ => qab rfl rfl (cN2 h' hx) ⟨rfl, rfl⟩) ?_ | refine tr rfl rfl (fun h' hx _ => qab rfl rfl (cA h' hx) ⟨rfl, rfl⟩) ?_ | refine tr rfl rfl (fun _ hx _ => qbZ (b := [32]) rfl rfl (by simp only [maxLen, An, Ad, Ag]; omega) ⟨rfl, rfl⟩) ?_ | refine tr rfl rfl (fun _ hx _ => qbZ rfl rfl (by simp only [maxLen, An, Ad, Ag]; omega) ⟨rfl, rfl⟩) ?_)
  refine bD ?_
  repeat (first | refine aM ?_)
  exact ⟨_, aC rfl, rfl, xh.trans x2, congrArg str hml.symm, rfl⟩
 by_cases k5 : a.kind = 11
 ·
  have he : restW a = [itoa a.client, itoa a.node, itoa a.group] := by unfold restW; rw [Ac k1, Ac k2, Ac k3, Ac k4, Ah k5]
  have hc := hp11 (.inr k5)
  repeat (first | refine W.w ?_ | refine aE rfl ?_ | refine aG rfl ?_ | (refine zz rfl ?_; first | refine qaj rfl ?_ | refine qaa rfl ?_ | refine qah rfl ?_ | refine qan rfl ?_ | refine qaf rfl rfl hg rfl ?_ | refine qab rfl rfl cn ?_ | refine qak rfl rfl rfl (by omega) ?_ | refine qai rfl rfl rfl (by omega) ?_ | refine qaN (iv64 [a.client, a.node, a.group]) rfl rfl rfl rfl (qbD _) ?_))
  have gr := aB H ⟨iv64 [a.client, a.node, a.group], 3, true⟩
  have xr := wfH.ext ⟨iv64 [a.client, a.node, a.group], 3, true⟩
  have wr := wfH.alloc ⟨iv64 [a.client, a.node, a.group], 3, true⟩
  refine aS (h := H.alloc ⟨iv64 [a.client, a.node, a.group], 3, true⟩) rfl ?_
  generalize H.alloc ⟨iv64 [a.client, a.node, a.group], 3, true⟩ = H1 at gr xr wr ⊢
  have cN := N_c (kword a.kind) (.slice (some ⟨H.next, 0, some 1⟩) 3 3) [a.client, a.node, a.group] H1 (bK gr rfl) (by intro n hn; simp only [Ak, As, or_false] at hn; rcases hn with rfl | rfl | rfl <;> exact ⟨by omega, by omega⟩) (by simp only [Ad, Ag]; omega) (t.ext (xh.trans xr))
  repeat (first | refine W.w ?_ | refine zz rfl (qah rfl ?_) | refine zz rfl (qab rfl rfl cN ?_))
  refine ⟨_, aC rfl, rfl, xh.trans xr, ?_, rfl⟩
  unfold lineM
  rw [he, qaQ]
  rfl
 by_cases k6 : a.kind = 12
 ·
  have he : restW a = itoa a.node :: keepW a.keep := by unfold restW; rw [Ac k1, Ac k2, Ac k3, Ac k4, Ac k5, Ah k6]
  have hko : keepOk a.keep = true ∧ a.keep.length ≤ 128 := by
   unfold kp at hkp
   simpa [Bool.and_eq_true] using hkp
  have r1 := rk.rn
  have hml : (a.keep.map keptR).length = a.keep.length := Ap _
  obtain ⟨va, vc, hvk⟩ := r1.slice
  repeat (first | refine W.w ?_ | refine aE rfl ?_ | refine aG rfl ?_ | (refine zz rfl ?_; first | refine qaj rfl ?_ | refine qaa rfl ?_ | refine qah rfl ?_ | refine qan rfl ?_ | refine qaf rfl rfl hg rfl ?_ | refine qab rfl rfl cn ?_ | refine qak rfl rfl rfl (by omega) ?_ | refine qai rfl rfl rfl (by omega) ?_ | refine qaN (iv64 [a.node]) rfl rfl rfl rfl (qbD _) ?_))
  have gr := aB H ⟨iv64 [a.node], 3, true⟩
  have xr := wfH.ext ⟨iv64 [a.node], 3, true⟩
  have wr := wfH.alloc ⟨iv64 [a.node], 3, true⟩
  refine aS (h := H.alloc ⟨iv64 [a.node], 3, true⟩) rfl ?_
  generalize H.alloc ⟨iv64 [a.node], 3, true⟩ = H1 at gr xr wr ⊢
  have cN := N_c (kword a.kind) (.slice (some ⟨H.next, 0, some 1⟩) 1 1) [a.node] H1 (bK gr rfl) (by intro n hn; simp only [Ak, As, or_false] at hn; rcases hn with rfl <;> exact ⟨by omega, by omega⟩) (by simp only [Ad, Ag]; omega) (t.ext (xh.trans xr))
  repeat (first | refine W.w ?_ | (refine zz rfl ?_; first | refine qad rfl ?_ | refine qah rfl ?_ | refine qab rfl rfl cN ?_))
  have hnl := qbm (n := a.node) (by omega) (by omega)
  refine bB (α := Nat × Heap) (fun d => [(1, ptr h.next), (3, str (kword a.kind ++ tailW (itoa a.node :: keepW (a.keep.take d.1)))), (4, .int .i64 (d.1 : Nat))]) (fun d => d.2) (fun d => d.1 ≤ a.keep.length ∧ Ext H d.2 ∧ WF d.2) (fun d => a.keep.length - d.1) (0, H1) ⟨Ao _, xr, wr⟩
   (aI (aA rfl (aA rfl (aA rfl aN)))) ?_
  rintro ⟨k, H2⟩ ⟨hk2, x2, wf2⟩
  replace hk2 : k ≤ a.keep.length := hk2
  replace x2 : Ext H H2 := x2
  replace wf2 : WF H2 := wf2
  show AWp _ _ _ _ [(1, ptr h.next), (3, str (kword a.kind ++ tailW (itoa a.node :: keepW (a.keep.take k)))), (4, .int .i64 (k : Nat))] H2
  have hg2 := x2.c _ _ hg
  by_cases hlt : k < a.keep.length
  ·
   obtain ⟨x, hxa⟩ := gX (l := a.keep) (k := k) hlt
   have hx2 : (a.keep.map keptR)[((k : Nat) : Int).toNat]? = some (keptR x) := by simp [hxa]
   have px := (r1.ext x2).elt hx2
   obtain ⟨hn1, hn2, hn3⟩ := qbW hko.1 x (Aw hxa)
   have hnl2 := qdV hn1
   have hkw : keepW (a.keep.take (k + 1)) = keepW (a.keep.take k) ++ [x.1, itoa x.2] := qc6 hxa
   have hsl : (kword a.kind ++ tailW (itoa a.node :: keepW (a.keep.take k))).length ≤ 100000 := by
    rw [← qaQ]
    have := qbF 100 (kword a.kind :: itoa a.node :: keepW (a.keep.take k)) (by
     intro w hw
     rcases Ak.1 hw with rfl | hw
     ·
      omega
     rcases Ak.1 hw with rfl | hw
     ·
      omega
     obtain ⟨y, hy, hw⟩ := List.mem_flatMap.1 hw
     obtain ⟨m1, m2, m3⟩ := qbW hko.1 y (Cg hy)
     have := qdV m1
     have := qbm (n := y.2) (by omega) (by omega)
     simp only [Ak, As, or_false] at hw
     rcases hw with rfl | rfl <;> omega)
    have hl2 : (keepW (a.keep.take k)).length ≤ 2 * 128 := by
     have hh : ∀ l : List (Bytes × Int), (keepW l).length = 2 * l.length := by
      intro l
      induction l with
      | nil => rfl
      | cons y l ih => unfold keepW at ih ⊢; rw [Cn, An, ih]; simp; omega
     rw [hh, Bb]
     omega
    simp only [Ad] at this
    have := Bo (100 + 1) (show (keepW (a.keep.take k)).length + 1 + 1 ≤ 258 by omega)
    omega
   have hstep : kword a.kind ++ tailW (itoa a.node :: keepW (a.keep.take (k + 1))) = kword a.kind ++ tailW (itoa a.node :: keepW (a.keep.take k)) ++ [32] ++ x.1 ++ tailW ([x.2].map itoa) := by
    rw [hkw]
    simp [tailW]
   generalize kword a.kind ++ tailW (itoa a.node :: keepW (a.keep.take k)) = S0 at hsl hstep ⊢
   repeat (first | refine W.w ?_ | refine aE rfl ?_ | (refine zz rfl ?_; first | refine qac rfl ?_ | refine qan rfl ?_ | refine qaf rfl rfl hg2 rfl ?_ | refine qaA (r1.ext x2) rfl ?_ | refine qak rfl rfl rfl (by omega) ?_))
   refine cD (t := OT.seq [(0, .R), (1, .R), (2, .R), (3, .R), (4, .R), (5, .R), (6, .R), (7, .R), (8, .R), (9, .R), (10, .R), (11, .R), (12, .R), (13, .R), (14, .R), (15, .X), (16, .R), (17, .R)] .nil) mixed (by kernel_rfl) ?_
   repeat (first | refine tr rfl rfl (fun _ hx _ => qac rfl ⟨rfl, rfl⟩) ?_ | refine tr rfl rfl (fun _ hx _ => qaj rfl ⟨rfl, rfl⟩) ?_ | refine tr rfl rfl (fun _ hx _ => qan rfl ⟨rfl, rfl⟩) ?_ | refine tr rfl rfl (fun _ hx _ => qaf rfl rfl (hx.c _ _ hg2) rfl ⟨rfl, rfl⟩) ?_ | refine tr rfl rfl (fun _ hx _ => qaD ((r1.ext x2).ext hx) rfl rfl (by omega) hx2 ⟨rfl, rfl⟩) ?_ | refine tr rfl rfl (fun _ hx _ => qdw (px.ext hx) rfl ⟨rfl, rfl⟩) ?_ | refine tr rfl rfl (fun _ hx _ => qbM (px.ext hx) rfl rfl rfl ⟨rfl, rfl⟩) ?_ | refine tr rfl rfl (fun _ hx _ => qbZ (b := [32]) rfl rfl (by simp only [maxLen, An, Ad, Ag]; omega) ⟨rfl, rfl⟩) ?_ | refine tr rfl rfl (fun _ hx _ => qbZ (b := x.1) rfl rfl (by simp only [maxLen, An, Ad, Ag]; omega) ⟨rfl, rfl⟩) ?_)
   refine cW rfl rfl rfl (qaN (iv64 [x.2]) rfl rfl rfl rfl (qbD _) ⟨wf2.ext _, ?_⟩)
   obtain ⟨H3, hQ, g3, x3, w3, _⟩ := aq wf2 ⟨iv64 [x.2], 3, true⟩
   rw [hQ]
   have cN2 := rNx_c (S0 ++ [32] ++ x.1) (.slice (some ⟨H2.next, 0, some 1⟩) 1 1) [x.2] (H := H3) (bK g3 rfl) (by intro n hn; rw [Ax.1 hn]; exact ⟨by omega, by omega⟩) (by simp only [An, Ad, Ag]; omega) (t.ext (xh.trans (x2.trans x3)))
   repeat (first | refine tr rfl rfl (fun _ hx _ => qah rfl ⟨rfl, rfl⟩) ?_ | refine tr rfl rfl (fun h' hx _ => qab rfl rfl (cN2 h' hx) ⟨rfl, rfl⟩) ?_)
   refine bD ?_
   repeat (first | refine W.w ?_ | (refine zz rfl ?_; first | refine qac rfl ?_ | refine qad rfl ?_ | refine qau rfl rfl (by omega) ?_))
   exact ⟨(k + 1, H3), ⟨hlt, x2.trans x3, w3⟩, by show a.keep.length - (k + 1) < a.keep.length - k; omega, aI (aA rfl (aA (congrArg str hstep.symm) (aA rfl aN)))⟩
  ·
   obtain rfl : k = a.keep.length := by omega
   rw [Au]
   repeat (first | refine aW ?_ | refine aR ?_ | refine aY ?_ | refine aG rfl ?_ | refine aM ?_ | refine aP ?_ | (refine zz rfl ?_; first | refine qac rfl ?_ | refine qaj rfl ?_ | refine qah rfl ?_ | refine qan rfl ?_ | refine qaf rfl rfl hg2 rfl ?_ | refine qaA (r1.ext x2) rfl ?_ | refine qai rfl rfl rfl (by omega) ?_))
   refine ⟨_, aC rfl, rfl, xh.trans x2, ?_, rfl⟩
   unfold lineM
   rw [he, qaQ]
   rfl
 ·
  have he : restW a = [itoa a.node, itoa a.group] := by unfold restW; rw [Ac k1, Ac k2, Ac k3, Ac k4, Ac k5, Ac k6]
  repeat (first | refine W.w ?_ | refine aG rfl ?_ | (refine zz rfl ?_; first | refine qaj rfl ?_ | refine qaa rfl ?_ | refine qah rfl ?_ | refine qan rfl ?_ | refine qaf rfl rfl hg rfl ?_ | refine qab rfl rfl cn ?_ | refine qai rfl rfl rfl (by omega) ?_ | refine qaN (iv64 [a.node, a.group]) rfl rfl rfl rfl (qbD _) ?_))
  have gr := aB H ⟨iv64 [a.node, a.group], 3, true⟩
  have xr := wfH.ext ⟨iv64 [a.node, a.group], 3, true⟩
  have wr := wfH.alloc ⟨iv64 [a.node, a.group], 3, true⟩
  refine aS (h := H.alloc ⟨iv64 [a.node, a.group], 3, true⟩) rfl ?_
  generalize H.alloc ⟨iv64 [a.node, a.group], 3, true⟩ = H1 at gr xr wr ⊢
  have cN := N_c (kword a.kind) (.slice (some ⟨H.next, 0, some 1⟩) 2 2) [a.node, a.group] H1 (bK gr rfl) (by intro n hn; simp only [Ak, As, or_false] at hn; rcases hn with rfl | rfl <;> exact ⟨by omega, by omega⟩) (by simp only [Ad, Ag]; omega) (t.ext (xh.trans xr))
  repeat (first | refine W.w ?_ | refine zz rfl (qah rfl ?_) | refine zz rfl (qab rfl rfl cN ?_))
  refine ⟨_, aC rfl, rfl, xh.trans xr, ?_, rfl⟩
  unfold lineM
  rw [he, qaQ]
  rfl
end Go.Proofs.YtigmojilaadbhaaGreatDoor
/- . -/
namespace Go.Pln
open Go Go.Lib
def ordB : Bytes → Bytes → Int
 | [], [] => 0
 | [], _ :: _ => -1
 | _ :: _, [] => 1
 | a :: x, b :: y => if a < b then -1 else if b < a then 1 else ordB x y
theorem qfW : ∀ a b : Bytes, Op.bytesLess a b = decide (ordB a b < 0)
 | [], [] => rfl
 | [], _ :: _ => rfl
 | _ :: _, [] => rfl
 | a :: x, b :: y => by
  rw [Op.bytesLess, ordB]
  by_cases h1 : a < b
  ·
   rw [Ah h1, Al h1]; rfl
  ·
   rw [Ac h1, Af h1]
   by_cases h2 : b < a
   ·
    rw [Ah h2]
    have : (a == b) = false := beq_eq_false_iff_ne.2 fun e => by subst e; exact h1 h2
    rw [this]; rfl
   ·
    rw [Ac h2]
    have : a = b := UInt8.toNat_inj.1 (by have e1 : ¬ a.toNat < b.toNat := h1; have e2 : ¬ b.toNat < a.toNat := h2; omega)
    rw [beq_iff_eq.2 this, Do, Cp]
    exact qfW x y
def cmpF (a b : Bytes) : Int := match (List.range (min a.length b.length)).find? fun i => a[i]! != b[i]! with
 | some i => if a[i]! < b[i]! then -1 else 1
 | none => if a.length < b.length then -1 else if a.length > b.length then 1 else 0
theorem cmpF_cons (a b : UInt8) (x y : Bytes) : cmpF (a :: x) (b :: y) = if a < b then -1 else if b < a then 1 else cmpF x y := by
 unfold cmpF
 have e : min (a :: x).length (b :: y).length = min x.length y.length + 1 := by simp only [Ad]; omega
 rw [e, List.range_succ_eq_map, List.find?_cons]
 by_cases hab : a = b
 ·
  subst hab
  have h0 : ((a :: x)[0]! != (a :: y)[0]!) = false := by simp
  rw [h0]
  simp only
  rw [List.find?_map, Ac (UInt8.lt_irrefl a), Ac (UInt8.lt_irrefl a)]
  have hp : ((fun i => (a :: x)[i]! != (a :: y)[i]!) ∘ Nat.succ) = fun i => x[i]! != y[i]! := by
   funext i
   simp
  rw [hp]
  cases (List.range (min x.length y.length)).find? (fun i => x[i]! != y[i]!) with
  | none => simp
  | some i => simp
 ·
  have h0 : ((a :: x)[0]! != (b :: y)[0]!) = true := by simpa using hab
  rw [h0]
  simp only [List.getElem!_cons_zero]
  by_cases h1 : a < b
  ·
   rw [Ah h1, Ah h1]
  ·
   rw [Ac h1, Ac h1]
   have h2 : b < a := by
    have e1 : ¬ a.toNat < b.toNat := h1
    have e2 : a.toNat ≠ b.toNat := fun e => hab (UInt8.toNat_inj.1 e)
    show b.toNat < a.toNat
    omega
   rw [Ah h2]
theorem cmpF_eq : ∀ a b : Bytes, cmpF a b = ordB a b
 | [], [] => rfl
 | [], b :: y => by simp [cmpF, ordB]
 | a :: x, [] => by simp [cmpF, ordB]
 | a :: x, b :: y => by rw [cmpF_cons, ordB, cmpF_eq x y]
theorem bget (a : Bytes) (i : Nat) : (ByteArray.mk a.toArray)[i]! = a[i]! := by
 rw [getElem!_def, getElem!_def]
 have : (ByteArray.mk a.toArray)[i]? = a[i]? := by
  by_cases h : i < a.length
  ·
   rw [At h, getElem?_pos (ByteArray.mk a.toArray) i h]
   rfl
  ·
   rw [Cc (by omega), getElem?_neg (ByteArray.mk a.toArray) i h]
 rw [this]
theorem cmp_eq (a b : Bytes) : Extern.BytealgCompare.cmp ⟨a.toArray⟩ ⟨b.toArray⟩ = ordB a b := by
 rw [← cmpF_eq]
 unfold Extern.BytealgCompare.cmp cmpF
 simp only [bget]
 rfl
theorem ordB_nil (a b : Bytes) (k : Nat) (h : a.take k = b.take k) (ha : a.length ≤ k ∨ b.length ≤ k) : ordB a b = if a.length < b.length then -1 else if b.length < a.length then 1 else 0 := by
 induction k generalizing a b with
 | zero =>
  cases a with
  | nil => cases b <;> simp [ordB]
  | cons x a =>
   cases b with
   | nil => simp [ordB]
   | cons y b => simp at ha
 | succ k ih =>
  cases a with
  | nil => cases b <;> simp [ordB]
  | cons x a =>
   cases b with
   | nil => simp [ordB]
   | cons y b =>
    simp only [Dg, List.cons.injEq] at h
    obtain ⟨rfl, h⟩ := h
    rw [ordB, Ac (UInt8.lt_irrefl x), Ac (UInt8.lt_irrefl x), ih a b h (by simp only [Ad] at ha; omega)]
    simp
theorem ordB_at {a b : Bytes} {k : Nat} {x y : UInt8} (h : a.take k = b.take k) (hx : a[k]? = some x) (hy : b[k]? = some y) (hn : x ≠ y) : ordB a b = if x < y then -1 else 1 := by
 induction k generalizing a b with
 | zero =>
  cases a with
  | nil => simp at hx
  | cons u a =>
   cases b with
   | nil => simp at hy
   | cons v b =>
    simp only [Ee, Option.some.injEq] at hx hy
    subst hx hy
    rw [ordB]
    by_cases h1 : u < v
    ·
     rw [Ah h1, Ah h1]
    ·
     rw [Ac h1, Ac h1]
     have h2 : v < u := by
      have e1 : ¬ u.toNat < v.toNat := h1
      have e2 : u.toNat ≠ v.toNat := fun e => hn (UInt8.toNat_inj.1 e)
      show v.toNat < u.toNat
      omega
     rw [Ah h2]
 | succ k ih =>
  cases a with
  | nil => simp at hx
  | cons u a =>
   cases b with
   | nil => simp at hy
   | cons v b =>
    simp only [Dg, List.cons.injEq] at h
    obtain ⟨rfl, h⟩ := h
    simp only [Di] at hx hy
    rw [ordB, Ac (UInt8.lt_irrefl u), Ac (UInt8.lt_irrefl u), ih h hx hy]
end Go.Pln
/- . -/
namespace Go.Proofs.YtigmojilaadbhaaGreatDoor
open Go Go.Eng Go.Pln Go.Lib Go.Proofs.Tryz
attribute [local irreducible] AWp AL DAL AOp TAL
instance i_rmayName : FnC prog 157 := ⟨Tryz.f157, func157, by kernel_rfl, by kernel_rfl⟩
instance i_rkey : FnC prog 156 := ⟨Tryz.f156, func156, by kernel_rfl, by kernel_rfl⟩
instance i_rgroupN : FnC prog 176 := ⟨Tryz.f176, func176, by kernel_rfl, by kernel_rfl⟩
instance i_rckeys : FnC prog 207 := ⟨Tryz.f207, func207, by kernel_rfl, by kernel_rfl⟩
instance i_rcmp : FnC prog 196 := ⟨Tryz.f196, func196, by kernel_rfl, by kernel_rfl⟩
instance i_rimay : FnC prog 195 := ⟨Tryz.f195, func195, by kernel_rfl, by kernel_rfl⟩
theorem rmayName_c (s : Bytes) (h : Heap) : ACalls prog 157 [str s] h fun u h' => u = .bool (nameOk s) ∧ h' = h := by
 refine aD func157 rfl rfl ?_
 by_cases hs : 1 ≤ s.length ∧ s.length ≤ 32
 ·
  repeat (first | refine W.w ?_ | (refine zz rfl ?_; first | refine qae rfl ?_ | refine qaj rfl ?_ | refine qad rfl ?_ | refine qaa rfl ?_ | refine qaG rfl ?_ | refine qak rfl rfl rfl (by omega) ?_ | refine qag (v := .bool _) rfl rfl ?_))
  refine bB (α := Nat) (fun k => [(0, str s), (3, .bool ((s.take k).all nameC)), (4, .int .i64 (k : Nat))]) (fun _ => h) (fun k => k ≤ s.length) (fun k => s.length - k) 0 (Ao _) (aI (aA rfl (aA rfl (aA rfl aN)))) ?_
  intro k hk
  replace hk : k ≤ s.length := hk
  by_cases hlt : k < s.length
  ·
   obtain ⟨b, hb⟩ := gX (l := s) (k := k) hlt
   have hbb : (bstr s)[((k : Nat) : Int).toNat]? = some b := (qcv s k).trans hb
   have hst := qc5 (p := nameC) hb
   have hn : nameC b = decide (33 ≤ b.toNat ∧ b.toNat ≤ 126) := rfl
   generalize hga : (s.take k).all nameC = ga at hst ⊢
   cases ga with
   | false =>
    rw [Bool.false_and] at hst
    repeat (first | refine W.w ?_ | refine aK rfl rfl ?_ | refine aE rfl ?_ | (refine zz rfl ?_; first | refine qac rfl ?_ | refine qae rfl ?_ | refine qaj rfl ?_ | refine qad rfl ?_ | refine qaa rfl ?_ | refine qaG rfl ?_ | refine qak rfl rfl rfl (by omega) ?_ | refine qag (v := .bool _) rfl rfl ?_ | refine qau rfl rfl (by omega) ?_))
    exact ⟨k + 1, hlt, by omega, aI (aA rfl (aA (congrArg Value.bool hst.symm) (aA rfl aN)))⟩
   | true =>
    rw [Cp] at hst
    by_cases q1 : 33 ≤ b.toNat
    ·
     by_cases q2 : b.toNat ≤ 126
     ·
      rw [hn, Al ⟨q1, q2⟩] at hst
      repeat (first | refine W.w ?_ | refine aE rfl ?_ | (refine zz rfl ?_; first | refine qac rfl ?_ | refine qae rfl ?_ | refine qaj rfl ?_ | refine qad rfl ?_ | refine qaa rfl ?_ | refine qaG rfl ?_ | refine qak rfl rfl rfl (by omega) ?_ | refine qag (v := .bool _) rfl rfl ?_ | refine qaK rfl rfl (by omega) hbb ?_ | refine qau rfl rfl (by omega) ?_))
      exact ⟨k + 1, hlt, by omega, aI (aA rfl (aA (congrArg Value.bool hst.symm) (aA rfl aN)))⟩
     ·
      rw [hn, Af (by omega)] at hst
      repeat (first | refine W.w ?_ | refine aE rfl ?_ | (refine zz rfl ?_; first | refine qac rfl ?_ | refine qae rfl ?_ | refine qaj rfl ?_ | refine qad rfl ?_ | refine qaa rfl ?_ | refine qaG rfl ?_ | refine qak rfl rfl rfl (by omega) ?_ | refine qai rfl rfl rfl (by omega) ?_ | refine qag (v := .bool _) rfl rfl ?_ | refine qaK rfl rfl (by omega) hbb ?_ | refine qau rfl rfl (by omega) ?_))
      exact ⟨k + 1, hlt, by omega, aI (aA rfl (aA (congrArg Value.bool hst.symm) (aA rfl aN)))⟩
    ·
     rw [hn, Af (by omega)] at hst
     repeat (first | refine W.w ?_ | refine aK rfl rfl ?_ | refine aE rfl ?_ | (refine zz rfl ?_; first | refine qac rfl ?_ | refine qae rfl ?_ | refine qaj rfl ?_ | refine qad rfl ?_ | refine qaa rfl ?_ | refine qaG rfl ?_ | refine qak rfl rfl rfl (by omega) ?_ | refine qai rfl rfl rfl (by omega) ?_ | refine qag (v := .bool _) rfl rfl ?_ | refine qaK rfl rfl (by omega) hbb ?_ | refine qau rfl rfl (by omega) ?_))
     exact ⟨k + 1, hlt, by omega, aI (aA rfl (aA (congrArg Value.bool hst.symm) (aA rfl aN)))⟩
  ·
   obtain rfl : k = s.length := by omega
   rw [Au]
   repeat (first | refine aW ?_ | refine aK rfl rfl ?_ | refine aR ?_ | refine aY ?_ | refine aG rfl ?_ | refine aM ?_ | refine aP ?_ | (refine zz rfl ?_; first | refine qac rfl ?_ | refine qae rfl ?_ | refine qaj rfl ?_ | refine qaa rfl ?_ | refine qaG rfl ?_ | refine qai rfl rfl rfl (by omega) ?_ | refine qag (v := .bool _) rfl rfl ?_))
   refine ⟨_, aC rfl, ?_, rfl⟩
   unfold nameOk
   rw [Al hs]
   rfl
 ·
  have hn : nameOk s = false := by unfold nameOk; rw [Af hs]; rfl
  rw [hn]
  repeat' (first | refine W.w ?_ | refine aK rfl rfl ?_ | (refine zz rfl ?_; first | refine qae rfl ?_ | refine qaj rfl ?_ | refine qad rfl ?_ | refine qaa rfl ?_ | refine qaG rfl ?_ | refine qag (v := .bool _) rfl rfl ?_ | refine qai rfl rfl rfl (by omega) ?_ | refine qaT rfl rfl rfl (fun c => ?_) (fun c => ?_)))
  all_goals (
   refine bB (α := Nat) (fun k => [(0, str s), (3, .bool false), (4, .int .i64 (k : Nat))]) (fun _ => h) (fun k => k ≤ s.length ∧ k ≤ 33) (fun k => s.length - k) 0 ⟨Ao _, Ao _⟩ (aI (aA (by first | rfl | (exfalso; omega)) (aA (by first | rfl | (exfalso; omega)) (aA rfl aN)))) ?_
   rintro k ⟨hk, hk2⟩
   by_cases hlt : k < s.length ∧ k ≤ 32
   ·
    repeat (first | refine W.w ?_ | refine aK rfl rfl ?_ | refine aE rfl ?_ | (refine zz rfl ?_; first | refine qac rfl ?_ | refine qae rfl ?_ | refine qaj rfl ?_ | refine qad rfl ?_ | refine qaa rfl ?_ | refine qaG rfl ?_ | refine qak rfl rfl rfl (by omega) ?_ | refine qag (v := .bool _) rfl rfl ?_ | refine qau rfl rfl (by omega) ?_))
    first | (exfalso; omega) | exact ⟨k + 1, ⟨by omega, by omega⟩, by omega, aI (aA rfl (aA rfl (aA rfl aN)))⟩
   ·
    by_cases hl : k < s.length
    ·
     repeat (first | refine aW ?_ | refine aK rfl rfl ?_ | refine aR ?_ | refine aY ?_ | refine aE rfl ?_ | refine aG rfl ?_ | refine aM ?_ | refine aP ?_ | refine AWp.b9 ?_ | refine dD ?_ | (refine zz rfl ?_; first | refine qac rfl ?_ | refine qae rfl ?_ | refine qaj rfl ?_ | refine qad rfl ?_ | refine qaa rfl ?_ | refine qaG rfl ?_ | refine qak rfl rfl rfl (by omega) ?_ | refine qai rfl rfl rfl (by omega) ?_ | refine qag (v := .bool _) rfl rfl ?_ | refine qau rfl rfl (by omega) ?_))
     first | (exfalso; omega) | exact ⟨_, aC rfl, rfl, rfl⟩
    ·
     repeat (first | refine aW ?_ | refine aK rfl rfl ?_ | refine aR ?_ | refine aY ?_ | refine aG rfl ?_ | refine aM ?_ | refine aP ?_ | (refine zz rfl ?_; first | refine qac rfl ?_ | refine qae rfl ?_ | refine qaj rfl ?_ | refine qaa rfl ?_ | refine qaG rfl ?_ | refine qai rfl rfl rfl (by omega) ?_ | refine qag (v := .bool _) rfl rfl ?_))
     first | (exfalso; omega) | exact ⟨_, aC rfl, rfl, rfl⟩)
theorem rkey_c (v : Value) (b : Bytes) (h : Heap) (r : RB h v b) : ACalls prog 156 [v] h fun u h' => u = .bool (keyOk b) ∧ h' = h := by
 refine aD func156 rfl rfl ?_
 obtain ⟨va, vc, hv⟩ := bC r
 repeat' (first | refine W.w ?_ | refine aK rfl rfl ?_ | (refine zz rfl ?_; first | refine qae rfl ?_ | refine qaa rfl ?_ | refine qal (v := v) rfl ?_ | refine qaJ r rfl ?_ | refine qag (v := .bool _) rfl rfl ?_ | refine qaT rfl rfl rfl (fun c => ?_) (fun c => ?_)))
 all_goals refine ⟨_, aC rfl, congrArg Value.bool ?_, rfl⟩
 all_goals grind [keyOk]
theorem qgP (n : Int) (h : Heap) : ACalls prog 176 [.int .i64 n] h fun u h' => u = .bool (decide (1 ≤ n ∧ n < 5)) ∧ h' = h := by
 refine aD func176 rfl rfl ?_
 repeat' (first | refine W.w ?_ | refine aK rfl rfl ?_ | (refine zz rfl ?_; first | refine qac rfl ?_ | refine qae rfl ?_ | refine qaa rfl ?_ | refine qag (v := .bool _) rfl rfl ?_ | refine qaT rfl rfl rfl (fun c => ?_) (fun c => ?_)))
 all_goals refine ⟨_, aC rfl, congrArg Value.bool ?_, rfl⟩
 all_goals grind
theorem cmpI_L (a b : Bytes) : cmpI a b = ordB a b := Pln.cmp_eq a b
theorem rckeys_c (u v : Value) (a b : Bytes) (h : Heap) (ra : RB h u a) (rb : RB h v b) (hla : a.length ≤ 140737488351232) (_hlb : b.length ≤ 140737488351232) : ACalls prog 207 [u, v] h fun x h' => x = .int .i64 (cmpI a b) ∧ h' = h := by
 refine aD func207 rfl rfl ?_
 rw [cmpI_L]
 obtain ⟨ua, uc, hu⟩ := bC ra
 obtain ⟨va, vc, hv⟩ := bC rb
 repeat (first | refine W.w ?_ | refine zz rfl (qad rfl ?_))
 refine bB (α := Nat) (fun k => [(0, u), (1, v), (5, .int .i64 (k : Nat))]) (fun _ => h) (fun k => k ≤ a.length ∧ a.take k = b.take k) (fun k => a.length - k) 0 ⟨Ao _, rfl⟩ (aI (aA rfl (aA rfl (aA rfl aN)))) ?_
 rintro k ⟨hk, hp⟩
 have hp1 := congrArg List.length hp
 rw [Bb, Bb] at hp1
 by_cases hlt : k < a.length ∧ k < b.length
 ·
  obtain ⟨x, hxa⟩ : ∃ x, a[k]? = some x := ⟨_, At hlt.1⟩
  obtain ⟨y, hyb⟩ : ∃ y, b[k]? = some y := ⟨_, At hlt.2⟩
  have hte := qeJ hp hxa hyb
  have hat := fun hne => ordB_at hp hxa hyb hne
  repeat (first | refine W.w ?_ | refine aE rfl ?_ | (refine zz rfl ?_; first | refine qac rfl ?_ | refine qae rfl ?_ | refine qal (v := u) rfl ?_ | refine qal (v := v) rfl ?_ | refine qaJ ra rfl ?_ | refine qaJ rb rfl ?_ | refine qak rfl rfl rfl (by omega) ?_ | refine qag (v := .bool _) rfl rfl ?_))
  by_cases q1 : x.toNat < y.toNat
  ·
   refine bJ (σ := [(0, .R), (1, .R), (2, .R), (3, .R), (4, .R), (5, .R), (6, .R), (7, .R), (8, .R)]) mixed (by kernel_rfl) ?_
   repeat (first | refine dr rfl rfl (fun _ hx _ => qac rfl ⟨rfl, rfl⟩) ?_ | refine dr rfl rfl (fun _ hx _ => qal (v := u) rfl ⟨rfl, rfl⟩) ?_ | refine dr rfl rfl (fun _ hx _ => qal (v := v) rfl ⟨rfl, rfl⟩) ?_ | refine dr rfl rfl (fun _ hx _ => qar (bL (ra.ext hx) (qb4 hxa rfl)) rfl rfl ⟨rfl, rfl⟩) ?_ | refine dr rfl rfl (fun _ hx _ => qar (bL (rb.ext hx) (qb4 hyb rfl)) rfl rfl ⟨rfl, rfl⟩) ?_ | refine dr rfl rfl (fun _ hx _ => qas (ra.ext hx) rfl rfl (by omega) (qb4 hxa rfl) fun _ => ⟨rfl, rfl⟩) ?_ | refine dr rfl rfl (fun _ hx _ => qas (rb.ext hx) rfl rfl (by omega) (qb4 hyb rfl) fun _ => ⟨rfl, rfl⟩) ?_ | refine dr rfl rfl (fun _ hx _ => qak rfl rfl rfl (by omega) ⟨rfl, rfl⟩) ?_)
   refine aX ?_
   repeat (first | refine W.w ?_ | refine aE rfl ?_ | refine zz rfl (qad rfl ?_))
   refine ⟨_, aC rfl, congrArg (Value.int .i64) ?_, rfl⟩
   rw [hat (fun e => by rw [e] at q1; omega), Ah (show x < y from q1)]
  ·
   by_cases q2 : y.toNat < x.toNat
   ·
    refine bJ (σ := [(0, .R), (1, .R), (2, .R), (3, .R), (4, .R), (5, .R), (6, .R), (7, .R), (8, .R)]) mixed (by kernel_rfl) ?_
    repeat (first | refine dr rfl rfl (fun _ hx _ => qac rfl ⟨rfl, rfl⟩) ?_ | refine dr rfl rfl (fun _ hx _ => qal (v := u) rfl ⟨rfl, rfl⟩) ?_ | refine dr rfl rfl (fun _ hx _ => qal (v := v) rfl ⟨rfl, rfl⟩) ?_ | refine dr rfl rfl (fun _ hx _ => qar (bL (ra.ext hx) (qb4 hxa rfl)) rfl rfl ⟨rfl, rfl⟩) ?_ | refine dr rfl rfl (fun _ hx _ => qar (bL (rb.ext hx) (qb4 hyb rfl)) rfl rfl ⟨rfl, rfl⟩) ?_ | refine dr rfl rfl (fun _ hx _ => qas (ra.ext hx) rfl rfl (by omega) (qb4 hxa rfl) fun _ => ⟨rfl, rfl⟩) ?_ | refine dr rfl rfl (fun _ hx _ => qas (rb.ext hx) rfl rfl (by omega) (qb4 hyb rfl) fun _ => ⟨rfl, rfl⟩) ?_ | refine dr rfl rfl (fun _ hx _ => qai rfl rfl rfl (by omega) ⟨rfl, rfl⟩) ?_)
    refine aX ?_
    repeat (first | refine W.w ?_ | refine aG rfl ?_)
    refine bJ (σ := [(0, .R), (1, .R), (2, .R), (3, .R), (4, .R), (5, .R), (6, .R), (7, .R), (8, .R)]) mixed (by kernel_rfl) ?_
    repeat (first | refine dr rfl rfl (fun _ hx _ => qac rfl ⟨rfl, rfl⟩) ?_ | refine dr rfl rfl (fun _ hx _ => qal (v := u) rfl ⟨rfl, rfl⟩) ?_ | refine dr rfl rfl (fun _ hx _ => qal (v := v) rfl ⟨rfl, rfl⟩) ?_ | refine dr rfl rfl (fun _ hx _ => qar (bL (ra.ext hx) (qb4 hxa rfl)) rfl rfl ⟨rfl, rfl⟩) ?_ | refine dr rfl rfl (fun _ hx _ => qar (bL (rb.ext hx) (qb4 hyb rfl)) rfl rfl ⟨rfl, rfl⟩) ?_ | refine dr rfl rfl (fun _ hx _ => qas (ra.ext hx) rfl rfl (by omega) (qb4 hxa rfl) fun _ => ⟨rfl, rfl⟩) ?_ | refine dr rfl rfl (fun _ hx _ => qas (rb.ext hx) rfl rfl (by omega) (qb4 hyb rfl) fun _ => ⟨rfl, rfl⟩) ?_ | refine dr rfl rfl (fun _ hx _ => qak rfl rfl rfl (by omega) ⟨rfl, rfl⟩) ?_)
    refine aX ?_
    repeat (first | refine W.w ?_ | refine aE rfl ?_ | refine zz rfl (qad rfl ?_))
    refine ⟨_, aC rfl, congrArg (Value.int .i64) ?_, rfl⟩
    rw [hat (fun e => by rw [e] at q2; omega), Ac (show ¬ x < y from q1)]
   ·
    refine bJ (σ := [(0, .R), (1, .R), (2, .R), (3, .R), (4, .R), (5, .R), (6, .R), (7, .R), (8, .R)]) mixed (by kernel_rfl) ?_
    repeat (first | refine dr rfl rfl (fun _ hx _ => qac rfl ⟨rfl, rfl⟩) ?_ | refine dr rfl rfl (fun _ hx _ => qal (v := u) rfl ⟨rfl, rfl⟩) ?_ | refine dr rfl rfl (fun _ hx _ => qal (v := v) rfl ⟨rfl, rfl⟩) ?_ | refine dr rfl rfl (fun _ hx _ => qar (bL (ra.ext hx) (qb4 hxa rfl)) rfl rfl ⟨rfl, rfl⟩) ?_ | refine dr rfl rfl (fun _ hx _ => qar (bL (rb.ext hx) (qb4 hyb rfl)) rfl rfl ⟨rfl, rfl⟩) ?_ | refine dr rfl rfl (fun _ hx _ => qas (ra.ext hx) rfl rfl (by omega) (qb4 hxa rfl) fun _ => ⟨rfl, rfl⟩) ?_ | refine dr rfl rfl (fun _ hx _ => qas (rb.ext hx) rfl rfl (by omega) (qb4 hyb rfl) fun _ => ⟨rfl, rfl⟩) ?_ | refine dr rfl rfl (fun _ hx _ => qai rfl rfl rfl (by omega) ⟨rfl, rfl⟩) ?_)
    refine aX ?_
    repeat (first | refine W.w ?_ | refine aG rfl ?_)
    refine bJ (σ := [(0, .R), (1, .R), (2, .R), (3, .R), (4, .R), (5, .R), (6, .R), (7, .R), (8, .R)]) mixed (by kernel_rfl) ?_
    repeat (first | refine dr rfl rfl (fun _ hx _ => qac rfl ⟨rfl, rfl⟩) ?_ | refine dr rfl rfl (fun _ hx _ => qal (v := u) rfl ⟨rfl, rfl⟩) ?_ | refine dr rfl rfl (fun _ hx _ => qal (v := v) rfl ⟨rfl, rfl⟩) ?_ | refine dr rfl rfl (fun _ hx _ => qar (bL (ra.ext hx) (qb4 hxa rfl)) rfl rfl ⟨rfl, rfl⟩) ?_ | refine dr rfl rfl (fun _ hx _ => qar (bL (rb.ext hx) (qb4 hyb rfl)) rfl rfl ⟨rfl, rfl⟩) ?_ | refine dr rfl rfl (fun _ hx _ => qas (ra.ext hx) rfl rfl (by omega) (qb4 hxa rfl) fun _ => ⟨rfl, rfl⟩) ?_ | refine dr rfl rfl (fun _ hx _ => qas (rb.ext hx) rfl rfl (by omega) (qb4 hyb rfl) fun _ => ⟨rfl, rfl⟩) ?_ | refine dr rfl rfl (fun _ hx _ => qai rfl rfl rfl (by omega) ⟨rfl, rfl⟩) ?_)
    refine aX ?_
    repeat (first | refine W.w ?_ | refine aG rfl ?_ | (refine zz rfl ?_; first | refine qac rfl ?_ | refine qad rfl ?_ | refine qau rfl rfl (by omega) ?_))
    exact ⟨k + 1, ⟨hlt.1, hte.2 (UInt8.toNat_inj.1 (by omega))⟩, by omega, aI (aA rfl (aA rfl (aA rfl aN)))⟩
 ·
  have hc := ordB_nil a b k hp (by omega)
  rw [hc]
  repeat' (first | refine aW ?_ | refine aK rfl rfl ?_ | refine aR ?_ | refine aY ?_ | refine aE rfl ?_ | refine aG rfl ?_ | refine aM ?_ | refine aP ?_ | refine dD ?_ | (refine zz rfl ?_; first | refine qac rfl ?_ | refine qae rfl ?_ | refine qad rfl ?_ | refine qal (v := u) rfl ?_ | refine qal (v := v) rfl ?_ | refine qaJ ra rfl ?_ | refine qaJ rb rfl ?_ | refine qak rfl rfl rfl (by omega) ?_ | refine qai rfl rfl rfl (by omega) ?_ | refine qag (v := .bool _) rfl rfl ?_ | refine qaT rfl rfl rfl (fun c => ?_) (fun c => ?_)))
  all_goals first | (exfalso; omega) | skip
  all_goals refine ⟨_, aC rfl, congrArg (Value.int .i64) ?_, rfl⟩
  all_goals grind
theorem ricmp_c (k1 v1 k2 v2 : Value) (a b : EntM) (h : Heap) (ra : RB h k1 a.key) (rb : RB h k2 b.key) (hla : a.key.length ≤ 140737488351232) (hlb : b.key.length ≤ 140737488351232) : ACalls prog 196 [.agg (entC k1 v1 a).toArray, .agg (entC k2 v2 b).toArray] h fun u h' => u = .int .i64 (icmpM a b) ∧ h' = h := by
 refine aL fun wf => aO ?_
 refine aD func196 rfl rfl ?_
 repeat (first | refine W.w ?_ | refine zz rfl (qad rfl ?_) | refine zz rfl (qaS rfl (by intro e; cases e) ?_))
 generalize hH : h.alloc _ = H1
 have hg0 : H1.get h.next = some ⟨entC k1 v1 a, 171, true⟩ := hH ▸ aB _ _
 have hx1 : Ext h H1 := hH ▸ wf.ext _
 have wf1 : WF H1 := hH ▸ wf.alloc _
 skip
 generalize hH2 : H1.alloc _ = H
 have hg2 : H.get H1.next = some ⟨entC k2 v2 b, 171, true⟩ := hH2 ▸ aB _ _
 have hx2 : Ext H1 H := hH2 ▸ wf1.ext _
 have hg1 : H.get h.next = some ⟨entC k1 v1 a, 171, true⟩ := hx2.c _ _ hg0
 have hx : Ext h H := hx1.trans hx2
 clear hH hH2
 have cc := rckeys_c k1 k2 a.key b.key H (ra.ext hx) (rb.ext hx) hla hlb
 repeat' (first | refine W.w ?_ | refine aE rfl ?_ | refine aG rfl ?_ | (refine zz rfl ?_; first | refine qac rfl ?_ | refine qad rfl ?_ | refine qan rfl ?_ | refine qaf rfl rfl hg1 rfl ?_ | refine qaf rfl rfl hg2 rfl ?_ | refine qab rfl rfl cc ?_ | refine qaT rfl rfl rfl (fun c => ?_) (fun c => ?_)))
 all_goals refine ⟨_, aC rfl, rfl, hx, congrArg (Value.int .i64) ?_, rfl⟩
 all_goals clear cc hg0 hg1 hg2 hx1 hx2 hx wf wf1 ra rb
 all_goals grind [icmpM, cmp3]
theorem rimay_c (kv vv : Value) (e : EntM) (h : Heap) (r1 : RB h kv e.key) (r2 : RB h vv e.value) : ACalls prog 195 [.agg (entC kv vv e).toArray] h fun u h' => u = .bool (entOk e) ∧ h' = h := by
 refine aL fun wf => aO ?_
 refine aD func195 rfl rfl ?_
 repeat (first | refine W.w ?_ | refine zz rfl (qaa rfl ?_) | refine zz rfl (qaS rfl (by intro e; cases e) ?_))
 generalize hH : h.alloc _ = H
 have hg : H.get h.next = some ⟨entC kv vv e, 171, true⟩ := hH ▸ aB _ _
 have hx : Ext h H := hH ▸ wf.ext _
 have wfH : WF H := hH ▸ wf.alloc _
 clear hH
 have q1 := r1.ext hx
 have q2 := r2.ext hx
 repeat' (first | refine W.w ?_ | refine aK rfl rfl ?_ | refine aE rfl ?_ | refine aG rfl ?_ | (refine zz rfl ?_; first | refine qae rfl ?_ | refine qaa rfl ?_ | refine qan rfl ?_ | refine qaf rfl rfl hg rfl ?_ | refine qaJ q1 rfl ?_ | refine qaJ q2 rfl ?_ | refine qag (v := .bool _) rfl rfl ?_ | refine qai rfl rfl rfl (by omega) ?_ | refine qaT rfl rfl rfl (fun c => ?_) (fun c => ?_)))
 all_goals refine ⟨_, aC rfl, rfl, hx, congrArg Value.bool ?_, rfl⟩
 all_goals clear q1 q2 r1 r2 hg hx wf wfH
 all_goals grind [entOk]
instance i_rrising : FnC prog 175 := ⟨Tryz.f175, func175, by kernel_rfl, by kernel_rfl⟩
instance i_rmayMove : FnC prog 174 := ⟨Tryz.f174, func174, by kernel_rfl, by kernel_rfl⟩
instance i_rmayAsk : FnC prog 122 := ⟨Tryz.f122, func122, by kernel_rfl, by kernel_rfl⟩
instance i_rmayReq : FnC prog 173 := ⟨Tryz.f173, func173, by kernel_rfl, by kernel_rfl⟩
theorem goodAt_iff {l : List EntM} {k : Nat} {e : EntM} (he : l[k]? = some e) : goodAt l k ↔ behindM (l.take k) e = true := ⟨fun g => g e he, fun b x hx => by rw [he] at hx; cases hx; exact b⟩
theorem behind_at {l : List EntM} {k : Nat} {x e : EntM} (hx : l[k]? = some x) : behindM (l.take (k + 1)) e = (entOk e && decide (icmpM x e < 0)) := by
 unfold behindM
 rw [Bf, hx]
 simp
theorem rrising_c (u : Value) (l : List EntM) (h : Heap) (r : RE h u l) : ACalls prog 175 [u] h fun x h' => x = .bool (risingM l) ∧ h' = h := by
 refine aD func175 rfl rfl ?_
 obtain ⟨ro, s1, s2, s3⟩ := r.ex
 have hlen := r.len
 obtain ⟨ua, uc, hu⟩ := s1.slice
 repeat (first | refine W.w ?_ | refine zz rfl (qad rfl ?_) | refine zz rfl (qaa rfl ?_))
 refine bB (α := Nat) (fun k => [(0, u), (3, .int .i64 (k : Nat))]) (fun _ => h) (fun k => k ≤ l.length ∧ ∀ i, i < k → goodAt l i) (fun k => l.length - k) 0 ⟨Ao _, fun i hi => absurd hi (Nat.not_lt_zero _)⟩ (aI (aA rfl (aA rfl aN))) ?_
 rintro k ⟨hk, hgd⟩
 by_cases hlt : k < l.length
 ·
  obtain ⟨e, hle⟩ := gX (l := l) (k := k) hlt
  obtain ⟨row, hrow⟩ := gX (l := ro) (k := k) (by omega)
  obtain ⟨k1, v1, rfl, b1, b2⟩ := s3 _ _ _ hrow hle
  have hrw : ro[((k : Nat) : Int).toNat]? = some (entC k1 v1 e) := hrow
  have pe := s1.elt hrw
  have hit := goodAt_iff hle
  have step : goodAt l k → ∀ i, i < k + 1 → goodAt l i := fun g i hi => by
   rcases Bx i k with h1 | h1
   ·
    exact hgd i h1
   ·
    obtain rfl : i = k := by omega
    exact g
  have fin : ¬ goodAt l k → risingM l = false := fun g => by
   rw [qdu l k hk hgd (.inr g), Af (by omega)]
  cases he : entOk e with
  | false =>
   have hf : ¬ goodAt l k := by rw [hit]; simp [behindM, he]
   have ci := fun (h' : Heap) (hx : Ext h h') => he ▸ rimay_c k1 v1 e h' (b1.ext hx) (b2.ext hx)
   repeat (first | refine W.w ?_ | refine aE rfl ?_ | (refine zz rfl ?_; first | refine qac rfl ?_ | refine qal (v := u) rfl ?_ | refine qaA s1 rfl ?_ | refine qak rfl rfl rfl (by omega) ?_))
   refine bN mixed (by kernel_rfl) ?_
   repeat' (first | refine bX rfl rfl rfl ?_ | refine aX ?_ | refine dr rfl rfl (fun _ hx _ => qac rfl ⟨rfl, rfl⟩) ?_ | refine dr rfl rfl (fun _ hx _ => qae rfl ⟨rfl, rfl⟩) ?_ | refine dr rfl rfl (fun _ hx _ => qal (v := u) rfl ⟨rfl, rfl⟩) ?_ | refine dr rfl rfl (fun _ hx _ => qaD (s1.ext hx) rfl rfl (by omega) hrw ⟨rfl, rfl⟩) ?_ | refine dr rfl rfl (fun _ hx _ => qaW (pe.ext hx) rfl rfl rfl ⟨rfl, rfl⟩) ?_ | refine dr rfl rfl (fun h' hx _ => qab rfl rfl (ci h' hx) ⟨rfl, rfl⟩) ?_ | refine dr rfl rfl (fun _ hx _ => qaF rfl ⟨rfl, rfl⟩) ?_ | refine dr rfl rfl (fun _ hx _ => qag (v := .bool _) rfl rfl ⟨rfl, rfl⟩) ?_)
   repeat' (first | refine W.w ?_ | refine aE rfl ?_ | refine zz rfl (qaa rfl ?_))
   all_goals exact ⟨_, aC rfl, congrArg Value.bool (fin hf).symm, rfl⟩
  | true =>
   have ci := fun (h' : Heap) (hx : Ext h h') => he ▸ rimay_c k1 v1 e h' (b1.ext hx) (b2.ext hx)
   match k, hk, hgd, hlt, hle, hrow, hrw, pe, hit, step, fin with
   | 0, hk, hgd, hlt, hle, hrow, hrw, pe, hit, step, fin =>
    have hf : goodAt l 0 := by rw [hit]; simp [behindM, he]
    repeat (first | refine W.w ?_ | refine aE rfl ?_ | (refine zz rfl ?_; first | refine qac rfl ?_ | refine qal (v := u) rfl ?_ | refine qaA s1 rfl ?_ | refine qak rfl rfl rfl (by omega) ?_))
    refine bN mixed (by kernel_rfl) ?_
    repeat' (first | refine bX rfl rfl rfl ?_ | refine aX ?_ | refine dr rfl rfl (fun _ hx _ => qac rfl ⟨rfl, rfl⟩) ?_ | refine dr rfl rfl (fun _ hx _ => qae rfl ⟨rfl, rfl⟩) ?_ | refine dr rfl rfl (fun _ hx _ => qal (v := u) rfl ⟨rfl, rfl⟩) ?_ | refine dr rfl rfl (fun _ hx _ => qaD (s1.ext hx) rfl rfl (by omega) hrw ⟨rfl, rfl⟩) ?_ | refine dr rfl rfl (fun _ hx _ => qaW (pe.ext hx) rfl rfl rfl ⟨rfl, rfl⟩) ?_ | refine dr rfl rfl (fun h' hx _ => qab rfl rfl (ci h' hx) ⟨rfl, rfl⟩) ?_ | refine dr rfl rfl (fun _ hx _ => qai rfl rfl rfl (by omega) ⟨rfl, rfl⟩) ?_ | refine dr rfl rfl (fun _ hx _ => qaF rfl ⟨rfl, rfl⟩) ?_ | refine dr rfl rfl (fun _ hx _ => qag (v := .bool _) rfl rfl ⟨rfl, rfl⟩) ?_)
    repeat' (first | refine W.w ?_ | refine aG rfl ?_ | (refine zz rfl ?_; first | refine qac rfl ?_ | refine qad rfl ?_ | refine qau rfl rfl (by omega) ?_))
    all_goals exact ⟨1, ⟨hlt, step hf⟩, by omega, aI (aA rfl (aA rfl aN))⟩
   | j + 1, hk, hgd, hlt, hle, hrow, hrw, pe, hit, step, fin =>
    obtain ⟨x, hlx⟩ := gX (l := l) (k := j) (by omega)
    obtain ⟨rx, hrx⟩ := gX (l := ro) (k := j) (by omega)
    obtain ⟨k2, v2, rfl, c1, c2⟩ := s3 _ _ _ hrx hlx
    have hrw2 : ro[(((j + 1 : Nat) : Int) - 1).toNat]? = some (entC k2 v2 x) := by rw [show (((j + 1 : Nat) : Int) - 1).toNat = j by omega]; exact hrx
    have px := s1.elt hrw2
    have hox : entOk x = true := by
     have := hgd j (by omega) x hlx
     unfold behindM at this
     rw [Ae] at this
     exact this.1
    have e1 := of_decide_eq_true he
    have e2 := of_decide_eq_true hox
    have cc := fun (h' : Heap) (hx : Ext h h') => ricmp_c k2 v2 k1 v1 x e h' (c1.ext hx) (b1.ext hx) (by omega) (by omega)
    have hb := behind_at (e := e) hlx
    rw [he, Cp] at hb
    rw [hb] at hit
    by_cases hc : icmpM x e < 0
    ·
     have hf : goodAt l (j + 1) := hit.2 (Al hc)
     repeat (first | refine W.w ?_ | refine aE rfl ?_ | (refine zz rfl ?_; first | refine qac rfl ?_ | refine qal (v := u) rfl ?_ | refine qaA s1 rfl ?_ | refine qak rfl rfl rfl (by omega) ?_))
     refine bN mixed (by kernel_rfl) ?_
     repeat' (first | refine aX ?_ | refine dr rfl rfl (fun _ hx _ => qac rfl ⟨rfl, rfl⟩) ?_ | refine dr rfl rfl (fun _ hx _ => qae rfl ⟨rfl, rfl⟩) ?_ | refine dr rfl rfl (fun _ hx _ => qal (v := u) rfl ⟨rfl, rfl⟩) ?_ | refine dr rfl rfl (fun _ hx _ => qaD (s1.ext hx) rfl rfl (by omega) hrw2 ⟨rfl, rfl⟩) ?_ | refine dr rfl rfl (fun _ hx _ => qaD (s1.ext hx) rfl rfl (by omega) hrw ⟨rfl, rfl⟩) ?_ | refine dr rfl rfl (fun _ hx _ => qaW (px.ext hx) rfl rfl rfl ⟨rfl, rfl⟩) ?_ | refine dr rfl rfl (fun _ hx _ => qaW (pe.ext hx) rfl rfl rfl ⟨rfl, rfl⟩) ?_ | refine dr rfl rfl (fun h' hx _ => qab rfl rfl (ci h' hx) ⟨rfl, rfl⟩) ?_ | refine dr rfl rfl (fun h' hx _ => qab rfl rfl (cc h' hx) ⟨rfl, rfl⟩) ?_ | refine dr rfl rfl (fun _ hx _ => qai rfl rfl rfl (by omega) ⟨rfl, rfl⟩) ?_ | refine dr rfl rfl (fun _ hx _ => qbC rfl rfl (by omega) ⟨rfl, rfl⟩) ?_ | refine dr rfl rfl (fun _ hx _ => qak rfl rfl rfl (by omega) ⟨rfl, rfl⟩) ?_ | refine dr rfl rfl (fun _ hx _ => qaF rfl ⟨rfl, rfl⟩) ?_ | refine dr rfl rfl (fun _ hx _ => qag (v := .bool _) rfl rfl ⟨rfl, rfl⟩) ?_)
     repeat' (first | refine W.w ?_ | refine aG rfl ?_ | (refine zz rfl ?_; first | refine qac rfl ?_ | refine qad rfl ?_ | refine qau rfl rfl (by omega) ?_))
     all_goals exact ⟨j + 2, ⟨hlt, step hf⟩, by omega, aI (aA rfl (aA rfl aN))⟩
    ·
     have hf : ¬ goodAt l (j + 1) := fun g => hc (of_decide_eq_true (hit.1 g))
     repeat (first | refine W.w ?_ | refine aE rfl ?_ | (refine zz rfl ?_; first | refine qac rfl ?_ | refine qal (v := u) rfl ?_ | refine qaA s1 rfl ?_ | refine qak rfl rfl rfl (by omega) ?_))
     refine bN mixed (by kernel_rfl) ?_
     repeat' (first | refine aX ?_ | refine dr rfl rfl (fun _ hx _ => qac rfl ⟨rfl, rfl⟩) ?_ | refine dr rfl rfl (fun _ hx _ => qae rfl ⟨rfl, rfl⟩) ?_ | refine dr rfl rfl (fun _ hx _ => qal (v := u) rfl ⟨rfl, rfl⟩) ?_ | refine dr rfl rfl (fun _ hx _ => qaD (s1.ext hx) rfl rfl (by omega) hrw2 ⟨rfl, rfl⟩) ?_ | refine dr rfl rfl (fun _ hx _ => qaD (s1.ext hx) rfl rfl (by omega) hrw ⟨rfl, rfl⟩) ?_ | refine dr rfl rfl (fun _ hx _ => qaW (px.ext hx) rfl rfl rfl ⟨rfl, rfl⟩) ?_ | refine dr rfl rfl (fun _ hx _ => qaW (pe.ext hx) rfl rfl rfl ⟨rfl, rfl⟩) ?_ | refine dr rfl rfl (fun h' hx _ => qab rfl rfl (ci h' hx) ⟨rfl, rfl⟩) ?_ | refine dr rfl rfl (fun h' hx _ => qab rfl rfl (cc h' hx) ⟨rfl, rfl⟩) ?_ | refine dr rfl rfl (fun _ hx _ => qak rfl rfl rfl (by omega) ⟨rfl, rfl⟩) ?_ | refine dr rfl rfl (fun _ hx _ => qbC rfl rfl (by omega) ⟨rfl, rfl⟩) ?_ | refine dr rfl rfl (fun _ hx _ => qaF rfl ⟨rfl, rfl⟩) ?_ | refine dr rfl rfl (fun _ hx _ => qag (v := .bool _) rfl rfl ⟨rfl, rfl⟩) ?_)
     repeat' (first | refine W.w ?_ | refine aE rfl ?_ | refine zz rfl (qaa rfl ?_))
     all_goals exact ⟨_, aC rfl, congrArg Value.bool (fin hf).symm, rfl⟩
 ·
  obtain rfl : k = l.length := by omega
  have hr := qdu l l.length (Aa _) hgd (.inl rfl)
  rw [Al rfl] at hr
  repeat (first | refine aW ?_ | refine aR ?_ | refine aY ?_ | refine aG rfl ?_ | refine aM ?_ | refine aP ?_ | (refine zz rfl ?_; first | refine qac rfl ?_ | refine qaa rfl ?_ | refine qal (v := u) rfl ?_ | refine qaA s1 rfl ?_ | refine qai rfl rfl rfl (by omega) ?_))
  exact ⟨_, aC rfl, congrArg Value.bool hr.symm, rfl⟩
theorem op_sLssX {ρ : Operand → Value} {h : Heap} {K : Value → Heap → Prop} {dst : Option Tmp} {ty : TypeId} {pos : String} {aft : Array Edge} {g : Option (Nat × Bool)} {t t' : TypeId} {x y : Operand} {a b : Bytes} (hx : ρ x = str a) (hy : ρ y = str b) (kt : cmpI a b < 0 → K (.bool true) h) (kf : ¬ cmpI a b < 0 → K (.bool false) h) :
  AOp prog ⟨dst, .binOp .lss t x y t', ty, pos, aft, g⟩ ρ h K := by
 by_cases hc : cmpI a b < 0
 ·
  exact qh2 hx hy (by rw [qfW, ← cmpI_L, Al hc]) (kt hc)
 ·
  exact qh2 hx hy (by rw [qfW, ← cmpI_L, Af hc]) (kf hc)
theorem qe8 (p : MoveV) (m : MoveM) (h : Heap) (r : MoveR h p m) : ACalls prog 174 [.agg (moveC p m).toArray] h fun u h' => u = .bool (moveOk m) ∧ h' = h := by
 refine aL fun wf => aO ?_
 refine aD func174 rfl rfl ?_
 repeat (first | refine W.w ?_ | refine zz rfl (qaa rfl ?_) | refine zz rfl (qaS rfl (by intro e; cases e) ?_))
 generalize hH : h.alloc _ = H
 have hg : H.get h.next = some ⟨moveC p m, 34, true⟩ := hH ▸ aB _ _
 have hx : Ext h H := hH ▸ wf.ext _
 have wfH : WF H := hH ▸ wf.alloc _
 clear hH
 obtain ⟨q1, q2⟩ := r.ext hx
 repeat' (first | refine W.w ?_ | refine aK rfl rfl ?_ | refine aE rfl ?_ | refine aG rfl ?_ | (refine zz rfl ?_; first | refine qae rfl ?_ | refine qaa rfl ?_ | refine qd1 rfl rfl hg rfl (fun c => ?_) (fun c => ?_) | refine qan rfl ?_ | refine qaf rfl rfl hg rfl ?_ | refine qaJ q1 rfl ?_ | refine qaJ q2 rfl ?_ | refine qaU rfl rfl (qgP _ _) (fun c => ?_) (fun c => ?_) | refine qaU rfl rfl (rkey_c _ _ _ q2) (fun c => ?_) (fun c => ?_) | refine qap q1 rfl ?_ | refine qap q2 rfl ?_ | refine op_sLssX rfl rfl (fun c => ?_) (fun c => ?_) | refine qag (v := .bool _) rfl rfl ?_ | refine qaT rfl rfl rfl (fun c => ?_) (fun c => ?_) | refine qaF rfl ?_))
 all_goals refine ⟨_, aC rfl, rfl, hx, congrArg Value.bool ?_, rfl⟩
 all_goals clear q1 q2 hg hx wf wfH r
 all_goals grind [moveOk, keyOk]
def plainA (a : AskM) : Bool := decide (a.to.length = 0 ∧ a.was.length = 0 ∧ a.none = false ∧ a.most = 0)
theorem mayAsk_d (a : AskM) : mayAsk a = if a.kind = 1 ∨ a.kind = 3 then keyOk a.key && plainA a && decide (a.value.length = 0)
 else if a.kind = 2 then keyOk a.key && plainA a && decide (a.value.length ≤ 40)
 else if a.kind = 4 then decide (1 ≤ a.key.length ∧ a.key.length ≤ 24 ∧ a.value.length ≤ 40 ∧ a.was.length ≤ 40 ∧ ¬ (a.none = true ∧ 0 < a.was.length) ∧ a.to.length = 0 ∧ a.most = 0)
 else if a.kind = 5 then decide (a.key.length ≤ 24 ∧ a.to.length ≤ 24 ∧ 1 ≤ a.most ∧ a.most ≤ 32 ∧ a.value.length = 0 ∧ a.was.length = 0 ∧ a.none = false)
 else false := by
 unfold mayAsk plainA keyOk
 simp only [Ce]
 by_cases k1 : a.kind = 1 ∨ a.kind = 3
 ·
  rw [Ah k1, Ah k1, Dd]
  simp only [Ae, Aq]
  grind
 rw [Ac k1, Ac k1]
 by_cases k2 : a.kind = 2
 ·
  rw [Ah k2, Ah k2, Dd]
  simp only [Ae, Aq]
  grind
 rw [Ac k2, Ac k2]
theorem qgF (p : AskV) (a : AskM) (h : Heap) (r : AskR h p a) : ACalls prog 122 [.agg (askC p a).toArray] h fun u h' => u = .bool (mayAsk a) ∧ h' = h := by
 refine aL fun wf => aO ?_
 refine aD func122 rfl rfl ?_
 refine aR ?_
 refine aY ?_
 refine zz rfl (qaS rfl (by intro e; cases e) ?_)
 generalize hH : h.alloc _ = H
 have hg : H.get h.next = some ⟨askC p a, 29, true⟩ := hH ▸ aB _ _
 have hx : Ext h H := hH ▸ wf.ext _
 clear hH
 obtain ⟨q1, q2, q3, q4⟩ := r.ext hx
 refine zz rfl (qaa rfl ?_)
 refine aW ?_
 refine AWp.seqI (α := Unit) (fun _ => [(1, ptr h.next), (3, .bool (plainA a))]) (fun _ => H) (fun _ => True) ?_ fun _ _ => ?_
 ·
  repeat' (first | refine W.w ?_ | refine aK rfl rfl ?_ | (refine zz rfl ?_; first | refine qae rfl ?_ | refine qaa rfl ?_ | refine qd1 rfl rfl hg rfl (fun c => ?_) (fun c => ?_) | refine qan rfl ?_ | refine qaf rfl rfl hg rfl ?_ | refine qaJ q2 rfl ?_ | refine qaJ q4 rfl ?_ | refine qag (v := .bool _) rfl rfl ?_ | refine qaT rfl rfl rfl (fun c => ?_) (fun c => ?_) | refine qaF rfl ?_))
  all_goals refine ⟨(), trivial, aI (aA rfl (aA (congrArg Value.bool ?_) aN))⟩
  all_goals clear q1 q2 q3 q4 hg hx wf r
  all_goals grind [plainA]
 ·
  rw [mayAsk_d]
  cases hp : plainA a
  all_goals (
   repeat' (first | refine W.w ?_ | refine aK rfl rfl ?_ | refine aE rfl ?_ | refine aG rfl ?_ | (refine zz rfl ?_; first | refine qae rfl ?_ | refine qaa rfl ?_ | refine qd1 rfl rfl hg rfl (fun c => ?_) (fun c => ?_) | refine qan rfl ?_ | refine qaf rfl rfl hg rfl ?_ | refine qaJ q1 rfl ?_ | refine qaJ q2 rfl ?_ | refine qaJ q3 rfl ?_ | refine qaJ q4 rfl ?_ | refine qaU rfl rfl (rkey_c _ _ _ q1) (fun c => ?_) (fun c => ?_) | refine qag (v := .bool _) rfl rfl ?_ | refine qaT rfl rfl rfl (fun c => ?_) (fun c => ?_) | refine qaF rfl ?_))
   )
  all_goals refine ⟨_, aC rfl, rfl, hx, congrArg Value.bool ?_, rfl⟩
  all_goals clear q1 q2 q3 q4 hg hx wf r
  all_goals grind [keyOk]
theorem rmayReq_c (p : AskV) (m : ReqM) (h : Heap) (r : AskR h p m.ask) : ACalls prog 173 [.agg (reqC p m).toArray] h fun u h' => u = .bool (reqOk m) ∧ h' = h := by
 refine aL fun wf => aO ?_
 refine aD func173 rfl rfl ?_
 repeat (first | refine W.w ?_ | refine zz rfl (qaa rfl ?_) | refine zz rfl (qaS rfl (by intro e; cases e) ?_))
 generalize hH : h.alloc _ = H
 have hg : H.get h.next = some ⟨reqC p m, 32, true⟩ := hH ▸ aB _ _
 have hx : Ext h H := hH ▸ wf.ext _
 have wfH : WF H := hH ▸ wf.alloc _
 clear hH
 have q := r.ext hx
 have cA := qgF p m.ask H q
 repeat' (first | refine W.w ?_ | refine aK rfl rfl ?_ | (refine zz rfl ?_; first | refine qae rfl ?_ | refine qaa rfl ?_ | refine qan rfl ?_ | refine qaf rfl rfl hg rfl ?_ | refine qam (sz := 7) rfl rfl hg (Ab rfl) ?_ | refine qaU rfl rfl cA (fun c => ?_) (fun c => ?_) | refine qag (v := .bool _) rfl rfl ?_ | refine qaT rfl rfl rfl (fun c => ?_) (fun c => ?_)))
 all_goals refine ⟨_, aC rfl, rfl, hx, congrArg Value.bool ?_, rfl⟩
 all_goals clear q hg hx wf wfH r cA
 all_goals grind [reqOk]
end Go.Proofs.YtigmojilaadbhaaGreatDoor
