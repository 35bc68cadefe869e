/-
  Texts of one claim, merged: 8 parts.
-/
import Derived.Test.YtigmojilaadbhaaGreatDoorMuq
import Derived.Test.YtigmojilaadbhaaGreatDoorMuf
import Derived.Test.YtigmojilaadbhaaGreatDoorMue
import Derived.Test.YtigmojilaadbhaaGreatDoorMup
import Derived.Test.YtigmojilaadbhaaGreatDoorMuo
set_option maxHeartbeats 16000000
/- . -/
namespace Go.Proofs.YtigmojilaadbhaaGreatDoor
open Go Go.Eng Go.Pln Go.Lib
attribute [local irreducible] AWp AL DAL AOp
instance i_line : FnC Tryz.prog 18 := ⟨Tryz.f18, Tryz.func18, by kernel_rfl, by kernel_rfl⟩
theorem qgL (l : List WArg) (H : Heap) (n : Nat) (hn : l.length = n) (wf : WF H) (t : Tabs H) (ra : ArgsOk H l) (hl : l.length ≤ 1000) (h' : Heap) (hx' : Ext (H.alloc (rowA l)) h') :
  ACalls Tryz.prog 43 [.slice (some ⟨H.next, 0, some 1⟩) n n] h' fun u h'' => u = str (joinW (l.map argW)) ∧ h'' = h' := by
 have hx := (wf.ext (rowA l)).trans hx'
 refine text_c _ l _ (t.ext hx) (RS.own (hx'.c _ _ (Heap.alloc_new _ _)) ((List.length_map _).trans hn)) (fun x hx2 => (ra.mem x hx2).1.ext hx) (by omega) ?_
 have := qbO 2000000 (l.map argW) fun w hw => by
  obtain ⟨x, hx2, rfl⟩ := List.mem_map.1 hw
  exact ArgS.len (ra.mem x hx2).1 (ra.mem x hx2).2
 rw [List.length_map] at this
 have h2 : l.length * (2000000 + 1) ≤ 1000 * (2000000 + 1) := Nat.mul_le_mul_right _ hl
 omega
theorem qe0 {a b : List Bytes} (ha : a ≠ []) (hb : b ≠ []) : joinW (a ++ [joinW b]) = joinW (a ++ b) := by
 cases a with
 | nil => exact absurd rfl ha
 | cons x xs =>
  cases b with
  | nil => exact absurd rfl hb
  | cons y ys =>
   rw [qaP y ys, List.cons_append, List.cons_append, qaP, qaP, qb5, qb5]
   simp [tailW]
theorem qeM {a b : List Bytes} (ha : a ≠ []) : joinW (joinW a :: b) = joinW (a ++ b) := by
 cases a with
 | nil => exact absurd rfl ha
 | cons x xs =>
  rw [List.cons_append, qaP, qaP, qaP, qb5]
  simp
theorem qf9 : ∀ i : Fin 13, (kword ((i.val : Int) + 1)).length ≤ 10 := by decide +kernel
theorem qdJ {s : Bytes} (h : nameOk s = true) : s.length ≤ 32 := by
 unfold nameOk at h
 simp only [Bool.and_eq_true, decide_eq_true_iff] at h
 exact h.1.2
theorem askW_ne (a : AskM) : askW a ≠ [] := by unfold askW; grind
theorem planW_ne (c : CmdM) : planW c ≠ [] := by unfold planW; grind
theorem qh6 {a : AskM} (h : mayAsk a = true) : (joinW (askW a)).length ≤ 2000000 := by
 obtain ⟨l1, l2, l3, l4, l5, l6, l7, l8⟩ := qda h
 have w1 := qbS a.key
 have w2 := qbS a.to
 have w3 := qbS a.value
 have w4 := qbS a.was
 have w5 := qbs (n := a.most) (by omega) (by omega)
 have := qbO 200 (askW a) (by
  unfold askW
  intro w hw
  split at hw
  ·
   simp only [List.mem_cons, List.not_mem_nil, or_false] at hw; rcases hw with rfl | rfl <;> first | decide | omega
  split at hw
  ·
   simp only [List.mem_cons, List.not_mem_nil, or_false] at hw; rcases hw with rfl | rfl <;> first | decide | omega
  split at hw
  ·
   simp only [List.mem_cons, List.not_mem_nil, or_false] at hw; rcases hw with rfl | rfl | rfl <;> first | decide | omega
  split at hw
  ·
   simp only [List.mem_cons, List.not_mem_nil, or_false] at hw; rcases hw with rfl | rfl | rfl | rfl <;> first | decide | omega
  split at hw
  ·
   simp only [List.mem_cons, List.not_mem_nil, or_false] at hw; rcases hw with rfl | rfl | rfl <;> first | decide | omega
  ·
   simp only [List.mem_cons, List.not_mem_nil, or_false] at hw; rcases hw with rfl | rfl | rfl | rfl <;> first | decide | omega)
 have hl : (askW a).length ≤ 4 := by unfold askW; grind
 have h2 : (askW a).length * (200 + 1) ≤ 4 * (200 + 1) := Nat.mul_le_mul_right _ hl
 omega
theorem planW_len {a : CmdM} (h : mayPlan a = true) : (joinW (planW a)).length ≤ 2000000 := by
 obtain ⟨l1, l2, l3, l4, l5⟩ := qcH h
 have w1 := qbS a.key
 have w5 := qbs (n := a.group) (by omega) (by omega)
 have := qbO 200 (planW a) (by
  unfold planW
  intro w hw
  split at hw
  ·
   simp only [List.mem_cons, List.not_mem_nil, or_false] at hw; rcases hw with rfl | rfl <;> first | decide | omega
  split at hw
  ·
   simp only [List.mem_cons, List.not_mem_nil, or_false] at hw; rcases hw with rfl | rfl <;> first | decide | omega
  ·
   simp only [List.mem_cons, List.not_mem_nil, or_false] at hw; rcases hw with rfl | rfl | rfl <;> first | decide | omega)
 have hl : (planW a).length ≤ 3 := by unfold planW; grind
 have h2 : (planW a).length * (200 + 1) ≤ 3 * (200 + 1) := Nat.mul_le_mul_right _ hl
 omega
theorem bdd2 {n : Nat} (s : Bytes) (k : Int) : Bdd n (.tuple #[str s, .int .i64 k]) := Bdd.plain (by simp [plainV, scalar])
def lineV (a : ActM) : Value := if mayAct 5 5 a then .tuple #[str (lineM a), .int .i64 0] else .tuple #[str [], .int .i64 2]
theorem qht (p : ActV) (a : ActM) (h : Heap) (t : Tabs h) (r : ActR h p a) : ACalls Tryz.prog 18 [.agg (actC p a).toArray] h fun u h' => u = lineV a ∧ h' = h := by
 refine ACalls.wf fun wf => ACalls.resetB ?_
 refine ACalls.body Tryz.func18 rfl rfl ?_
 repeat (first | refine W.w ?_ | (refine zz rfl ?_; first | refine qad rfl ?_ | refine qag rfl ?_ | refine qaV rfl (by intro e; cases e) ?_))
 generalize hH : h.alloc _ = H
 have hg : H.get h.next = some ⟨actC p a, 40, true⟩ := hH ▸ Heap.alloc_new _ _
 have hx : Ext h H := hH ▸ wf.ext _
 have wfH : WF H := hH ▸ wf.alloc _
 clear hH
 have cM := may_c p a 5 5 H (r.ext hx) (by omega) (by omega)
 cases hm : mayAct 5 5 a with
 | false =>
  rw [hm] at cM
  repeat (first | refine W.w ?_ | refine AWp.c8 rfl ?_ | (refine zz rfl ?_; first | refine qad rfl ?_ | refine qag rfl ?_ | refine qaj (sz := 33) rfl rfl hg (Nat.le_refl _) ?_ | refine qab rfl rfl cM ?_ | refine qaL rfl ?_))
  exact ⟨_, ResV.tmp2 rfl, bdd2 _ _, hx, by unfold lineV; rw [hm]; rfl, rfl⟩
 | true =>
  rw [hm] at cM
  have hv : lineV a = .tuple #[str (lineM a), .int .i64 0] := by unfold lineV; rw [hm]; rfl
  have hq : mayQ 5 5 a := (qfg (by omega) (by omega) a).1 hm
  obtain ⟨hk, hna, hp9, hp10, hp11, hnode, hgroup, hnn, hkp⟩ := hq
  have cn := name_c a.kind H (t.ext hx)
  rw [show nameM a.kind = kword a.kind by unfold nameM; rw [if_pos hk]] at cn
  have hkl : (kword a.kind).length ≤ 10 := by
   have := qf9 ⟨(a.kind - 1).toNat, by omega⟩
   rw [show ((a.kind - 1).toNat : Int) + 1 = a.kind by omega] at this
   exact this
  obtain ⟨ra, rc, rk⟩ := r.ext hx
  have xh := hx
  by_cases k1 : a.kind = 3 ∨ a.kind = 4 ∨ a.kind = 5
  ·
   have he : restW a = [itoa a.n] := by unfold restW; rw [if_pos k1]
   rcases k1 with k | k | k <;>
   ·
    have ct := qbu [.txt (kword a.kind), .num a.n] H 2 rfl wfH (t.ext hx) ⟨⟨trivial, (show (kword a.kind).length ≤ 2000000 by omega)⟩, ⟨(show I64 a.n from ⟨by omega, by omega⟩), trivial⟩, trivial⟩ (by show 2 ≤ 1000; omega)
    repeat (first | refine W.w ?_ | refine AWp.c8 rfl ?_ | refine AWp.c9 rfl ?_ | (refine zz rfl ?_; first | refine qai rfl ?_ | refine qad rfl ?_ | refine qaa rfl ?_ | refine qag rfl ?_ | refine qaj (sz := 33) rfl rfl hg (Nat.le_refl _) ?_ | refine qab rfl rfl cM ?_ | refine qab rfl rfl cn ?_ | refine qao rfl ?_ | refine qaf rfl rfl hg rfl ?_ | refine qba rfl rfl ?_ | refine qam rfl rfl rfl (by omega) ?_ | refine qak rfl rfl rfl (by omega) ?_ | refine qaN (([.txt (kword a.kind), .num a.n] : List WArg).map argV) rfl rfl rfl rfl (qa2 _) ?_ | refine qab rfl rfl ct ?_ | refine qaL rfl ?_))
    exact ⟨_, ResV.tmp2 rfl, bdd2 _ _, hx.trans (wfH.ext _), by rw [hv, lineM, he]; rfl, rfl⟩
  by_cases k2 : a.kind = 8 ∨ a.kind = 13
  ·
   have he : restW a = [itoa a.node] := by unfold restW; rw [if_neg k1, if_pos k2]
   rcases k2 with k | k <;>
   ·
    have ct := qbu [.txt (kword a.kind), .num a.node] H 2 rfl wfH (t.ext hx) ⟨⟨trivial, (show (kword a.kind).length ≤ 2000000 by omega)⟩, ⟨(show I64 a.node from ⟨by omega, by omega⟩), trivial⟩, trivial⟩ (by show 2 ≤ 1000; omega)
    repeat (first | refine W.w ?_ | refine AWp.c8 rfl ?_ | refine AWp.c9 rfl ?_ | (refine zz rfl ?_; first | refine qai rfl ?_ | refine qad rfl ?_ | refine qaa rfl ?_ | refine qag rfl ?_ | refine qaj (sz := 33) rfl rfl hg (Nat.le_refl _) ?_ | refine qab rfl rfl cM ?_ | refine qab rfl rfl cn ?_ | refine qao rfl ?_ | refine qaf rfl rfl hg rfl ?_ | refine qba rfl rfl ?_ | refine qam rfl rfl rfl (by omega) ?_ | refine qak rfl rfl rfl (by omega) ?_ | refine qaN (([.txt (kword a.kind), .num a.node] : List WArg).map argV) rfl rfl rfl rfl (qa2 _) ?_ | refine qab rfl rfl ct ?_ | refine qaL rfl ?_))
    exact ⟨_, ResV.tmp2 rfl, bdd2 _ _, hx.trans (wfH.ext _), by rw [hv, lineM, he]; rfl, rfl⟩
  by_cases k3 : a.kind = 9
  ·
   have he : restW a = itoa a.node :: planW a.cmd := by unfold restW; rw [if_neg k1, if_neg k2, if_pos k3]
   have hmp : mayPlan a.cmd = true := by rw [qeg]; exact hp9 k3
   have ct := qgL [.txt (kword a.kind), .num a.node, .txt (joinW (planW a.cmd))] H 3 rfl wfH (t.ext hx) ⟨⟨trivial, (show (kword a.kind).length ≤ 2000000 by omega)⟩, ⟨(show I64 a.node from ⟨by omega, by omega⟩), trivial⟩, ⟨trivial, planW_len hmp⟩, trivial⟩ (by show 3 ≤ 1000; omega)
   repeat (first | refine W.w ?_ | refine AWp.c8 rfl ?_ | refine AWp.c9 rfl ?_ | (refine zz rfl ?_; first | refine qaa rfl ?_ | refine qag rfl ?_ | refine qaj (sz := 33) rfl rfl hg (Nat.le_refl _) ?_ | refine qab rfl rfl cM ?_ | refine qab rfl rfl cn ?_ | refine qao rfl ?_ | refine qaf rfl rfl hg rfl ?_ | refine qam rfl rfl rfl (by omega) ?_ | refine qak rfl rfl rfl (by omega) ?_ | refine qaL rfl ?_))
   refine AWp.draw (σ := [(0, .R), (1, .R), (2, .R), (3, .R), (4, .R), (5, .R), (6, .R), (7, .R), (8, .R), (9, .X), (10, .R), (11, .R), (12, .R)]) mixed (by kernel_rfl) ?_
   repeat (first | refine DAL.r rfl rfl rfl (fun h' hx hn => qai rfl ⟨rfl, rfl⟩) ?_ | refine DAL.r rfl rfl rfl (fun h' hx hn => qao rfl ⟨rfl, rfl⟩) ?_ | refine DAL.r rfl rfl rfl (fun h' hx hn => qaf rfl rfl (hx.c _ _ hg) rfl ⟨rfl, rfl⟩) ?_ | refine DAL.r rfl rfl rfl (fun h' hx hn => qba rfl rfl ⟨rfl, rfl⟩) ?_ | refine DAL.r rfl rfl rfl (fun h' hx hn => qaj (sz := 20) rfl rfl (hx.c _ _ hg) (Nat.le_of_ble_eq_true rfl) ⟨rfl, rfl⟩) ?_ | refine DAL.r rfl rfl rfl (fun h' hx hn => qab rfl rfl (planT_c p.c a.cmd h' (t.ext (xh.trans hx)) (rc.ext hx) hmp) ⟨rfl, rfl⟩) ?_)
   refine DAL.x rfl rfl rfl (qaN (([.txt (kword a.kind), .num a.node, .txt (joinW (planW a.cmd))] : List WArg).map argV) rfl rfl rfl rfl (qa2 _) ⟨wfH.ext _, ?_⟩)
   repeat (first | refine DAL.r rfl rfl rfl (fun h' hx hn => qad rfl ⟨rfl, rfl⟩) ?_ | refine DAL.r rfl rfl rfl (fun h' hx hn => qag rfl ⟨rfl, rfl⟩) ?_ | refine DAL.r rfl rfl rfl (fun h' hx hn => qab rfl rfl (ct h' hx) ⟨rfl, rfl⟩) ?_)
   refine DAL.nil ?_
   repeat (first | refine AWp.ret ?_)
   exact ⟨_, ResV.tmp2 rfl, bdd2 _ _, xh.trans (wfH.ext _), by rw [hv, lineM, he]; exact congrArg (fun z => Value.tuple #[str z, .int .i64 0]) (qe0 (a := [kword a.kind, itoa a.node]) (List.cons_ne_nil _ _) (planW_ne _)), rfl⟩
  by_cases k4 : a.kind = 10
  ·
   have he : restW a = itoa a.client :: itoa a.node :: itoa a.group :: askW a.ask := by unfold restW; rw [if_neg k1, if_neg k2, if_neg k3, if_pos k4]
   have hma := hp10 k4
   have ct := qgL [.txt (kword a.kind), .num a.client, .num a.node, .num a.group, .txt (joinW (askW a.ask))] H 5 rfl wfH (t.ext hx) ⟨⟨trivial, (show (kword a.kind).length ≤ 2000000 by omega)⟩, ⟨(show I64 a.client from ⟨by omega, by omega⟩), trivial⟩, ⟨(show I64 a.node from ⟨by omega, by omega⟩), trivial⟩, ⟨(show I64 a.group from ⟨by omega, by omega⟩), trivial⟩, ⟨trivial, qh6 hma⟩, trivial⟩ (by show 5 ≤ 1000; omega)
   repeat (first | refine W.w ?_ | refine AWp.c8 rfl ?_ | refine AWp.c9 rfl ?_ | (refine zz rfl ?_; first | refine qaa rfl ?_ | refine qag rfl ?_ | refine qaj (sz := 33) rfl rfl hg (Nat.le_refl _) ?_ | refine qab rfl rfl cM ?_ | refine qab rfl rfl cn ?_ | refine qao rfl ?_ | refine qaf rfl rfl hg rfl ?_ | refine qam rfl rfl rfl (by omega) ?_ | refine qak rfl rfl rfl (by omega) ?_ | refine qaL rfl ?_))
   refine AWp.draw (σ := [(0, .R), (1, .R), (2, .R), (3, .R), (4, .R), (5, .R), (6, .R), (7, .R), (8, .R), (9, .R), (10, .R), (11, .R), (12, .R), (13, .R), (14, .R), (15, .X), (16, .R), (17, .R), (18, .R)]) mixed (by kernel_rfl) ?_
   repeat (first | refine DAL.r rfl rfl rfl (fun h' hx hn => qai rfl ⟨rfl, rfl⟩) ?_ | refine DAL.r rfl rfl rfl (fun h' hx hn => qao rfl ⟨rfl, rfl⟩) ?_ | refine DAL.r rfl rfl rfl (fun h' hx hn => qaf rfl rfl (hx.c _ _ hg) rfl ⟨rfl, rfl⟩) ?_ | refine DAL.r rfl rfl rfl (fun h' hx hn => qba rfl rfl ⟨rfl, rfl⟩) ?_ | refine DAL.r rfl rfl rfl (fun h' hx hn => qaj (sz := 7) rfl rfl (hx.c _ _ hg) (Nat.le_of_ble_eq_true rfl) ⟨rfl, rfl⟩) ?_ | refine DAL.r rfl rfl rfl (fun h' hx hn => qab rfl rfl (askT_c p.q a.ask h' (t.ext (xh.trans hx)) (ra.ext hx) hma) ⟨rfl, rfl⟩) ?_)
   refine DAL.x rfl rfl rfl (qaN (([.txt (kword a.kind), .num a.client, .num a.node, .num a.group, .txt (joinW (askW a.ask))] : List WArg).map argV) rfl rfl rfl rfl (qa2 _) ⟨wfH.ext _, ?_⟩)
   repeat (first | refine DAL.r rfl rfl rfl (fun h' hx hn => qad rfl ⟨rfl, rfl⟩) ?_ | refine DAL.r rfl rfl rfl (fun h' hx hn => qag rfl ⟨rfl, rfl⟩) ?_ | refine DAL.r rfl rfl rfl (fun h' hx hn => qab rfl rfl (ct h' hx) ⟨rfl, rfl⟩) ?_)
   refine DAL.nil ?_
   repeat (first | refine AWp.ret ?_)
   exact ⟨_, ResV.tmp2 rfl, bdd2 _ _, xh.trans (wfH.ext _), by rw [hv, lineM, he]; exact congrArg (fun z => Value.tuple #[str z, .int .i64 0]) (qe0 (a := [kword a.kind, itoa a.client, itoa a.node, itoa a.group]) (List.cons_ne_nil _ _) (askW_ne _)), rfl⟩
  by_cases k5 : a.kind = 11
  ·
   have he : restW a = [itoa a.client, itoa a.node, itoa a.group] := by unfold restW; rw [if_neg k1, if_neg k2, if_neg k3, if_neg k4, if_pos k5]
   have ct := qbu [.txt (kword a.kind), .num a.client, .num a.node, .num a.group] H 4 rfl wfH (t.ext hx) ⟨⟨trivial, (show (kword a.kind).length ≤ 2000000 by omega)⟩, ⟨(show I64 a.client from ⟨by omega, by omega⟩), trivial⟩, ⟨(show I64 a.node from ⟨by omega, by omega⟩), trivial⟩, ⟨(show I64 a.group from ⟨by omega, by omega⟩), trivial⟩, trivial⟩ (by show 4 ≤ 1000; omega)
   repeat (first | refine W.w ?_ | refine AWp.c8 rfl ?_ | refine AWp.c9 rfl ?_ | (refine zz rfl ?_; first | refine qai rfl ?_ | refine qad rfl ?_ | refine qaa rfl ?_ | refine qag rfl ?_ | refine qaj (sz := 33) rfl rfl hg (Nat.le_refl _) ?_ | refine qab rfl rfl cM ?_ | refine qab rfl rfl cn ?_ | refine qao rfl ?_ | refine qaf rfl rfl hg rfl ?_ | refine qba rfl rfl ?_ | refine qam rfl rfl rfl (by omega) ?_ | refine qak rfl rfl rfl (by omega) ?_ | refine qaN (([.txt (kword a.kind), .num a.client, .num a.node, .num a.group] : List WArg).map argV) rfl rfl rfl rfl (qa2 _) ?_ | refine qab rfl rfl ct ?_ | refine qaL rfl ?_))
   exact ⟨_, ResV.tmp2 rfl, bdd2 _ _, hx.trans (wfH.ext _), by rw [hv, lineM, he]; rfl, rfl⟩
  by_cases k6 : a.kind = 12
  ·
   have he : restW a = itoa a.node :: keepW a.keep := by unfold restW; rw [if_neg k1, if_neg k2, if_neg k3, if_neg k4, if_neg k5, if_pos k6]
   have hko : keepOk a.keep = true ∧ a.keep.length ≤ 128 := by
    unfold kp at hkp
    simpa [Bool.and_eq_true] using hkp
   have r1 := rk.rn
   have hml : (a.keep.map keptR).length = a.keep.length := List.length_map _
   obtain ⟨va, vc, hvk⟩ := r1.slice
   have ct := qbu [.txt (kword a.kind), .num a.node] H 2 rfl wfH (t.ext hx) ⟨⟨trivial, (show (kword a.kind).length ≤ 2000000 by omega)⟩, ⟨(show I64 a.node from ⟨by omega, by omega⟩), trivial⟩, trivial⟩ (by show 2 ≤ 1000; omega)
   repeat (first | refine W.w ?_ | refine AWp.c8 rfl ?_ | refine AWp.c9 rfl ?_ | (refine zz rfl ?_; first | refine qai rfl ?_ | refine qaa rfl ?_ | refine qag rfl ?_ | refine qaj (sz := 33) rfl rfl hg (Nat.le_refl _) ?_ | refine qab rfl rfl cM ?_ | refine qab rfl rfl cn ?_ | refine qao rfl ?_ | refine qaf rfl rfl hg rfl ?_ | refine qba rfl rfl ?_ | refine qam rfl rfl rfl (by omega) ?_ | refine qak rfl rfl rfl (by omega) ?_ | refine qaN (([.txt (kword a.kind), .num a.node] : List WArg).map argV) rfl rfl rfl rfl (qa2 _) ?_ | refine qab rfl rfl ct ?_ | refine qaL rfl ?_))
   have x1 := wfH.ext (rowA [.txt (kword a.kind), .num a.node])
   have wf1 := wfH.alloc (rowA [.txt (kword a.kind), .num a.node])
   have hg1 := x1.c _ _ hg
   refine AL.heap (h := H.alloc (rowA [.txt (kword a.kind), .num a.node])) rfl ?_
   generalize H.alloc (rowA [.txt (kword a.kind), .num a.node]) = H1 at x1 wf1 hg1 ⊢
   repeat (first | refine W.w ?_ | (refine zz rfl ?_; first | refine qac rfl ?_ | refine qaf rfl rfl hg1 rfl ?_ | refine qaB (r1.ext x1) rfl ?_))
   refine AWp.loop (α := Nat × Heap) (fun d => [(1, ptr h.next), (5, str (joinW (kword a.kind :: itoa a.node :: keepW (a.keep.take d.1)))), (94, p.k), (95, .int .i64 ((a.keep.map keptR).length : Nat)), (96, .int .i64 (d.1 : Nat))]) (fun d => d.2) (fun d => d.1 ≤ a.keep.length ∧ Ext H d.2 ∧ WF d.2) (fun d => a.keep.length - d.1) (0, H1) ⟨Nat.zero_le _, x1, wf1⟩
    (Weak.same (EW.cons rfl (EW.cons rfl (EW.cons rfl (EW.cons rfl (EW.cons rfl EW.nil)))))) ?_
   rintro ⟨k, H2⟩ ⟨hk2, x2, wf2⟩
   replace hk2 : k ≤ a.keep.length := hk2
   replace x2 : Ext H H2 := x2
   replace wf2 : WF H2 := wf2
   show AWp _ _ _ _ [(1, ptr h.next), (5, str (joinW (kword a.kind :: itoa a.node :: keepW (a.keep.take k)))), (94, p.k), (95, .int .i64 ((a.keep.map keptR).length : Nat)), (96, .int .i64 (k : Nat))] H2
   by_cases hlt : k < a.keep.length
   ·
    obtain ⟨x, hxa⟩ : ∃ x, a.keep[k]? = some x := ⟨_, List.getElem?_eq_getElem hlt⟩
    have hx2 : (a.keep.map keptR)[((k : Nat) : Int).toNat]? = some (keptR x) := by simp [hxa]
    have px := (r1.ext x2).elt hx2
    obtain ⟨hn1, hn2, hn3⟩ := qbV hko.1 x (List.mem_of_getElem? hxa)
    have hnl := qdJ hn1
    have hkw : keepW (a.keep.take (k + 1)) = keepW (a.keep.take k) ++ [x.1, itoa x.2] := qcU hxa
    have hsl : (joinW (kword a.kind :: itoa a.node :: keepW (a.keep.take k))).length ≤ 2000000 := by
     have := qbO 100 (kword a.kind :: itoa a.node :: keepW (a.keep.take k)) (by
      intro w hw
      rcases List.mem_cons.1 hw with rfl | hw
      ·
       omega
      rcases List.mem_cons.1 hw with rfl | hw
      ·
       have := qbs (n := a.node) (by omega) (by omega); omega
      obtain ⟨y, hy, hw⟩ := List.mem_flatMap.1 hw
      obtain ⟨m1, m2, m3⟩ := qbV hko.1 y (List.mem_of_mem_take hy)
      have := qdJ m1
      have := qbs (n := y.2) (by omega) (by omega)
      simp only [List.mem_cons, List.not_mem_nil, or_false] at hw
      rcases hw with rfl | rfl <;> omega)
     have hl2 : (keepW (a.keep.take k)).length ≤ 2 * 128 := by
      have hh : ∀ l : List (Bytes × Int), (keepW l).length = 2 * l.length := by
       intro l
       induction l with
       | nil => rfl
       | cons y l ih => unfold keepW at ih ⊢; rw [List.flatMap_cons, List.length_append, ih]; simp; omega
      rw [hh, List.length_take]
      omega
     simp only [List.length_cons] at this
     have := Nat.mul_le_mul_right (100 + 1) (show (keepW (a.keep.take k)).length + 1 + 1 ≤ 258 by omega)
     omega
    repeat (first | refine W.w ?_ | refine AWp.c8 rfl ?_ | refine AL.eff rfl (qaE (vs := keptR x) rfl rfl rfl rfl rfl ?_) | (refine zz rfl ?_; first | refine qai rfl ?_ | refine qam rfl rfl rfl (by omega) ?_ | refine qaG (r1.ext x2) rfl rfl (by omega) hx2 ?_ | refine qa1 px rfl rfl rfl ?_ | refine qaw ?_))
    obtain ⟨H3, hQ, hgk, x3, wf3, _⟩ := aq wf2 (keptB x)
    rw [hQ]
    have hxx := x2.trans x3
    have ct2 := qbu [.txt (joinW (kword a.kind :: itoa a.node :: keepW (a.keep.take k))), .txt x.1, .num x.2] H3 3 rfl wf3 (t.ext (xh.trans hxx)) ⟨⟨trivial, hsl⟩, ⟨trivial, show x.1.length ≤ 2000000 by omega⟩, ⟨(show I64 x.2 from ⟨by omega, by omega⟩), trivial⟩, trivial⟩ (by show 3 ≤ 1000; omega)
    repeat (first | refine W.w ?_ | (refine zz rfl ?_; first | refine qac rfl ?_ | refine qag rfl ?_ | refine qao rfl ?_ | refine qaf rfl rfl hgk rfl ?_ | refine qba rfl rfl ?_ | refine qaN (([.txt (joinW (kword a.kind :: itoa a.node :: keepW (a.keep.take k))), .txt x.1, .num x.2] : List WArg).map argV) rfl rfl rfl rfl (qa2 _) ?_ | refine qab rfl rfl ct2 ?_ | refine qas rfl rfl (by omega) ?_))
    refine ⟨(k + 1, H3.alloc (rowA [.txt (joinW (kword a.kind :: itoa a.node :: keepW (a.keep.take k))), .txt x.1, .num x.2])), ⟨hlt, hxx.trans (wf3.ext _), wf3.alloc _⟩, by show a.keep.length - (k + 1) < a.keep.length - k; omega, Weak.same (EW.cons rfl (EW.cons ?_ (EW.cons rfl (EW.cons rfl (EW.cons rfl EW.nil)))))⟩
    show str (joinW [joinW (kword a.kind :: itoa a.node :: keepW (a.keep.take k)), x.1, itoa x.2]) = str (joinW (kword a.kind :: itoa a.node :: keepW (a.keep.take (k + 1))))
    rw [hkw]
    exact congrArg str (qeM (by simp))
   ·
    obtain rfl : k = a.keep.length := by omega
    rw [List.take_length]
    repeat (first | refine AL.nil ?_ | refine AWp.seq ?_ | refine AWp.r9 ?_ | refine AWp.c9 rfl ?_ | refine AWp.ret ?_ | refine AWp.exit ?_ | (refine zz rfl ?_; first | refine qai rfl ?_ | refine qad rfl ?_ | refine qag rfl ?_ | refine qak rfl rfl rfl (by omega) ?_))
    exact ⟨_, ResV.tmp2 rfl, bdd2 _ _, xh.trans x2, by rw [hv, lineM, he]; rfl, rfl⟩
  ·
   have he : restW a = [itoa a.node, itoa a.group] := by unfold restW; rw [if_neg k1, if_neg k2, if_neg k3, if_neg k4, if_neg k5, if_neg k6]
   have ct := qbu [.txt (kword a.kind), .num a.node, .num a.group] H 3 rfl wfH (t.ext hx) ⟨⟨trivial, (show (kword a.kind).length ≤ 2000000 by omega)⟩, ⟨(show I64 a.node from ⟨by omega, by omega⟩), trivial⟩, ⟨(show I64 a.group from ⟨by omega, by omega⟩), trivial⟩, trivial⟩ (by show 3 ≤ 1000; omega)
   repeat (first | refine W.w ?_ | refine AWp.c9 rfl ?_ | (refine zz rfl ?_; first | refine qai rfl ?_ | refine qad rfl ?_ | refine qaa rfl ?_ | refine qag rfl ?_ | refine qaj (sz := 33) rfl rfl hg (Nat.le_refl _) ?_ | refine qab rfl rfl cM ?_ | refine qab rfl rfl cn ?_ | refine qao rfl ?_ | refine qaf rfl rfl hg rfl ?_ | refine qba rfl rfl ?_ | refine qak rfl rfl rfl (by omega) ?_ | refine qaN (([.txt (kword a.kind), .num a.node, .num a.group] : List WArg).map argV) rfl rfl rfl rfl (qa2 _) ?_ | refine qab rfl rfl ct ?_ | refine qaL rfl ?_))
   exact ⟨_, ResV.tmp2 rfl, bdd2 _ _, hx.trans (wfH.ext _), by rw [hv, lineM, he]; rfl, rfl⟩
end Go.Proofs.YtigmojilaadbhaaGreatDoor
/- . -/
namespace Go.Eng
open Go
section
variable {P : Program} {h : Heap}
theorem ResV.cellAC {fn : Func} {env : Env} {a u : Tmp} {t t' : TypeId} {i o sz by_ j p : Nat} {z v : Value} {s s' : Option Nat} {b b' : Blk} {d d' : TypeDesc} [td : TyD P t d] [ti : TyI P t sz by_ z] [td' : TyD P t' d'] (hr : fn.results = #[.cell a t, .cell u t']) (hx : env.get a = .pointer (some ⟨i, o, s⟩)) (ha : aggB d = true)
  (hi : h.get i = some b) (hl : o + sz ≤ b.cells.length) (hy : env.get u = .pointer (some ⟨j, p, s'⟩)) (hb : aggB d' = false) (hj : h.get j = some b') (hv : b'.cells[p]? = some v) : ResV P fn env h (.tuple #[.agg ((b.cells.drop o).take sz).toArray, v]) := by
 intro N φ tmps w r
 obtain ⟨x, h1, h2⟩ := qdH (P := P) (t := t) r.sim (hx ▸ r.env a) ha hi hl
 obtain ⟨_, _, e1⟩ := (hy ▸ r.env u).ptr_inv
 obtain ⟨c, hc, hr2⟩ := r.sim.cell hj hv
 refine ⟨.tuple #[x, c], ?_, .tuple2 h2 hr2⟩
 have h3 : (results fn tmps).run P w = (do let x ← loadVar t (← asAddr (tmps.getD a undef)); let y ← loadVar t' (← asAddr (tmps.getD u undef)); pure (.tuple #[x, y]) : Sem Value).run P w := by
  simp only [results, hr]
  simp only [List.mapM_toArray, List.mapM_cons, List.mapM_nil, Sem.run_bind, Sem.run_map, Sem.run_pure]
  cases (asAddr (tmps.getD a undef)).run P w with
  | halt x w1 => rfl
  | ok x w1 =>
   simp only [Result.andThen_ok]
   cases (loadVar t x).run P w1 with
   | halt y w2 => rfl
   | ok y w2 =>
    simp only [Result.andThen_ok]
    cases (asAddr (tmps.getD u undef)).run P w2 with
    | halt x w1 => rfl
    | ok x w1 =>
     simp only [Result.andThen_ok]
     cases (loadVar t' x).run P w1 with
     | halt y w2 => rfl
     | ok y w2 => rfl
 rw [h3]
 have h4 : (do loadVar t' (← asAddr (tmps.getD u undef)) : Sem Value).run P w = .ok c w := by
  simp only [Sem.run_bind, e1]
  simp [asAddr, loadVar, td'.isAgg, hb, hc]
 simp only [Sem.run_bind] at h1 h4 ⊢
 cases h5 : (asAddr (tmps.getD a undef)).run P w with
 | halt x w1 => rw [h5] at h1; cases h1
 | ok x w1 =>
  rw [h5] at h1
  simp only [Result.andThen_ok] at h1 ⊢
  rw [h1]
  simp only [Result.andThen_ok]
  cases h6 : (asAddr (tmps.getD u undef)).run P w with
  | halt x w1 => rw [h6] at h4; cases h4
  | ok x w1 =>
   rw [h6] at h4
   simp only [Result.andThen_ok] at h4 ⊢
   rw [h4]
   simp
end
end Go.Eng
/- . -/
namespace Go.Proofs.YtigmojilaadbhaaGreatDoor
open Go Go.Eng Go.Pln Go.Lib
attribute [local irreducible] AWp AL DAL AOp TAL XWp XL YDAL
instance i_unline : FnC Tryz.prog 21 := ⟨Tryz.f21, Tryz.func21, by kernel_rfl, by kernel_rfl⟩
instance qhp : StD Tryz.prog 89 [(0, 1)] := ⟨_, Tryz.underlying89, by kernel_rfl⟩
instance qgE : TyI Tryz.prog 89 1 16 (.agg #[.string ⟨#[]⟩]) := ⟨qaT (by kernel_rfl), rfl, rfl⟩
theorem kword_inj' {i j : Nat} (hi : i < 13) (hj : j < 13) (h : kword ((i : Int) + 1) = kword ((j : Int) + 1)) : i = j := qfL hi hj h
theorem unline_at {s : Bytes} {i : Nat} (hi : i < 13) (h : kword ((i : Int) + 1) = (cutS s).1) : unlineP s = if mayAct 5 5 (readS ((i : Int) + 1) (cutS s).2) = true ∧ lineM (readS ((i : Int) + 1) (cutS s).2) = s then some (readS ((i : Int) + 1) (cutS s).2) else none := by
 unfold unlineP
 rw [← h, qdb (by omega)]
 show (if mayAct 5 5 (readS ((((i : Int) + 1 - 1).toNat : Nat) + 1) (cutS s).2) = true ∧ _ then _ else _) = _
 rw [show ((((i : Int) + 1 - 1).toNat : Nat) : Int) + 1 = (i : Int) + 1 by omega]
theorem unline_no {s : Bytes} (h : ∀ j : Nat, j < 13 → kword ((j : Int) + 1) ≠ (cutS s).1) : unlineP s = none := by
 unfold unlineP
 have : ((List.range 13).find? fun i : Nat => kword ((i : Int) + 1) == (cutS s).1) = none := by
  rw [List.find?_eq_none]
  intro x hx
  simpa using h x (List.mem_range.1 hx)
 rw [this]
 rfl
abbrev cellS (t : TypeId) (v : Value) : Blk := ⟨[v], t, true⟩
structure UnB (h : Heap) (s : Bytes) (b1 b2 b3 rd b4 b5 : Nat) : Prop where
 n1 : h.next ≤ b1
 n2 : h.next ≤ b2
 n3 : h.next ≤ b3
 nr : h.next ≤ rd
 n4 : h.next ≤ b4
 n5 : h.next ≤ b5
 d12 : b1 ≠ b2
 d13 : b1 ≠ b3
 d1r : b1 ≠ rd
 d23 : b2 ≠ b3
 d2r : b2 ≠ rd
 d3r : b3 ≠ rd
 d4r : b4 ≠ rd
 d5r : b5 ≠ rd
 r8 : 8 ≤ rd
structure UnY (h : Heap) (s : Bytes) (b1 b2 b3 rd b4 b5 : Nat) (i : Nat) (H : Heap) : Prop where
 ext : Ext h H
 g1 : H.get b1 = some (cellS 9 (str s))
 g2 : H.get b2 = some ⟨actC actV0 act0, 40, true⟩
 g3 : H.get b3 = some (cellS 48 (.int .i64 0))
 g4 : H.get b4 = some (cellS 87 (ptr rd))
 g5 : H.get b5 = some (cellS 9 (str (cutS s).1))
 st : ∃ rest, H.get rd = some (rdB rest) ∧ (((∀ j : Nat, j < i → kword ((j : Int) + 1) ≠ (cutS s).1) ∧ rest = (cutS s).2) ∨ ((∃ j : Nat, j < i ∧ j < 13 ∧ kword ((j : Int) + 1) = (cutS s).1) ∧ unlineP s = none))
def unA (s : Bytes) : ActM × Int := match unlineP s with
 | some a => (a, 0)
 | none => (act0, 4)
structure UnZ (h : Heap) (s : Bytes) (b2 b3 : Nat) (H : Heap) (c : Code) : Prop where
 ret : c = .ret
 ext : Ext h H
 e : (unA s).2 = 0
 fin : ∃ q, H.get b2 = some ⟨actC q (unA s).1, 40, true⟩ ∧ (∃ B, ActO B H q (unA s).1) ∧ (unA s).1.keep.length ≤ 140737488351232
 g3 : H.get b3 = some (cellS 48 (.int .i64 0))
theorem UnY.grow {h H H' : Heap} {s : Bytes} {b1 b2 b3 rd b4 b5 i : Nat} (y : UnY h s b1 b2 b3 rd b4 b5 i H) (hx : Ext H H') : UnY h s b1 b2 b3 rd b4 b5 i H' := by
 obtain ⟨rest, h1, h2⟩ := y.st
 exact ⟨y.ext.trans hx, hx.c _ _ y.g1, hx.c _ _ y.g2, hx.c _ _ y.g3, hx.c _ _ y.g4, hx.c _ _ y.g5, rest, hx.c _ _ h1, h2⟩
theorem qcw (s : Bytes) (h : Heap) (t : Tabs h) (h8 : 8 ≤ h.next) (hl : s.length ≤ 1000000000) : ACalls Tryz.prog 21 [str s] h fun u h' => ∃ q, u = .tuple #[.agg (actC q (unA s).1).toArray, .int .i64 (unA s).2] ∧ ((∃ B, ActO B h' q (unA s).1) ∧ (unA s).1.keep.length ≤ 140737488351232) ∧ Ext h h' := by
 refine ACalls.wf fun wf => ?_
 refine ACalls.bodyX Tryz.func21 rfl (Nat.le_of_ble_eq_true rfl) fun bb => ?_
 repeat (first | refine XWp.seq ?_ | refine XWp.region ?_)
 refine XL.set rfl rfl rfl (qaV rfl (by intro e; cases e) ?_)
 generalize hH : h.alloc _ = H1
 have g1 : H1.get h.next = some (cellS 9 (str s)) := hH ▸ Heap.alloc_new _ _
 have x1 : Ext h H1 := hH ▸ wf.ext _
 have w1 : WF H1 := hH ▸ wf.alloc _
 have l1 := w1.lt g1
 clear hH
 refine XL.set rfl rfl rfl (qaw ?_)
 refine XL.heap (h := H1.alloc ⟨actC actV0 act0, 40, true⟩) rfl ?_
 generalize hH : H1.alloc ⟨actC actV0 act0, 40, true⟩ = H2
 have g2 : H2.get H1.next = some ⟨actC actV0 act0, 40, true⟩ := hH ▸ Heap.alloc_new _ _
 have x2 : Ext H1 H2 := hH ▸ w1.ext _
 have w2 : WF H2 := hH ▸ w1.alloc _
 have l2 := w2.lt g2
 clear hH
 refine XL.set rfl rfl rfl (qaw ?_)
 generalize hH : H2.alloc _ = H3
 have g3 : H3.get H2.next = some (cellS 48 (.int .i64 0)) := hH ▸ Heap.alloc_new _ _
 have x3 : Ext H2 H3 := hH ▸ w2.ext _
 have w3 : WF H3 := hH ▸ w2.alloc _
 have l3 := w3.lt g3
 clear hH
 repeat (first | refine XL.nil ?_ | refine XWp.seq ?_ | refine XWp.region ?_ | refine XL.set rfl rfl rfl (qaf rfl rfl (x3.c _ _ (x2.c _ _ g1)) rfl ?_) | refine XL.set rfl rfl rfl (qax (out := [str s]) rfl rfl ?_))
 refine XL.set rfl rfl rfl (qaV (v := .agg #[str s]) rfl (by intro e; cases e) ?_)
 refine XL.heap (h := H3.alloc (rdB s)) rfl ?_
 generalize hH : H3.alloc (rdB s) = H4
 have gr : H4.get H3.next = some (rdB s) := hH ▸ Heap.alloc_new _ _
 have x4 : Ext H3 H4 := hH ▸ w3.ext _
 have w4 : WF H4 := hH ▸ w3.alloc _
 have l4 := w4.lt gr
 clear hH
 repeat (first | refine XL.set rfl rfl rfl (qaw ?_))
 refine XL.eff rfl rfl (qej (v := ptr H3.next) rfl rfl rfl ?_)
 generalize hH : H4.alloc _ = H5
 have g4 : H5.get H4.next = some (cellS 87 (ptr H3.next)) := hH ▸ Heap.alloc_new _ _
 have x5 : Ext H4 H5 := hH ▸ w4.ext _
 have w5 : WF H5 := hH ▸ w4.alloc _
 have l5 := w5.lt g4
 clear hH
 repeat (first | refine XL.nil ?_ | refine XWp.seq ?_ | refine XWp.region ?_ | refine XL.set rfl rfl rfl (qaf rfl rfl g4 rfl ?_))
 refine XL.set rfl rfl rfl (qar (evs := [ptr H3.next]) rfl rfl ((qh1 H3.next s H5 (x5.c _ _ gr) hl).mono ?_))
 rintro _ _ ⟨rfl, rfl⟩
 generalize hH : H5.set H3.next (rdB (cutS s).2) = H6
 have gr6 : H6.get H3.next = some (rdB (cutS s).2) := hH ▸ Heap.set_at _ _ _
 have k6 : ∀ j b, H5.get j = some b → j ≠ H3.next → H6.get j = some b := fun j b e n => hH ▸ (Heap.set_other n).trans e
 have w6 : WF H6 := hH ▸ w5.set (by omega) _
 have x6 : Ext h H6 := hH ▸ wf.ext_set (x1.trans (x2.trans (x3.trans (x4.trans x5)))) (by omega) _
 have n6 : H6.next = H5.next := hH ▸ rfl
 clear hH
 repeat (first | refine XL.set rfl rfl rfl (qaw ?_))
 refine XL.eff rfl rfl (qej (v := str (cutS s).1) rfl rfl rfl ?_)
 generalize hH : H6.alloc _ = H7
 have g5 : H7.get H6.next = some (cellS 9 (str (cutS s).1)) := hH ▸ Heap.alloc_new _ _
 have x7 : Ext H6 H7 := hH ▸ w6.ext _
 have w7 : WF H7 := hH ▸ w6.alloc _
 have l7 := w7.lt g5
 clear hH
 have U : UnB h s h.next H1.next H2.next H3.next H4.next H6.next := ⟨by omega, by omega, by omega, by omega, by omega, by omega, by omega, by omega, by omega, by omega, by omega, by omega, by omega, by omega, by omega⟩
 have y0 : UnY h s h.next H1.next H2.next H3.next H4.next H6.next 0 H7 := ⟨x6.trans x7, x7.c _ _ (k6 _ _ (x5.c _ _ (x4.c _ _ (x3.c _ _ (x2.c _ _ g1)))) (by omega)), x7.c _ _ (k6 _ _ (x5.c _ _ (x4.c _ _ (x3.c _ _ g2))) (by omega)), x7.c _ _ (k6 _ _ (x5.c _ _ (x4.c _ _ g3)) (by omega)), x7.c _ _ (k6 _ _ g4 (by omega)), g5, _, x7.c _ _ gr6, .inl ⟨fun j hj => by omega, rfl⟩⟩
 have e1 : H1.next < H7.next := by omega
 have e2 : H2.next < H7.next := by omega
 have e3 : H3.next < H7.next := by omega
 repeat (first | refine XL.nil ?_ | refine XWp.seq ?_ | refine XWp.region ?_ | refine XWp.block ?_ | refine XL.set rfl rfl rfl (qab rfl rfl (kinds_v H7) ?_))
 generalize h.next = b1 at *
 generalize H1.next = b2 at *
 generalize H2.next = b3 at *
 generalize H3.next = rd at *
 generalize H4.next = b4 at *
 generalize H6.next = b5 at *
 refine XWp.rangeFunc (ι := Nat × Heap) (fi := []) (ca := []) (PreK (UnY h s b1 b2 b3 rd b4 b5)) (TK (fun j => j = b2 ∨ j = b3 ∨ j = rd) (UnY h s b1 b2 b3 rd b4 b5)) (fun _ H c => UnZ h s b2 b3 H c) (fun H => UnY h s b1 b2 b3 rd b4 b5 13 H) (fun H c => UnZ h s b2 b3 H c) rfl (fun k e => e) (fun _ _ l => l) rfl ?_ ?_ ?_ ?_ ?_
 ·
  rintro i H args ⟨rfl, _⟩; rfl
 ·
  intro C1 y hq ys
  exact qhG C1 hq y H7 (t.ext y0.ext) (fun j => j = b2 ∨ j = b3 ∨ j = rd) (by rintro j (rfl | rfl | rfl) <;> assumption) _ _ (fun i H H' hY hx _ => hY.grow hx) ys y0
 ·
  rintro Ca Cb y ⟨i, H⟩ H' args ⟨rfl, hi, hY, rfl, wfH⟩
  replace hi : i < 13 := hi
  replace hY : UnY h s b1 b2 b3 rd b4 b5 i H := hY
  replace wfH : WF H := wfH
  show XWp Ca _ _ _ _ (setPs _ [.int .i64 ((i : Nat) + 1), str (kword ((i : Nat) + 1))] _) H none
  obtain ⟨rest, hrd, hst⟩ := hY.st
  by_cases hk : kword ((i : Int) + 1) = (cutS s).1
  ·
   obtain rfl : rest = (cutS s).2 := by
    rcases hst with ⟨_, h2⟩ | ⟨⟨j, h1, h2, h3⟩, _⟩
    ·
     exact h2
    ·
     exact absurd (kword_inj' h2 hi (h3.trans hk.symm)) (by omega)
   have hun := unline_at hi hk
   have rr : Rdr H rd (cutS s).2 H := ⟨by rw [qdC hrd]; exact Ext.refl H, wfH, wfH, wfH.lt hrd, U.r8, Nat.le_refl _, t.ext hY.ext⟩
   have hcl := (qbw s).2
   repeat (first | refine XL.nil ?_ | refine XWp.seq ?_ | refine XWp.region ?_ | refine XWp.condF rfl ?_ | refine XWp.block ?_ | refine XWp.skip ?_ | refine XL.set rfl rfl rfl (qac rfl ?_) | refine XL.set rfl rfl rfl (qai rfl ?_) | refine XL.set rfl rfl rfl (qad rfl ?_) | refine XL.set rfl rfl rfl (qag rfl ?_) | refine XL.set rfl rfl rfl (qaf rfl rfl hY.g5 rfl ?_) | refine XL.set rfl rfl rfl (qbY rfl rfl hk ?_) | refine XL.set rfl rfl rfl (qaf rfl rfl hY.g4 rfl ?_))
   refine XL.set rfl rfl rfl (qar (evs := [ptr rd, .int .i64 ((i : Nat) + 1)]) rfl rfl ((read_c ((i : Int) + 1) (by omega) rr (by omega)).mono ?_))
   rintro _ H1' ⟨q, s', rfl, ⟨⟨B, hO⟩, hlen⟩, r1⟩
   generalize readS ((i : Int) + 1) (cutS s).2 = a at hun hO hlen ⊢
   have oneA := qaF (hO.r hlen)
   refine XL.set rfl rfl rfl (qaw ?_)
   refine XL.eff rfl rfl (qaE (vs := actC q a) rfl rfl rfl rfl oneA ?_)
   have g8 := Heap.alloc_new H1' ⟨actC q a, 40, true⟩
   have x8 := r1.wf.ext ⟨actC q a, 40, true⟩
   have n8 : H1'.next ≠ b2 := fun e => by have := wfH.lt hY.g2; have := r1.nx; omega
   have n83 : H1'.next ≠ b3 := fun e => by have := wfH.lt hY.g3; have := r1.nx; omega
   generalize H1'.alloc ⟨actC q a, 40, true⟩ = H8 at g8 x8 ⊢
   have k8 : ∀ j b, H.get j = some b → j ≠ rd → H8.get j = some b := fun j b e n => x8.c _ _ (r1.ext.c _ _ ((Heap.set_other n).trans e))
   have xh8 : Ext h H8 := (wf.ext_set hY.ext U.nr _).trans (r1.ext.trans x8)
   have o8 := hO.elem (h' := H8) (fun j b e _ => x8.c _ _ e) (fun j b e _ => x8.c _ _ e)
   have cl := qht q a H8 (t.ext xh8) (o8.r hlen)
   have y1 := k8 _ _ hY.g1 U.d1r
   have back : unlineP s = none → UnY h s b1 b2 b3 rd b4 b5 (i + 1) H8 ∧ Kp (fun j => j = b2 ∨ j = b3 ∨ j = rd) H H8 := fun hn => ⟨⟨xh8, y1, k8 _ _ hY.g2 U.d2r, k8 _ _ hY.g3 U.d3r, k8 _ _ hY.g4 U.d4r, k8 _ _ hY.g5 U.d5r, _, x8.c _ _ r1.box, .inr ⟨⟨i, Nat.lt_succ_self _, hi, hk⟩, hn⟩⟩,
    ⟨fun j b e no => k8 j b e fun e2 => no (.inr (.inr e2)), fun j b e _ => x8.o _ _ (r1.ext.o _ _ e)⟩⟩
   cases hm : mayAct 5 5 a with
   | false =>
    rw [show lineV a = .tuple #[str [], .int .i64 2] by unfold lineV; rw [hm]; rfl] at cl
    repeat (first | refine XL.nil ?_ | refine XL.skip rfl rfl ?_ | refine XWp.seq ?_ | refine XWp.region ?_ | refine XWp.condF rfl ?_ | refine XWp.skip ?_ | refine XL.set rfl rfl rfl (qac rfl ?_) | refine XL.set rfl rfl rfl (qae rfl ?_) | refine XL.set rfl rfl rfl (qaH rfl ?_) | refine XL.set rfl rfl rfl (qad rfl ?_) | refine XL.set rfl rfl rfl (qag rfl ?_) | refine XL.set rfl rfl rfl (qaj (sz := 33) rfl rfl g8 (Nat.le_refl _) ?_) | refine XL.set rfl rfl rfl (qab rfl rfl cl ?_) | refine XL.set rfl rfl rfl (qav rfl rfl ?_) | refine XL.set rfl rfl rfl (qak rfl rfl rfl (by omega) ?_) | refine XL.set rfl rfl rfl (qah (v := .bool _) rfl rfl ?_))
    exact back (by rw [hun, if_neg (by rw [hm]; simp)])
   | true =>
    rw [show lineV a = .tuple #[str (lineM a), .int .i64 0] by unfold lineV; rw [hm]; rfl] at cl
    by_cases hls : lineM a = s
    ·
     have hA : unA s = (a, 0) := by unfold unA; rw [hun, if_pos ⟨hm, hls⟩]
     repeat (first | refine XL.nil ?_ | refine XWp.seq ?_ | refine XWp.region ?_ | refine XWp.condT rfl ?_ | refine XL.set rfl rfl rfl (qac rfl ?_) | refine XL.set rfl rfl rfl (qae rfl ?_) | refine XL.set rfl rfl rfl (qai rfl ?_) | refine XL.set rfl rfl rfl (qaH rfl ?_) | refine XL.set rfl rfl rfl (qad rfl ?_) | refine XL.set rfl rfl rfl (qag rfl ?_) | refine XL.set rfl rfl rfl (qaj (sz := 33) rfl rfl g8 (Nat.le_refl _) ?_) | refine XL.set rfl rfl rfl (qab rfl rfl cl ?_) | refine XL.set rfl rfl rfl (qav rfl rfl ?_) | refine XL.set rfl rfl rfl (qam rfl rfl rfl (by omega) ?_) | refine XL.set rfl rfl rfl (qaf rfl rfl y1 rfl ?_) | refine XL.set rfl rfl rfl (qaO rfl rfl hls ?_) | refine XL.set rfl rfl rfl (qah (v := .bool _) rfl rfl ?_))
     have y2 := k8 _ _ hY.g2 U.d2r
     have y3 := k8 _ _ hY.g3 U.d3r
     refine XL.eff rfl rfl (qan (vs := actC q a) rfl rfl rfl oneA y2 rfl ?_)
     have o9 := ActO.put (x := ⟨actC q a, 40, true⟩) o8 y2 (Nat.ne_of_beq_eq_false rfl) (Nat.ne_of_beq_eq_false rfl)
     have z2 := Heap.set_at H8 b2 ⟨actC q a, 40, true⟩
     have z3 : (H8.set b2 ⟨actC q a, 40, true⟩).get b3 = some (cellS 48 (.int .i64 0)) := (Heap.set_other (Ne.symm U.d23)).trans y3
     have xz := wf.ext_set xh8 U.n2 ⟨actC q a, 40, true⟩
     generalize H8.set b2 ⟨actC q a, 40, true⟩ = H9 at o9 z2 z3 xz ⊢
     refine XL.eff rfl rfl (qau (v := .int .i64 0) rfl rfl rfl z3 rfl (Nat.zero_lt_one) ?_)
     refine XL.heap (h := H9.set b3 (cellS 48 (.int .i64 0))) rfl ?_
     have oA := ActO.put (x := cellS 48 (.int .i64 0)) o9 z3 (Nat.ne_of_beq_eq_false rfl) (Nat.ne_of_beq_eq_false rfl)
     repeat (first | refine XL.nil ?_ | refine XWp.ret ?_)
     exact ⟨rfl, wf.ext_set xz U.n3 _, by rw [hA], ⟨q, by rw [hA]; exact (Heap.set_other U.d23).trans z2, by rw [hA]; exact ⟨⟨_, oA⟩, hlen⟩⟩, Heap.set_at _ _ _⟩
    ·
     repeat (first | refine XL.nil ?_ | refine XWp.seq ?_ | refine XWp.region ?_ | refine XWp.condF rfl ?_ | refine XWp.skip ?_ | refine XL.set rfl rfl rfl (qac rfl ?_) | refine XL.set rfl rfl rfl (qae rfl ?_) | refine XL.set rfl rfl rfl (qai rfl ?_) | refine XL.set rfl rfl rfl (qaH rfl ?_) | refine XL.set rfl rfl rfl (qad rfl ?_) | refine XL.set rfl rfl rfl (qag rfl ?_) | refine XL.set rfl rfl rfl (qaj (sz := 33) rfl rfl g8 (Nat.le_refl _) ?_) | refine XL.set rfl rfl rfl (qab rfl rfl cl ?_) | refine XL.set rfl rfl rfl (qav rfl rfl ?_) | refine XL.set rfl rfl rfl (qam rfl rfl rfl (by omega) ?_) | refine XL.set rfl rfl rfl (qaf rfl rfl y1 rfl ?_) | refine XL.set rfl rfl rfl (qaK rfl rfl hls ?_) | refine XL.set rfl rfl rfl (qah (v := .bool _) rfl rfl ?_))
     exact back (by rw [hun, if_neg (fun e => hls e.2)])
  ·
   repeat (first | refine XL.nil ?_ | refine XWp.seq ?_ | refine XWp.region ?_ | refine XWp.condT rfl ?_ | refine XWp.exit ?_ | refine XWp.block ?_ | refine XL.set rfl rfl rfl (qai rfl ?_) | refine XL.set rfl rfl rfl (qad rfl ?_) | refine XL.set rfl rfl rfl (qag rfl ?_) | refine XL.set rfl rfl rfl (qaf rfl rfl hY.g5 rfl ?_) | refine XL.set rfl rfl rfl (qbv rfl rfl hk ?_))
   refine ⟨⟨hY.ext, hY.g1, hY.g2, hY.g3, hY.g4, hY.g5, rest, hrd, ?_⟩, Kp.refl _ _⟩
   rcases hst with ⟨h1, h2⟩ | ⟨⟨j, h1, h2, h3⟩, h4⟩
   ·
    refine .inl ⟨fun j hj => ?_, h2⟩
    by_cases hji : j < i
    ·
     exact h1 j hji
    ·
     obtain rfl : j = i := by
      have : j < i + 1 := hj
      omega
     exact hk
   ·
    exact .inr ⟨⟨j, by show j < i + 1; omega, h2, h3⟩, h4⟩
 ·
  rintro H hn hY
  refine XWp.wf fun wfH => ?_
  have hu : unlineP s = none := by
   obtain ⟨rest, _, ⟨h1, _⟩ | ⟨_, h4⟩⟩ := hY.st
   ·
    exact unline_no h1
   ·
    exact h4
  have hA : unA s = (act0, 4) := by unfold unA; rw [hu]
  rw [hA]
  repeat (first | refine XWp.seq ?_ | refine XWp.region ?_ | refine XL.set rfl rfl rfl (qax (out := actC actV0 act0) rfl rfl ?_))
  refine XL.eff rfl rfl (qan (vs := actC actV0 act0) rfl rfl rfl rfl hY.g2 rfl ?_)
  have g3' : (H.set b2 ⟨actC actV0 act0, 40, true⟩).get b3 = some (cellS 48 (.int .i64 0)) := (Heap.set_other (Ne.symm U.d23)).trans hY.g3
  refine XL.eff rfl rfl (qau (v := .int .i64 4) rfl rfl rfl g3' rfl (Nat.zero_lt_one) ?_)
  refine XL.heap (h := (H.set b2 ⟨actC actV0 act0, 40, true⟩).set b3 (cellS 48 (.int .i64 4))) rfl ?_
  have ga : ((H.set b2 ⟨actC actV0 act0, 40, true⟩).set b3 (cellS 48 (.int .i64 4))).get b2 = some ⟨actC actV0 act0, 40, true⟩ := (Heap.set_other U.d23).trans (Heap.set_at _ _ _)
  have gb : ((H.set b2 ⟨actC actV0 act0, 40, true⟩).set b3 (cellS 48 (.int .i64 4))).get b3 = some (cellS 48 (.int .i64 4)) := Heap.set_at _ _ _
  have xe : Ext h ((H.set b2 ⟨actC actV0 act0, 40, true⟩).set b3 (cellS 48 (.int .i64 4))) := wf.ext_set (wf.ext_set hY.ext U.n2 _) U.n3 _
  repeat (first | refine XL.nil ?_ | refine XWp.ret ?_)
  exact ⟨_, ResV.cellAC rfl rfl rfl ga (Nat.le_refl _) rfl rfl gb rfl, actV0, rfl, ⟨⟨0, ActO.nil _ _ _ rfl rfl rfl⟩, Nat.zero_le _⟩, xe⟩
 ·
  rintro H j hn ⟨rfl, hx, he, ⟨q, hg, hO, hl2⟩, hg3⟩
  repeat (first | refine XWp.ret ?_)
  exact ⟨_, ResV.cellAC rfl rfl rfl hg (Nat.le_refl _) rfl rfl hg3 rfl, q, by rw [he]; rfl, ⟨hO, hl2⟩, hx⟩
end Go.Proofs.YtigmojilaadbhaaGreatDoor
/- . -/
namespace Go.Proofs.YtigmojilaadbhaaGreatDoor
open Go Go.Eng Go.Pln Go.Lib
attribute [local irreducible] AWp AL DAL AOp
end Go.Proofs.YtigmojilaadbhaaGreatDoor
/- . -/
namespace Go.Proofs.YtigmojilaadbhaaGreatDoor
open Go Go.Eng Go.Pln Go.Lib
attribute [local irreducible] AWp AL DAL AOp TAL
instance i_group : FnC Tryz.prog 71 := ⟨Tryz.f71, Tryz.func71, by kernel_rfl, by kernel_rfl⟩
theorem groupL_len {l : List Int} (hi : ∀ n ∈ l, I64 n) (hl : l.length ≤ 1000) : (groupL l).length ≤ 2000000 := by
 have := qbO 30 (wGroup :: l.map itoa) (by
  intro w hw
  rcases List.mem_cons.1 hw with rfl | hw
  ·
   decide
  ·
   obtain ⟨n, hn, rfl⟩ := List.mem_map.1 hw
   have := qbs (hi n hn).1 (hi n hn).2
   omega)
 simp only [List.length_cons, List.length_map] at this
 have h2 := Nat.mul_le_mul_right (30 + 1) (show l.length + 1 ≤ 1001 by omega)
 unfold groupL
 omega
theorem group_c (v : Value) (l : List Int) (h : Heap) (t : Tabs h) (r : RS h v (iv64 l)) (hi : ∀ n ∈ l, I64 n) (hl : l.length ≤ 1000) : ACalls Tryz.prog 71 [v] h fun u h' => u = str (groupL l) ∧ h' = h := by
 refine ACalls.wf fun wf => ACalls.reset ?_
 refine ACalls.body Tryz.func71 rfl rfl ?_
 obtain ⟨va, vc, hv⟩ := RS.slice r
 have hml : (iv64 l).length = l.length := List.length_map _
 repeat (first | refine W.w ?_ | (refine zz rfl ?_; first | refine qac rfl ?_ | refine qag rfl ?_ | refine qal (v := v) rfl ?_ | refine qaS r rfl ?_))
 refine AWp.loop (α := Nat × Heap) (fun d => [(3, str (groupL (l.take d.1))), (6, v), (7, .int .i64 ((iv64 l).length : Nat)), (8, .int .i64 (d.1 : Nat))]) (fun d => d.2) (fun d => d.1 ≤ l.length ∧ Ext h d.2 ∧ WF d.2) (fun d => l.length - d.1) (0, h) ⟨Nat.zero_le _, Ext.refl h, wf⟩
  (Weak.same (EW.cons rfl (EW.cons rfl (EW.cons rfl (EW.cons rfl EW.nil))))) ?_
 rintro ⟨k, H⟩ ⟨hk, hx, wfH⟩
 replace hk : k ≤ l.length := hk
 replace hx : Ext h H := hx
 replace wfH : WF H := wfH
 show AWp _ _ _ _ [(3, str (groupL (l.take k))), (6, v), (7, .int .i64 ((iv64 l).length : Nat)), (8, .int .i64 (k : Nat))] H
 by_cases hlt : k < l.length
 ·
  obtain ⟨n, hn⟩ : ∃ n, l[k]? = some n := ⟨_, List.getElem?_eq_getElem hlt⟩
  have hx2 : (iv64 l)[((k : Nat) : Int).toNat]? = some (.int .i64 n) := by
   show (l.map _)[k]? = _
   rw [List.getElem?_map, hn]
   rfl
  have hI := hi n (List.mem_of_getElem? hn)
  have hg := groupL_len (l := l.take k) (fun m hm => hi m (List.mem_of_mem_take hm)) (by rw [List.length_take]; omega)
  have ct := qbu [.txt (groupL (l.take k)), .num n] H 2 rfl wfH (t.ext hx) ⟨⟨trivial, hg⟩, ⟨hI, trivial⟩, trivial⟩ (by show 2 ≤ 1000; omega)
  repeat (first | refine W.w ?_ | refine AWp.c8 rfl ?_ | refine zz rfl (qam rfl rfl rfl (by omega) ?_) | refine zz rfl (qbg (r.ext hx) rfl rfl (by omega) hx2 ?_))
  intro p hp
  repeat (first | refine W.w ?_ | (refine zz rfl ?_; first | refine qac rfl ?_ | refine qai rfl ?_ | refine qad rfl ?_ | refine qag rfl ?_ | refine qat hp rfl rfl ?_ | refine qba rfl rfl ?_ | refine qaN (([.txt (groupL (l.take k)), .num n] : List WArg).map argV) rfl rfl rfl rfl (qa2 _) ?_ | refine qab rfl rfl ct ?_ | refine qas rfl rfl (by omega) ?_))
  refine ⟨(k + 1, H.alloc (rowA [.txt (groupL (l.take k)), .num n])), ⟨hlt, hx.trans (wfH.ext _), wfH.alloc _⟩, by show l.length - (k + 1) < l.length - k; omega, Weak.same (EW.cons ?_ (EW.cons rfl (EW.cons rfl (EW.cons rfl EW.nil))))⟩
  show str (joinW [groupL (l.take k), itoa n]) = str (groupL (l.take (k + 1)))
  unfold groupL
  rw [qbT hn, qeM (by simp)]
  rfl
 ·
  obtain rfl : k = l.length := by omega
  rw [List.take_length]
  repeat (first | refine AL.nil ?_ | refine AWp.seq ?_ | refine AWp.r9 ?_ | refine AWp.c9 rfl ?_ | refine AWp.ret ?_ | refine AWp.exit ?_ | (refine zz rfl ?_; first | refine qai rfl ?_ | refine qag rfl ?_ | refine qak rfl rfl rfl (by omega) ?_))
  exact ⟨_, ResV.tmp rfl, rfl, hx, rfl, rfl⟩
def headV (x : SetM) : Value := if maySet x then .tuple #[str (catN (headsM x)), .int .i64 0] else .tuple #[str [], .int .i64 2]
instance i_members : FnC Tryz.prog 108 := ⟨Tryz.f108, Tryz.func108, by kernel_rfl, by kernel_rfl⟩
theorem qcX (w : Bytes) : I64 (numP w) := by
 unfold numP
 split
 ·
  rename_i n hn
  have := qeG hn
  split
  ·
   exact this
  ·
   exact ⟨by omega, by omega⟩
 ·
  exact ⟨by omega, by omega⟩
theorem iv64_app (l : List Int) (n : Int) : iv64 l ++ [Value.int .i64 n] = iv64 (l ++ [n]) := by simp
structure MbI (H1 : Heap) (rd : Nat) (s rest : Bytes) (acc : List Int) (H : Heap) (u : Value) : Prop where
 r : Rdr H1 rd rest H
 eq : membersV 4 s = acc ++ membersV (4 - acc.length) rest
 le : acc.length ≤ 4
 os : OS H1.next H 3 u (iv64 acc)
 num : ∀ n ∈ acc, I64 n
 len : rest.length ≤ s.length
theorem members_c (s : Bytes) (h : Heap) (t : Tabs h) (h8 : 8 ≤ h.next) (hl : s.length ≤ 1000000000) : ACalls Tryz.prog 108 [str s] h fun u h' => ∃ v, u = .tuple #[v, .bool (membersP s).2] ∧ OS h.next h' 3 v (iv64 (membersP s).1) ∧ Ext h h' := by
 refine ACalls.wf fun wf => ?_
 refine ACalls.body Tryz.func108 rfl rfl ?_
 repeat (first | refine W.w ?_ | (refine zz rfl ?_; first | refine qai rfl ?_ | refine qaZ rfl ?_ | refine qaa rfl ?_ | refine qax (out := [str s]) rfl rfl ?_))
 refine zz rfl (qaV (v := .agg #[str s]) rfl (by intro e; cases e) ?_)
 refine AL.heap (h := h.alloc (rdB s)) rfl ?_
 generalize hH : h.alloc (rdB s) = H1
 have gr : H1.get h.next = some (rdB s) := hH ▸ Heap.alloc_new _ _
 have x1 : Ext h H1 := hH ▸ wf.ext _
 have w1 : WF H1 := hH ▸ wf.alloc _
 have n1 : h.next < H1.next := w1.lt gr
 clear hH
 have r1 : Rdr H1 h.next s H1 := ⟨by rw [qdC gr]; exact Ext.refl H1, w1, w1, n1, h8, Nat.le_refl _, t.ext x1⟩
 have xb : ∀ b, Ext h (H1.set h.next b) := fun b => wf.ext_set x1 (Nat.le_refl _) b
 generalize h.next = rd at gr n1 h8 r1 xb ⊢
 repeat (first | refine W.w ?_ | refine zz rfl (qay rfl ?_) | refine zz rfl (qcy rfl ?_))
 refine zz rfl (qar (evs := [ptr rd]) rfl rfl ((qcV r1 hl).mono ?_))
 rintro _ H2 ⟨rfl, hH2⟩
 have r2 : Rdr H1 rd (cutS s).2 H2 := hH2 ▸ r1.set _
 clear hH2
 have hcl := (qbw s).2
 have hmp : membersP s = (membersV 4 (cutS s).2, decide (groupL (membersV 4 (cutS s).2) = s)) := rfl
 rw [hmp]
 generalize (cutS s).2 = s1 at r2 hcl ⊢
 repeat (first | refine W.w ?_ | refine zz rfl (qaZ rfl ?_))
 refine AWp.loop (α := Bytes × List Int × Heap × Value) (fun d => [(0, str s), (4, ptr rd), (5, d.2.2.2)]) (fun d => d.2.2.1) (fun d => MbI H1 rd s1 d.1 d.2.1 d.2.2.1 d.2.2.2) (fun d => d.1.length) (s1, [], H2, .slice none 0 0) ⟨r2, rfl, Nat.zero_le _, OS.nil _ _ _, (fun n hn => by cases hn), Nat.le_refl _⟩
  (Weak.same (EW.cons rfl (EW.cons rfl (EW.cons rfl EW.nil)))) ?_
 rintro ⟨rest, acc, H, u⟩ k
 replace k : MbI H1 rd s1 rest acc H u := k
 show AWp _ _ _ _ [(0, str s), (4, ptr rd), (5, u)] H
 obtain ⟨kr, ke, kl, ko, kn, kq⟩ := k
 have hb := kr.box
 obtain ⟨ua, uc, hu⟩ := RS.slice ko.rs
 have hml : (iv64 acc).length = acc.length := List.length_map _
 have xH : Ext h H := (xb _).trans kr.ext
 have cg := group_c u acc H kr.tabs ko.rs kn (by omega)
 have fin : membersV 4 s1 = acc → ∀ b, b = decide (groupL acc = s) → ∃ v, Value.tuple #[u, .bool b] = .tuple #[v, .bool (decide (groupL (membersV 4 s1) = s))] ∧ OS rd H 3 v (iv64 (membersV 4 s1)) ∧ Ext h H := fun e b hb => by
  rw [e, hb]
  exact ⟨u, rfl, OS.low ko (Nat.le_of_lt n1), xH⟩
 by_cases h1 : rest = []
 ·
  have e0 : membersV 4 s1 = acc := by
   rw [ke, h1]
   cases 4 - acc.length <;> simp [membersV]
  by_cases hg : groupL acc = s
  ·
   repeat (first | refine AL.nil ?_ | refine AL.skip rfl rfl ?_ | refine AWp.seq ?_ | refine AWp.r9 ?_ | refine AWp.c9 rfl ?_ | refine AWp.ret ?_ | refine AWp.exit ?_ | (refine zz rfl ?_; first | refine qae rfl ?_ | refine qay rfl ?_ | refine qai rfl ?_ | refine qaa rfl ?_ | refine qaC rfl ?_ | refine qao rfl ?_ | refine qaf rfl rfl hb rfl ?_ | refine qbY (a := rest) (b := []) rfl rfl h1 ?_ | refine qah (v := .bool _) rfl rfl ?_ | refine qal (v := u) rfl ?_ | refine qaq (v := u) rfl ?_ | refine qab rfl rfl cg ?_ | refine qaO rfl rfl hg ?_))
   exact ⟨_, ResV.tmp2 rfl, fin e0 _ (decide_eq_true hg).symm⟩
  ·
   repeat (first | refine AL.nil ?_ | refine AL.skip rfl rfl ?_ | refine AWp.seq ?_ | refine AWp.r9 ?_ | refine AWp.c9 rfl ?_ | refine AWp.ret ?_ | refine AWp.exit ?_ | (refine zz rfl ?_; first | refine qae rfl ?_ | refine qay rfl ?_ | refine qai rfl ?_ | refine qaa rfl ?_ | refine qaC rfl ?_ | refine qao rfl ?_ | refine qaf rfl rfl hb rfl ?_ | refine qbY (a := rest) (b := []) rfl rfl h1 ?_ | refine qah (v := .bool _) rfl rfl ?_ | refine qal (v := u) rfl ?_ | refine qaq (v := u) rfl ?_ | refine qab rfl rfl cg ?_ | refine qaK rfl rfl hg ?_))
   exact ⟨_, ResV.tmp2 rfl, fin e0 _ (decide_eq_false hg).symm⟩
 ·
  by_cases h2 : acc.length ≤ 3
  ·
   repeat (first | refine W.w ?_ | refine AWp.c8 rfl ?_ | (refine zz rfl ?_; first | refine qae rfl ?_ | refine qay rfl ?_ | refine qaC rfl ?_ | refine qao rfl ?_ | refine qaf rfl rfl hb rfl ?_ | refine qbv (a := rest) (b := []) rfl rfl h1 ?_ | refine qah (v := .bool _) rfl rfl ?_ | refine qal (v := u) rfl ?_ | refine qaS ko.rs rfl ?_ | refine qam rfl rfl rfl (by omega) ?_))
   refine zz rfl (qar (evs := [ptr rd]) rfl rfl ((qbl kr (by omega)).mono ?_))
   rintro _ H3 ⟨rfl, hH3⟩
   have r3 : Rdr H1 rd (numS rest).2 H3 := hH3 ▸ kr.set _
   have x3 : Ext (H.set rd (rdB (numS rest).2)) H3 := hH3 ▸ Ext.refl _
   have o3 := OS.over ko (by omega) x3
   have hc2 := cutS_lt h1
   have hc3 : (numS rest).2.length < rest.length := hc2
   clear hH3
   repeat (first | refine zz rfl (qaN [.int .i64 (numS rest).1] rfl rfl rfl rfl (by intro w hw; rw [List.mem_singleton.1 hw]; rfl) ?_))
   obtain ⟨H4, hQ, gq, xr, wr, _⟩ := aq r3.wf ⟨[.int .i64 (numS rest).1], 3, true⟩
   rw [hQ]
   have r4 := r3.grow xr wr (by have := wr.lt gq; omega)
   have o4 := o3.ext xr
   have rn : RS H4 (.slice (some ⟨H3.next, 0, some 1⟩) 1 1) [.int .i64 (numS rest).1] := RS.own gq rfl
   refine zz rfl (qa6 (by_ := 8) (z := .int .i64 0) (B := H1.next) (e := 3) rfl wr r4.nx o4 rfl rfl rn.src rfl rfl (by rw [hml]; simp only [maxLen, List.length_cons, List.length_nil]; omega) (by rw [hml]; simp only [List.length_cons, List.length_nil]; omega) ?_)
   intro u' H5 o5 k5 wf5 n5
   rw [iv64_app] at o5
   have r5 : Rdr H1 rd (numS rest).2 H5 := ⟨k5.ext o4 (w1.set n1 _) (Nat.le_refl _) r4.ext, wf5, w1, n1, h8, by have := r4.nx; omega, t.ext x1⟩
   repeat (first | refine AL.nil ?_ | refine zz rfl (qaq (v := u') rfl ?_))
   refine ⟨((numS rest).2, acc ++ [(numS rest).1], H5, u'), ⟨r5, ?_, by simp only [List.length_append, List.length_cons, List.length_nil]; omega, o5, ?_, by show (numS rest).2.length ≤ s1.length; omega⟩, hc3, Weak.same (EW.cons rfl (EW.cons rfl (EW.cons rfl EW.nil)))⟩
   ·
    show membersV 4 s1 = (acc ++ [(numS rest).1]) ++ membersV (4 - (acc ++ [(numS rest).1]).length) (numS rest).2
    rw [ke, List.length_append, show 4 - acc.length = (4 - (acc.length + [(numS rest).1].length)) + 1 by simp only [List.length_cons, List.length_nil]; omega, membersV, if_neg h1]
    simp
   ·
    intro n hn
    rcases List.mem_append.1 hn with hn | hn
    ·
     exact kn n hn
    ·
     rw [List.mem_singleton.1 hn]
     exact qcX _
  ·
   have e0 : membersV 4 s1 = acc := by rw [ke, show 4 - acc.length = 0 by omega, membersV, List.append_nil]
   by_cases hg : groupL acc = s
   ·
    repeat (first | refine AL.nil ?_ | refine AWp.seq ?_ | refine AWp.r9 ?_ | refine AWp.c9 rfl ?_ | refine AWp.ret ?_ | refine AWp.exit ?_ | (refine zz rfl ?_; first | refine qae rfl ?_ | refine qay rfl ?_ | refine qai rfl ?_ | refine qaa rfl ?_ | refine qaC rfl ?_ | refine qao rfl ?_ | refine qaf rfl rfl hb rfl ?_ | refine qbv (a := rest) (b := []) rfl rfl h1 ?_ | refine qah (v := .bool _) rfl rfl ?_ | refine qal (v := u) rfl ?_ | refine qaq (v := u) rfl ?_ | refine qaS ko.rs rfl ?_ | refine qak rfl rfl rfl (by omega) ?_ | refine qab rfl rfl cg ?_ | refine qaO rfl rfl hg ?_))
    exact ⟨_, ResV.tmp2 rfl, fin e0 _ (decide_eq_true hg).symm⟩
   ·
    repeat (first | refine AL.nil ?_ | refine AWp.seq ?_ | refine AWp.r9 ?_ | refine AWp.c9 rfl ?_ | refine AWp.ret ?_ | refine AWp.exit ?_ | (refine zz rfl ?_; first | refine qae rfl ?_ | refine qay rfl ?_ | refine qai rfl ?_ | refine qaa rfl ?_ | refine qaC rfl ?_ | refine qao rfl ?_ | refine qaf rfl rfl hb rfl ?_ | refine qbv (a := rest) (b := []) rfl rfl h1 ?_ | refine qah (v := .bool _) rfl rfl ?_ | refine qal (v := u) rfl ?_ | refine qaq (v := u) rfl ?_ | refine qaS ko.rs rfl ?_ | refine qak rfl rfl rfl (by omega) ?_ | refine qab rfl rfl cg ?_ | refine qaK rfl rfl hg ?_))
    exact ⟨_, ResV.tmp2 rfl, fin e0 _ (decide_eq_false hg).symm⟩
instance i_first : FnC Tryz.prog 60 := ⟨Tryz.f60, Tryz.func60, by kernel_rfl, by kernel_rfl⟩
instance i_StD_api_Setup : StD Tryz.prog 24 [(0, 1), (1, 1), (2, 1), (3, 1), (4, 1)] := ⟨_, Tryz.underlying24, by kernel_rfl⟩
abbrev nilS : Value := .slice none 0 0
abbrev setB (x : SetM) : Blk := ⟨setC nilS x, 24, true⟩
theorem first_c (s : Bytes) (h : Heap) (t : Tabs h) (h8 : 8 ≤ h.next) (hl : s.length ≤ 1000000000) : ACalls Tryz.prog 60 [str s] h fun u h' => u = .tuple #[.agg (setC nilS (firstP s).1).toArray, .bool (firstP s).2] ∧ Ext h h' := by
 refine ACalls.wf fun wf => ?_
 refine ACalls.body Tryz.func60 rfl rfl ?_
 repeat (first | refine W.w ?_)
 refine zz rfl (qaw ?_)
 refine AL.heap (h := h.alloc (setB set0)) rfl ?_
 generalize hH : h.alloc (setB set0) = H0
 have g0 : H0.get h.next = some (setB set0) := hH ▸ Heap.alloc_new _ _
 have x0 : Ext h H0 := hH ▸ wf.ext _
 have w0 : WF H0 := hH ▸ wf.alloc _
 have n0' : h.next < H0.next := w0.lt g0
 clear hH
 repeat (first | refine W.w ?_ | (refine zz rfl ?_; first | refine qai rfl ?_ | refine qaa rfl ?_ | refine qax (out := [str s]) rfl rfl ?_))
 refine zz rfl (qaV (v := .agg #[str s]) rfl (by intro e; cases e) ?_)
 refine AL.heap (h := H0.alloc (rdB s)) rfl ?_
 generalize hH : H0.alloc (rdB s) = H1
 have gr : H1.get H0.next = some (rdB s) := hH ▸ Heap.alloc_new _ _
 have x1 : Ext H0 H1 := hH ▸ w0.ext _
 have w1 : WF H1 := hH ▸ w0.alloc _
 have n1 : H0.next < H1.next := w1.lt gr
 clear hH
 have r1 : Rdr H1 H0.next s H1 := ⟨by rw [qdC gr]; exact Ext.refl H1, w1, w1, n1, by omega, Nat.le_refl _, t.ext (x0.trans x1)⟩
 have g1 := x1.c _ _ g0
 have xb : ∀ b, Ext h (H1.set H0.next b) := fun b => wf.ext_set (x0.trans x1) (by omega) b
 have hne : h.next ≠ H0.next := by omega
 have lr : h.next ≤ H1.next := by omega
 have lx : h.next < H1.next := by omega
 generalize H0.next = rd at gr n1 r1 xb hne ⊢
 repeat (first | refine W.w ?_ | refine zz rfl (qay rfl ?_) | refine zz rfl (qcy rfl ?_))
 refine zz rfl (qar (evs := [ptr rd]) rfl rfl ((qcV r1 hl).mono ?_))
 rintro _ H2 ⟨rfl, hH2⟩
 have r2 : Rdr H1 rd (cutS s).2 H2 := hH2 ▸ r1.set _
 clear hH2
 have hcl := (qbw s).2
 have hfp : firstP s = (firstV (cutS s).2, sizesM (firstV (cutS s).2) && decide (firstL (firstV (cutS s).2) = s)) := rfl
 rw [hfp]
 generalize (cutS s).2 = s1 at r2 hcl ⊢
 have l1 := qcf s1
 have l2 := qcf (numS s1).2
 have l3 := qcf (numS (numS s1).2).2
 repeat (first | refine W.w ?_ | refine zz rfl (qay rfl ?_))
 refine zz rfl (qar (evs := [ptr rd]) rfl rfl ((qbl r2 (by omega)).mono ?_))
 rintro _ H3 ⟨rfl, hH3⟩
 have r3 : Rdr H1 rd (numS s1).2 H3 := hH3 ▸ r2.set _
 clear hH3
 repeat (first | refine zz rfl (qay rfl ?_))
 refine zz rfl (qar (evs := [ptr rd]) rfl rfl ((qbl r3 (by omega)).mono ?_))
 rintro _ H4 ⟨rfl, hH4⟩
 have r4 : Rdr H1 rd (numS (numS s1).2).2 H4 := hH4 ▸ r3.set _
 clear hH4
 repeat (first | refine zz rfl (qay rfl ?_))
 refine zz rfl (qar (evs := [ptr rd]) rfl rfl ((qbl r4 (by omega)).mono ?_))
 rintro _ H5 ⟨rfl, hH5⟩
 have r5 : Rdr H1 rd (numS (numS (numS s1).2).2).2 H5 := hH5 ▸ r4.set _
 clear hH5
 repeat (first | refine zz rfl (qay rfl ?_))
 refine zz rfl (qar (evs := [ptr rd]) rfl rfl ((qbl r5 (by omega)).mono ?_))
 rintro _ H6 ⟨rfl, hH6⟩
 have r6 : Rdr H1 rd (numS (numS (numS (numS s1).2).2).2).2 H6 := hH6 ▸ r5.set _
 clear hH6
 obtain ⟨x, hx⟩ : ∃ x, x = firstV s1 := ⟨_, rfl⟩
 have hI : I64 x.nodes ∧ I64 x.disk ∧ I64 x.memory ∧ I64 x.level := by rw [hx]; exact ⟨qcX _, qcX _, qcX _, qcX _⟩
 rw [← hx]
 repeat (first | refine W.w ?_ | refine zz rfl (qax (out := setC nilS x) rfl (by rw [hx]; rfl) ?_) | refine zz rfl (qaw ?_) | refine AL.eff rfl (qaE (vs := setC nilS x) rfl rfl rfl rfl rfl ?_))
 have g5 := Heap.alloc_new H6 (setB x)
 have x6 := r6.wf.ext (setB x)
 have w6 := r6.wf.alloc (setB x)
 have g2 := x6.c _ _ (r6.ext.c _ _ ((Heap.set_other hne).trans g1))
 have xh := (xb _).trans (r6.ext.trans x6)
 have th := r6.tabs.ext x6
 have nb : h.next < (H6.alloc (setB x)).next := by
  have := r6.nx
  show h.next < H6.next + 1
  omega
 refine AWp.heap (h := H6.alloc (setB x)) rfl ?_
 have nc : h.next ≠ H6.next := by have := r6.nx; omega
 generalize H6.alloc (setB x) = H7 at g5 w6 g2 xh th nb ⊢
 generalize H6.next = b5 at g5 nc ⊢
 have cs := sizes_c x nilS (by intro e; cases e) 
 cases hs : sizesM x with
 | false =>
  rw [hs] at cs
  refine AWp.tree (t := OT.seq [(0, .R), (1, .R), (2, .R), (3, .R), (19, .P), (4, .R), (5, .R), (6, .R), (7, .R), (8, .R), (9, .R), (10, .R), (11, .R), (12, .R), (13, .R), (14, .R), (15, .R), (16, .R), (17, .X), (18, .R), (20, .P), (21, .P), (22, .W), (23, .P)] .nil) mixed (by kernel_rfl) ?_
  repeat' (first | refine TAL.skip rfl rfl rfl ?_ | refine TAL.r rfl rfl rfl (fun h' hx hn => qae rfl ⟨rfl, rfl⟩) ?_ | refine TAL.r rfl rfl rfl (fun h' hx hn => qaj (sz := 5) rfl rfl (hx.c _ _ g5) (Nat.le_refl _) ⟨rfl, rfl⟩) ?_ | refine TAL.r rfl rfl rfl (fun h' hx hn => qab rfl rfl (cs h') ⟨rfl, rfl⟩) ?_ | refine TAL.p rfl rfl rfl (fun h' hn => qah (v := .bool _) rfl rfl ⟨rfl, rfl⟩) ?_)
  refine TAL.w0 rfl rfl (qan (vs := setC nilS x) rfl rfl rfl rfl g2 rfl ?_)
  repeat' (first | refine TAL.nil ?_ | refine TAL.p rfl rfl rfl (fun h' hn => qaa rfl ⟨rfl, rfl⟩) ?_)
  repeat (first | refine AWp.ret ?_)
  exact ⟨_, ResV.cell2 rfl rfl rfl (Heap.set_at _ _ _) (Nat.le_refl _), rfl, wf.ext_set xh (Nat.le_refl _) _⟩
 | true =>
  rw [hs] at cs
  have ct := qgL [.txt wSetup, .num x.nodes, .num x.disk, .num x.memory, .num x.level] H7 5 rfl w6 th ⟨⟨trivial, Nat.le_of_ble_eq_true rfl⟩, ⟨hI.1, trivial⟩, ⟨hI.2.1, trivial⟩, ⟨hI.2.2.1, trivial⟩, ⟨hI.2.2.2, trivial⟩, trivial⟩ (by show 5 ≤ 1000; omega)
  have ct' : ∀ h', Ext (H7.alloc (rowA [.txt wSetup, .num x.nodes, .num x.disk, .num x.memory, .num x.level])) h' → ACalls Tryz.prog 43 [.slice (some ⟨H7.next, 0, some 1⟩) 5 5] h' fun u h'' => u = str (firstL x) ∧ h'' = h' := ct
  refine AWp.tree (t := OT.seq [(0, .R), (1, .R), (2, .R), (3, .R), (19, .P), (4, .R), (5, .R), (6, .R), (7, .R), (8, .R), (9, .R), (10, .R), (11, .R), (12, .R), (13, .R), (14, .R), (15, .R), (16, .R), (17, .X), (18, .R), (20, .P), (21, .P), (22, .W), (23, .P)] .nil) mixed (by kernel_rfl) ?_
  repeat' (first | refine TAL.r rfl rfl rfl (fun h' hx hn => qae rfl ⟨rfl, rfl⟩) ?_ | refine TAL.p rfl rfl rfl (fun h' hn => qai rfl ⟨rfl, rfl⟩) ?_ | refine TAL.r rfl rfl rfl (fun h' hx hn => qaj (sz := 5) rfl rfl (hx.c _ _ g5) (Nat.le_refl _) ⟨rfl, rfl⟩) ?_ | refine TAL.r rfl rfl rfl (fun h' hx hn => qab rfl rfl (cs h') ⟨rfl, rfl⟩) ?_ | refine TAL.r rfl rfl rfl (fun h' hx hn => qao rfl ⟨rfl, rfl⟩) ?_ | refine TAL.r rfl rfl rfl (fun h' hx hn => qaf rfl rfl (hx.c _ _ g5) rfl ⟨rfl, rfl⟩) ?_ | refine TAL.r rfl rfl rfl (fun h' hx hn => qba rfl rfl ⟨rfl, rfl⟩) ?_)
  refine TAL.x rfl rfl rfl (qaN (([.txt wSetup, .num x.nodes, .num x.disk, .num x.memory, .num x.level] : List WArg).map argV) rfl rfl rfl rfl (qa2 _) ⟨w6.ext _, ?_⟩)
  have x8 := w6.ext (rowA [.txt wSetup, .num x.nodes, .num x.disk, .num x.memory, .num x.level])
  have g28 := x8.c _ _ g2
  by_cases he : firstL x = s
  ·
   repeat' (first | refine TAL.r rfl rfl rfl (fun h' hx hn => qab rfl rfl (ct' h' hx) ⟨rfl, rfl⟩) ?_ | refine TAL.p rfl rfl rfl (fun h' hn => qaO rfl rfl he ⟨rfl, rfl⟩) ?_ | refine TAL.p rfl rfl rfl (fun h' hn => qah (v := .bool _) rfl rfl ⟨rfl, rfl⟩) ?_)
   refine TAL.w0 rfl rfl (qan (vs := setC nilS x) rfl rfl rfl rfl g28 rfl ?_)
   repeat' (first | refine TAL.nil ?_ | refine TAL.p rfl rfl rfl (fun h' hn => qaa rfl ⟨rfl, rfl⟩) ?_)
   repeat (first | refine AWp.ret ?_)
   exact ⟨_, ResV.cell2 rfl rfl rfl (Heap.set_at _ _ _) (Nat.le_refl _), by rw [decide_eq_true he]; rfl, wf.ext_set (xh.trans x8) (Nat.le_refl _) _⟩
  ·
   repeat' (first | refine TAL.r rfl rfl rfl (fun h' hx hn => qab rfl rfl (ct' h' hx) ⟨rfl, rfl⟩) ?_ | refine TAL.p rfl rfl rfl (fun h' hn => qaK rfl rfl he ⟨rfl, rfl⟩) ?_ | refine TAL.p rfl rfl rfl (fun h' hn => qah (v := .bool _) rfl rfl ⟨rfl, rfl⟩) ?_)
   refine TAL.w0 rfl rfl (qan (vs := setC nilS x) rfl rfl rfl rfl g28 rfl ?_)
   repeat' (first | refine TAL.nil ?_ | refine TAL.p rfl rfl rfl (fun h' hn => qaa rfl ⟨rfl, rfl⟩) ?_)
   repeat (first | refine AWp.ret ?_)
   exact ⟨_, ResV.cell2 rfl rfl rfl (Heap.set_at _ _ _) (Nat.le_refl _), by rw [decide_eq_false he]; rfl, wf.ext_set (xh.trans x8) (Nat.le_refl _) _⟩
instance i_TyD_api_Script : TyD Tryz.prog 44 (.struct #[fd "Setup" 24 0 "" 0, fd "Acts" 42 5 "" 56]) := ⟨Tryz.underlying44⟩
instance i_TyI_api_Script : TyI Tryz.prog 44 6 80 (.agg #[.int .i64 0, .slice none 0 0, .int .i64 0, .int .i64 0, .int .i64 0, .slice none 0 0]) := ⟨qaT (by kernel_rfl), rfl, rfl⟩
instance qgz : FAd Tryz.prog 44 0 0 := FAd.mk' (ft := 24) Tryz.underlying44 rfl rfl rfl rfl
instance qgA : FAd Tryz.prog 44 1 5 := FAd.mk' (ft := 42) Tryz.underlying44 rfl rfl rfl rfl
structure RA (h : Heap) (v : Value) (l : List ActM) : Prop where
 ex : ∃ rows, RN 33 h v rows ∧ rows.length = l.length ∧ ∀ (k : Nat) row a, rows[k]? = some row → l[k]? = some a → ∃ q, row = actC q a ∧ ActR h q a
 len : l.length ≤ 140737488351232
theorem RA.ext {h h' : Heap} {v : Value} {l : List ActM} (r : RA h v l) (hx : Ext h h') : RA h' v l := by
 obtain ⟨rows, h1, h2, h3⟩ := r.ex
 exact ⟨⟨rows, h1.ext hx, h2, fun k row a e1 e2 => by
  obtain ⟨q, e, hq⟩ := h3 k row a e1 e2
  exact ⟨q, e, hq.ext hx⟩⟩, r.len⟩
def scrC (vg va : Value) (x : SetM) : List Value := [.int .i64 x.nodes, vg, .int .i64 x.disk, .int .i64 x.memory, .int .i64 x.level, va]
abbrev scrB (vg va : Value) (x : SetM) : Blk := ⟨scrC vg va x, 44, true⟩
abbrev chkV (b : Nat) : Value := .func (.func 81) #[] #[ptr b]
def idxM (o : Option Nat) : Int := match o with
 | some i => (i : Int)
 | none => -1
end Go.Proofs.YtigmojilaadbhaaGreatDoor
