/-
  Texts of one claim, merged: 23 parts.
-/
import Derived.Test.YtigmojilaadbhaaGreatDoorMdw
import Derived.Test.YtigmojilaadbhaaGreatDoorMdt
import Derived.Test.YtigmojilaadbhaaGreatDoorMdg
import GoSem.Extern.BytealgCompare
import GoSem.Op.String
import Derived.Test.YtigmojilaadbhaaGreatDoorMds
import Derived.Test.YtigmojilaadbhaaGreatDoorMdv
import Derived.Test.YtigmojilaadbhaaGreatDoorMdu
import Derived.Test.YtigmojilaadbhaaGreatDoorMdh
set_option maxHeartbeats 16000000
/- . -/
namespace Go.Proofs.YtigmojilaadbhaaGreatDoor
open Go Go.Eng Go.Pln Go.Lib
attribute [local irreducible] AWp AL DAL AOp TAL
def RBs (h : Heap) : List Value → List Bytes → Prop
 | [], [] => True
 | v :: vs, l :: ll => RB h v l ∧ RBs h vs ll
 | _, _ => False
theorem RBs.at {h : Heap} : ∀ {vs : List Value} {ll : List Bytes}, RBs h vs ll → vs.length = ll.length ∧ ∀ (k : Nat) x l, vs[k]? = some x → ll[k]? = some l → RB h x l
 | [], [], _ => ⟨rfl, fun k x l hx _ => by simp at hx⟩
 | v :: vs, l :: ll, r => by
  obtain ⟨h1, h2⟩ := RBs.at r.2
  refine ⟨by simp [h1], fun k x m hx hm => ?_⟩
  cases k with
  | zero => simp at hx hm; subst hx hm; exact r.1
  | succ k => simp at hx hm; exact h2 k x m hx hm
theorem RBs.ext {h h' : Heap} (hx : Ext h h') : ∀ {vs : List Value} {ll : List Bytes}, RBs h vs ll → RBs h' vs ll
 | [], [], _ => trivial
 | _ :: _, _ :: _, r => ⟨r.1.ext hx, RBs.ext hx r.2⟩
theorem RBs.ones {h : Heap} : ∀ {vs : List Value} {ll : List Bytes}, RBs h vs ll → ∀ v ∈ vs, oneB v = true
 | [], [], _, v, hv => by cases hv
 | w :: vs, l :: ll, r, v, hv => by
  rcases List.mem_cons.1 hv with rfl | hv
  ·
   exact r.1.one.1
  ·
   exact RBs.ones r.2 v hv
theorem iv_ones (l : List Int) : ∀ v ∈ iv64 l, oneB v = true := by
 intro v hv
 obtain ⟨n, _, rfl⟩ := List.mem_map.1 hv
 rfl
end Go.Proofs.YtigmojilaadbhaaGreatDoor
/- . -/
namespace Go.Pln
open Go Go.Lib
def ordB : Bytes → Bytes → Int
 | [], [] => 0
 | [], _ :: _ => -1
 | _ :: _, [] => 1
 | a :: x, b :: y => if a < b then -1 else if b < a then 1 else ordB x y
def cmpF (a b : Bytes) : Int := match (List.range (min a.length b.length)).find? fun i => a[i]! != b[i]! with
 | some i => if a[i]! < b[i]! then -1 else 1
 | none => if a.length < b.length then -1 else if a.length > b.length then 1 else 0
end Go.Pln
/- . -/
namespace Go.Proofs.YtigmojilaadbhaaGreatDoor
open Go Go.Eng Go.Pln Go.Lib
attribute [local irreducible] AWp AL DAL AOp TAL
def plainA (a : AskM) : Bool := decide (a.to.length = 0 ∧ a.was.length = 0 ∧ a.none = false ∧ a.most = 0)
def mayC (m : CmdM) : Bool := okC m && decide (namedC m = m)
def nodeB (nodes : Int) (a : ActM) : Bool := decide (0 ≤ a.node ∧ a.node < nodes)
def groupB (groups : Int) (a : ActM) : Bool := decide (0 ≤ a.group ∧ a.group < groups)
def clientB (a : ActM) : Bool := decide (1 ≤ a.client ∧ a.client ≤ 4)
def rokA (nodes groups : Int) (a : ActM) : Bool :=
 if a.kind = 1 ∨ a.kind = 2 ∨ a.kind = 6 ∨ a.kind = 7 then nodeB nodes a && groupB groups a
 else if a.kind = 3 ∨ a.kind = 4 ∨ a.kind = 5 then decide (0 ≤ a.n ∧ a.n ≤ 2147483647)
 else if a.kind = 8 ∨ a.kind = 13 then nodeB nodes a
 else if a.kind = 9 then nodeB nodes a && mayC a.cmd && decide (a.cmd.kind = 6 ∨ a.cmd.kind = 7 ∨ a.cmd.kind = 8)
 else if a.kind = 10 then clientB a && nodeB nodes a && groupB groups a && mayAsk a.ask
 else if a.kind = 11 then clientB a && nodeB nodes a && groupB groups a
 else if a.kind = 12 then nodeB nodes a && kp a.keep
 else false
structure UlI (h : Heap) (j4 j6 : Nat) (q : ActV) (a : ActM) (H : Heap) : Prop where
 ext : Ext h H
 wf : WF H
 nx : h.next ≤ H.next
 n4 : h.next ≤ j4
 n6 : h.next ≤ j6
 ne : j4 ≠ j6
 g4 : H.get j4 = some ⟨actC actV0 act0, 40, true⟩
 g6 : H.get j6 = some ⟨actC q a, 40, true⟩
 o : ActO h.next H q a
theorem ActO.ext {B : Nat} {h h' : Heap} {q : ActV} {a : ActM} (o : ActO B h q a) (hx : Ext h h') : ActO B h' q a := o.elem (fun j b hj _ => hx.c j b hj) (fun j b hj _ => hx.c j b hj)
def ulV (s : Bytes) : ActM × Int := match unlineR s with
 | some a => (a, 0)
 | none => (act0, 4)
instance i_rfirst : FnC Tryz.prog 109 := ⟨Tryz.f109, Tryz.func109, by kernel_rfl, by kernel_rfl⟩
def SetI (x : SetM) : Prop := I64 x.nodes ∧ I64 x.disk ∧ I64 x.memory ∧ I64 x.level
theorem qin (x : SetM) (vg : Value) (hx : SetI x) (h : Heap) (t : Tabs h) : ACalls Tryz.prog 109 [.agg (setC vg x).toArray] h fun u h' => u = str (firstL x) ∧ h' = h := by
 obtain ⟨i1, i2, i3, i4⟩ := hx
 refine ACalls.wf fun wf => ACalls.reset ?_
 refine ACalls.body Tryz.func109 rfl rfl ?_
 repeat (first | refine W.w ?_ | refine zz rfl (qah rfl ?_) | refine zz rfl (qaI rfl (by intro e; cases e) ?_))
 generalize hH : h.alloc _ = H
 have hg : H.get h.next = some ⟨setC vg x, 24, true⟩ := hH ▸ Heap.alloc_new _ _
 have xh : Ext h H := hH ▸ wf.ext _
 have wfH : WF H := hH ▸ wf.alloc _
 clear hH
 repeat (first | (refine zz rfl ?_; first | refine qap rfl ?_ | refine qae rfl rfl hg rfl ?_ | refine qa0 (iv64 [x.nodes, x.disk, x.memory, x.level]) rfl rfl rfl rfl (iv_ones _) ?_))
 obtain ⟨H1, hQ, gr, xr, _, _⟩ := aq wfH ⟨iv64 [x.nodes, x.disk, x.memory, x.level], 3, true⟩
 rw [hQ]
 have cN := N_c wSetup (.slice (some ⟨H.next, 0, some 1⟩) 4 4) [x.nodes, x.disk, x.memory, x.level] H1 (RS.own gr rfl) (by intro n hn; simp only [List.mem_cons, List.not_mem_nil, or_false] at hn; rcases hn with rfl | rfl | rfl | rfl <;> assumption) (by show 5 + 22 * 4 ≤ 140737488351232; omega) (t.ext (xh.trans xr))
 repeat (first | refine W.w ?_ | refine zz rfl (qah rfl ?_) | refine zz rfl (qab rfl rfl cN ?_))
 refine ⟨_, ResV.tmp rfl, rfl, xh.trans xr, ?_, rfl⟩
 unfold firstL
 rw [qbp]
 rfl
instance i_rsameSet : FnC Tryz.prog 65 := ⟨Tryz.f65, Tryz.func65, by kernel_rfl, by kernel_rfl⟩
theorem setJ_i {x : SetM} (j : SetJ x) : SetI x := ⟨j.n, j.d, j.m, j.l⟩
theorem rNg_c (v : Value) (l : List Int) (h : Heap) (t : Tabs h) (r : RS h v (iv64 l)) (hi : ∀ n ∈ l, In64 n) (hl : l.length ≤ 100000000000) : ACalls Tryz.prog 50 [str wGroup, v] h fun u h' => u = str (groupL l) ∧ h' = h := by
 have c := N_c wGroup v l h r hi (by show 5 + 22 * l.length ≤ _; omega) t
 rw [show wGroup ++ tailW (l.map itoa) = groupL l by unfold groupL; rw [qbp]] at c
 exact c
theorem rsameSet_c (a b : SetM) (va vb : Value) (h : Heap) (t : Tabs h) (ja : SetJ a) (jb : SetJ b) (ra : RG h va a.groups) (rb : RG h vb b.groups) : ACalls Tryz.prog 65 [.agg (setC va a).toArray, .agg (setC vb b).toArray] h fun u h' => u = .bool (decide (a = b)) ∧ h' = h := by
 refine ACalls.wf fun wf => ACalls.reset ?_
 refine ACalls.body Tryz.func65 rfl rfl ?_
 repeat (first | refine W.w ?_ | refine zz rfl (qaa rfl ?_) | refine zz rfl (qaI rfl (by intro e; cases e) ?_))
 generalize hH : h.alloc _ = H1
 have hg0 : H1.get h.next = some ⟨setC va a, 24, true⟩ := hH ▸ Heap.alloc_new _ _
 have hx1 : Ext h H1 := hH ▸ wf.ext _
 have wf1 : WF H1 := hH ▸ wf.alloc _
 skip
 generalize hH2 : H1.alloc _ = H
 have hg2 : H.get H1.next = some ⟨setC vb b, 24, true⟩ := hH2 ▸ Heap.alloc_new _ _
 have hx2 : Ext H1 H := hH2 ▸ wf1.ext _
 have hg1 : H.get h.next = some ⟨setC va a, 24, true⟩ := hx2.c _ _ hg0
 have xh : Ext h H := hx1.trans hx2
 clear hH hH2
 have tH := t.ext xh
 have fa := fun (G : Heap) (hx : Ext H G) => qin a va (setJ_i ja) G (tH.ext hx)
 have fb := fun (G : Heap) (hx : Ext H G) => qin b vb (setJ_i jb) G (tH.ext hx)
 obtain ⟨ws, q1, q2, q3, q4⟩ := ra.ext xh
 obtain ⟨us, p1, p2, p3, p4⟩ := rb.ext xh
 skip
 by_cases hf : firstL a = firstL b
 ·
  by_cases hl : a.groups.length = b.groups.length
  ·
   refine AWp.drawR mixed (by kernel_rfl) ?_
   repeat (first | refine DAL.r rfl rfl rfl (fun h' hx hn => qag rfl ⟨rfl, rfl⟩) ?_ | refine DAL.r rfl rfl rfl (fun h' hx hn => qaf (sz := 5) rfl rfl (hx.c _ _ hg1) (Nat.le_refl _) ⟨rfl, rfl⟩) ?_ | refine DAL.r rfl rfl rfl (fun h' hx hn => qaf (sz := 5) rfl rfl (hx.c _ _ hg2) (Nat.le_refl _) ⟨rfl, rfl⟩) ?_ | refine DAL.r rfl rfl rfl (fun h' hx hn => qab rfl rfl (fa _ hx) ⟨rfl, rfl⟩) ?_ | refine DAL.r rfl rfl rfl (fun h' hx hn => qab rfl rfl (fb _ hx) ⟨rfl, rfl⟩) ?_ | refine DAL.r rfl rfl rfl (fun h' hx hn => qbJ rfl rfl hf ⟨rfl, rfl⟩) ?_ | refine DAL.r rfl rfl rfl (fun h' hx hn => qap rfl ⟨rfl, rfl⟩) ?_ | refine DAL.r rfl rfl rfl (fun h' hx hn => qae rfl rfl (hx.c _ _ hg1) rfl ⟨rfl, rfl⟩) ?_ | refine DAL.r rfl rfl rfl (fun h' hx hn => qae rfl rfl (hx.c _ _ hg2) rfl ⟨rfl, rfl⟩) ?_ | refine DAL.r rfl rfl rfl (fun h' hx hn => qaE (q1.ext hx) rfl ⟨rfl, rfl⟩) ?_ | refine DAL.r rfl rfl rfl (fun h' hx hn => qaE (p1.ext hx) rfl ⟨rfl, rfl⟩) ?_ | refine DAL.r rfl rfl rfl (fun h' hx hn => qak rfl rfl rfl (by omega) ⟨rfl, rfl⟩) ?_ | refine DAL.r rfl rfl rfl (fun h' hx hn => qai (v := .bool _) rfl rfl ⟨rfl, rfl⟩) ?_)
   refine DAL.nil ?_
   repeat (first | refine W.w ?_ | refine AWp.c9 rfl ?_ | refine zz rfl (qac rfl ?_))
   refine AWp.loop (α := Nat) (fun k => [(2, ptr h.next), (3, ptr H1.next), (4, .bool false), (5, .int .i64 (k : Nat))]) (fun _ => H) (fun k => k ≤ a.groups.length ∧ a.groups.take k = b.groups.take k) (fun k => a.groups.length - k) 0 ⟨Nat.zero_le _, rfl⟩ (Weak.same (EW.cons rfl (EW.cons rfl (EW.cons rfl (EW.cons rfl EW.nil))))) ?_
   rintro k ⟨hk, hta⟩
   by_cases hlt : k < a.groups.length
   ·
    obtain ⟨g1, e1⟩ : ∃ g, a.groups[k]? = some g := ⟨_, List.getElem?_eq_getElem hlt⟩
    obtain ⟨g2, e2⟩ : ∃ g, b.groups[k]? = some g := ⟨_, List.getElem?_eq_getElem (by omega)⟩
    obtain ⟨w1, e3⟩ : ∃ w, ws[k]? = some w := ⟨_, List.getElem?_eq_getElem (by omega)⟩
    obtain ⟨w2, e4⟩ : ∃ w, us[k]? = some w := ⟨_, List.getElem?_eq_getElem (by omega)⟩
    have k1 : ws[((k : Nat) : Int).toNat]? = some w1 := e3
    have k2 : us[((k : Nat) : Int).toNat]? = some w2 := e4
    have o1 := (q4 k w1 g1 e3 e1).1
    have o2 := (p4 k w2 g2 e4 e2).1
    have j1 := ja.g g1 (List.mem_of_getElem? e1)
    have j2 := jb.g g2 (List.mem_of_getElem? e2)
    have c1 := fun (G : Heap) (hx : Ext H G) => rNg_c w1 g1 G (tH.ext hx) (o1.ext hx) j1.1 j1.2
    have c2 := fun (G : Heap) (hx : Ext H G) => rNg_c w2 g2 G (tH.ext hx) (o2.ext hx) j2.1 j2.2
    repeat (first | refine W.w ?_ | refine AWp.c8 rfl ?_ | (refine zz rfl ?_; first | refine qad rfl ?_ | refine qap rfl ?_ | refine qae rfl rfl hg1 rfl ?_ | refine qaE q1 rfl ?_ | refine qaj rfl rfl rfl (by omega) ?_))
    by_cases he : groupL g1 = groupL g2
    ·
     refine AWp.drawR mixed (by kernel_rfl) ?_
     repeat (first | refine DAL.r rfl rfl rfl (fun h' hx hn => qad rfl ⟨rfl, rfl⟩) ?_ | refine DAL.r rfl rfl rfl (fun h' hx hn => qap rfl ⟨rfl, rfl⟩) ?_ | refine DAL.r rfl rfl rfl (fun h' hx hn => qae rfl rfl (hx.c _ _ hg1) rfl ⟨rfl, rfl⟩) ?_ | refine DAL.r rfl rfl rfl (fun h' hx hn => qae rfl rfl (hx.c _ _ hg2) rfl ⟨rfl, rfl⟩) ?_ | refine DAL.r rfl rfl rfl (fun h' hx hn => qa2 (q1.ext hx) rfl rfl (by omega) k1 fun _ => ⟨rfl, rfl⟩) ?_ | refine DAL.r rfl rfl rfl (fun h' hx hn => qa2 (p1.ext hx) rfl rfl (by omega) k2 fun _ => ⟨rfl, rfl⟩) ?_ | refine DAL.r rfl rfl rfl (fun h' hx hn => qaB (PT.of (q1.ext hx) k1) rfl rfl ⟨rfl, rfl⟩) ?_ | refine DAL.r rfl rfl rfl (fun h' hx hn => qaB (PT.of (p1.ext hx) k2) rfl rfl ⟨rfl, rfl⟩) ?_ | refine DAL.r rfl rfl rfl (fun h' hx hn => qab rfl rfl (c1 _ hx) ⟨rfl, rfl⟩) ?_ | refine DAL.r rfl rfl rfl (fun h' hx hn => qab rfl rfl (c2 _ hx) ⟨rfl, rfl⟩) ?_ | refine DAL.r rfl rfl rfl (fun h' hx hn => qbJ rfl rfl he ⟨rfl, rfl⟩) ?_)
     refine DAL.nil ?_
     repeat (first | refine W.w ?_ | refine AWp.c9 rfl ?_ | (refine zz rfl ?_; first | refine qad rfl ?_ | refine qac rfl ?_ | refine qav rfl rfl (by omega) ?_))
     exact ⟨k + 1, ⟨hlt, qgK hta e1 e2 (groupL_inj j1.1 j2.1 he)⟩, by omega, Weak.same (EW.cons rfl (EW.cons rfl (EW.cons rfl (EW.cons rfl EW.nil))))⟩
    ·
     refine AWp.drawR mixed (by kernel_rfl) ?_
     repeat (first | refine DAL.r rfl rfl rfl (fun h' hx hn => qad rfl ⟨rfl, rfl⟩) ?_ | refine DAL.r rfl rfl rfl (fun h' hx hn => qap rfl ⟨rfl, rfl⟩) ?_ | refine DAL.r rfl rfl rfl (fun h' hx hn => qae rfl rfl (hx.c _ _ hg1) rfl ⟨rfl, rfl⟩) ?_ | refine DAL.r rfl rfl rfl (fun h' hx hn => qae rfl rfl (hx.c _ _ hg2) rfl ⟨rfl, rfl⟩) ?_ | refine DAL.r rfl rfl rfl (fun h' hx hn => qa2 (q1.ext hx) rfl rfl (by omega) k1 fun _ => ⟨rfl, rfl⟩) ?_ | refine DAL.r rfl rfl rfl (fun h' hx hn => qa2 (p1.ext hx) rfl rfl (by omega) k2 fun _ => ⟨rfl, rfl⟩) ?_ | refine DAL.r rfl rfl rfl (fun h' hx hn => qaB (PT.of (q1.ext hx) k1) rfl rfl ⟨rfl, rfl⟩) ?_ | refine DAL.r rfl rfl rfl (fun h' hx hn => qaB (PT.of (p1.ext hx) k2) rfl rfl ⟨rfl, rfl⟩) ?_ | refine DAL.r rfl rfl rfl (fun h' hx hn => qab rfl rfl (c1 _ hx) ⟨rfl, rfl⟩) ?_ | refine DAL.r rfl rfl rfl (fun h' hx hn => qab rfl rfl (c2 _ hx) ⟨rfl, rfl⟩) ?_ | refine DAL.r rfl rfl rfl (fun h' hx hn => qbr rfl rfl he ⟨rfl, rfl⟩) ?_)
     refine DAL.nil ?_
     repeat (first | refine W.w ?_ | refine AWp.c8 rfl ?_ | refine zz rfl (qaa rfl ?_))
     refine ⟨_, ResV.tmp rfl, rfl, xh, ?_, rfl⟩
     exact congrArg Value.bool (decide_eq_false (fun e => he (by subst e; rw [e1] at e2; cases e2; rfl))).symm
   ·
    obtain rfl : k = a.groups.length := by omega
    repeat (first | refine AL.nil ?_ | refine AWp.seq ?_ | refine AWp.r9 ?_ | refine AWp.c9 rfl ?_ | refine AWp.ret ?_ | refine AWp.exit ?_ | (refine zz rfl ?_; first | refine qad rfl ?_ | refine qaa rfl ?_ | refine qap rfl ?_ | refine qae rfl rfl hg1 rfl ?_ | refine qaE q1 rfl ?_ | refine qak rfl rfl rfl (by omega) ?_))
    refine ⟨_, ResV.tmp rfl, rfl, xh, ?_, rfl⟩
    rw [List.take_length, hl, List.take_length] at hta
    exact congrArg Value.bool (decide_eq_true ((set_ext hf ja jb hta))).symm
  ·
   refine AWp.drawR mixed (by kernel_rfl) ?_
   repeat (first | refine DAL.r rfl rfl rfl (fun h' hx hn => qag rfl ⟨rfl, rfl⟩) ?_ | refine DAL.r rfl rfl rfl (fun h' hx hn => qaf (sz := 5) rfl rfl (hx.c _ _ hg1) (Nat.le_refl _) ⟨rfl, rfl⟩) ?_ | refine DAL.r rfl rfl rfl (fun h' hx hn => qaf (sz := 5) rfl rfl (hx.c _ _ hg2) (Nat.le_refl _) ⟨rfl, rfl⟩) ?_ | refine DAL.r rfl rfl rfl (fun h' hx hn => qab rfl rfl (fa _ hx) ⟨rfl, rfl⟩) ?_ | refine DAL.r rfl rfl rfl (fun h' hx hn => qab rfl rfl (fb _ hx) ⟨rfl, rfl⟩) ?_ | refine DAL.r rfl rfl rfl (fun h' hx hn => qbJ rfl rfl hf ⟨rfl, rfl⟩) ?_ | refine DAL.r rfl rfl rfl (fun h' hx hn => qap rfl ⟨rfl, rfl⟩) ?_ | refine DAL.r rfl rfl rfl (fun h' hx hn => qae rfl rfl (hx.c _ _ hg1) rfl ⟨rfl, rfl⟩) ?_ | refine DAL.r rfl rfl rfl (fun h' hx hn => qae rfl rfl (hx.c _ _ hg2) rfl ⟨rfl, rfl⟩) ?_ | refine DAL.r rfl rfl rfl (fun h' hx hn => qaE (q1.ext hx) rfl ⟨rfl, rfl⟩) ?_ | refine DAL.r rfl rfl rfl (fun h' hx hn => qaE (p1.ext hx) rfl ⟨rfl, rfl⟩) ?_ | refine DAL.r rfl rfl rfl (fun h' hx hn => qaj rfl rfl rfl (by omega) ⟨rfl, rfl⟩) ?_ | refine DAL.r rfl rfl rfl (fun h' hx hn => qai (v := .bool _) rfl rfl ⟨rfl, rfl⟩) ?_)
   refine DAL.nil ?_
   repeat (first | refine W.w ?_ | refine AWp.c8 rfl ?_ | refine zz rfl (qaa rfl ?_))
   refine ⟨_, ResV.tmp rfl, rfl, xh, ?_, rfl⟩
   exact congrArg Value.bool (decide_eq_false (fun e => hl (by rw [e]))).symm
 ·
  refine AWp.drawR mixed (by kernel_rfl) ?_
  repeat (first | refine DAL.r rfl rfl rfl (fun h' hx hn => qag rfl ⟨rfl, rfl⟩) ?_ | refine DAL.r rfl rfl rfl (fun h' hx hn => qaf (sz := 5) rfl rfl (hx.c _ _ hg1) (Nat.le_refl _) ⟨rfl, rfl⟩) ?_ | refine DAL.r rfl rfl rfl (fun h' hx hn => qaf (sz := 5) rfl rfl (hx.c _ _ hg2) (Nat.le_refl _) ⟨rfl, rfl⟩) ?_ | refine DAL.r rfl rfl rfl (fun h' hx hn => qab rfl rfl (fa _ hx) ⟨rfl, rfl⟩) ?_ | refine DAL.r rfl rfl rfl (fun h' hx hn => qab rfl rfl (fb _ hx) ⟨rfl, rfl⟩) ?_ | refine DAL.r rfl rfl rfl (fun h' hx hn => qbr rfl rfl hf ⟨rfl, rfl⟩) ?_ | refine DAL.r rfl rfl rfl (fun h' hx hn => qai (v := .bool _) rfl rfl ⟨rfl, rfl⟩) ?_ | refine DAL.skip rfl rfl rfl ?_)
  refine DAL.nil ?_
  repeat (first | refine W.w ?_ | refine AWp.c8 rfl ?_ | refine zz rfl (qaa rfl ?_))
  refine ⟨_, ResV.tmp rfl, rfl, xh, ?_, rfl⟩
  exact congrArg Value.bool (decide_eq_false (fun e => hf (by rw [e]))).symm
def layG (x : SetM) (line : Bytes) : SetM × Bool :=
 if (ungroupR line).2 = true ∧ mayGroup x.nodes (ungroupR line).1 = true ∧ x.groups.length < 5 then ({ x with groups := x.groups ++ [(ungroupR line).1] }, true) else (x, false)
end Go.Proofs.YtigmojilaadbhaaGreatDoor
/- . -/
namespace Go.Proofs.YtigmojilaadbhaaGreatDoor
open Go Go.Eng Go.Pln
open Go.Lib hiding splitN
attribute [local irreducible] AWp AL DAL AOp TAL
structure SpI (h : Heap) (s : Bytes) (i at_ : Nat) (ws : List Bytes) (H : Heap) (u : Value) : Prop where
 gr : Gr h 9 (ws.map str) H u
 len : ws.length ≤ i
 hi : i ≤ s.length
 ha : at_ ≤ i
 eq : splitN s = (ws ++ (splitN (s.drop at_)).1, (splitN (s.drop at_)).2)
 no : noN ((s.take i).drop at_) = true
theorem qbz (lay : ScrM → Bytes → Option ScrM) : ∀ {l : List Bytes} {s t : ScrM} {n : Nat} (m : List Bytes), layAll lay s n l = (some t, n + l.length) → layAll lay s n (l ++ m) = layAll lay t (n + l.length) m
 | [], s, t, n, m, h => by
  simp only [layAll, Prod.mk.injEq, Option.some.injEq] at h
  rw [h.1]
  rfl
 | x :: l, s, t, n, m, h => by
  rw [layAll] at h
  rw [List.cons_append, layAll]
  cases hx : lay s x with
  | none => rw [hx] at h; cases h
  | some u =>
   rw [hx] at h
   simp only at h ⊢
   have h' : layAll lay u (n + 1) l = (some t, n + 1 + l.length) := by rw [h, List.length_cons]; congr 1; omega
   rw [qbz lay m h', List.length_cons]
   congr 1
   omega
section
variable {text x : Bytes} {l : List Bytes} (hle : ¬ 1048576 < text.length)
include hle
end
def PaR (h : Heap) (text : Bytes) (u : Value) (h' : Heap) : Prop := ∃ Bg Ba vg va, u = .tuple #[.agg (scrC vg va (parseR text).1.setup).toArray, .int .i64 (parseR text).2.1, .int .i64 (parseR text).2.2] ∧ GO Bg h' vg (parseR text).1.setup.groups ∧ AO Ba h' va (parseR text).1.acts ∧ Ext h h'
structure RpI (h : Heap) (j2 j7 Bv : Nat) (v : Value) (ls l : List Bytes) (x0 : SetM) (k : Nat) (s : ScrM) (H : Heap) : Prop where
 ly : layAll layR ⟨x0, []⟩ 1 (l.take k) = (some s, 1 + k)
 kl : k ≤ l.length
 ext : Ext h H
 wf : WF H
 nx : h.next ≤ H.next
 n2 : h.next ≤ j2
 n7 : h.next ≤ j7
 ne : j2 ≠ j7
 g2 : H.get j2 = some scrB0
 rw_ : OS Bv H 9 v (ls.map str)
 o : ∃ Bg vg va, H.get j7 = some (scrB vg va s.setup) ∧ GO Bg H vg s.setup.groups ∧ AO h.next H va s.acts
section
variable {x0 : SetM} {l : List Bytes} {k : Nat} {s s' : ScrM} {w : Bytes} (ly : layAll layR ⟨x0, []⟩ 1 (l.take k) = (some s, 1 + k)) (hw : l[k]? = some w)
include ly hw
end
end Go.Proofs.YtigmojilaadbhaaGreatDoor
/- . -/
namespace Go.Proofs.YtigmojilaadbhaaGreatDoor
open Go Go.Eng Go.Pln Go.Lib
attribute [local irreducible] AWp AL DAL AOp TAL
instance i_rsame : FnC Tryz.prog 28 := ⟨Tryz.f28, Tryz.func28, by kernel_rfl, by kernel_rfl⟩
theorem rsame_c (a b : ScrM) (va vb ua ub : Value) (h : Heap) (t : Tabs h) (ja : SetJ a.setup) (jb : SetJ b.setup) (ra : RG h va a.setup.groups) (rb : RG h vb b.setup.groups) (sa : RA h ua a.acts) (sb : RA h ub b.acts) : ACalls Tryz.prog 28 [.agg (scrC va ua a.setup).toArray, .agg (scrC vb ub b.setup).toArray] h fun u h' => u = .bool (decide (a = b)) ∧ h' = h := by
 refine ACalls.wf fun wf => ACalls.reset ?_
 refine ACalls.body Tryz.func28 rfl rfl ?_
 repeat (first | refine W.w ?_ | refine zz rfl (qaa rfl ?_) | refine zz rfl (qaI rfl (by intro e; cases e) ?_))
 generalize hH : h.alloc _ = H1
 have hg0 : H1.get h.next = some ⟨scrC va ua a.setup, 44, true⟩ := hH ▸ Heap.alloc_new _ _
 have hx1 : Ext h H1 := hH ▸ wf.ext _
 have wf1 : WF H1 := hH ▸ wf.alloc _
 skip
 generalize hH2 : H1.alloc _ = H
 have hg2 : H.get H1.next = some ⟨scrC vb ub b.setup, 44, true⟩ := hH2 ▸ Heap.alloc_new _ _
 have hx2 : Ext H1 H := hH2 ▸ wf1.ext _
 have hg1 : H.get h.next = some ⟨scrC va ua a.setup, 44, true⟩ := hx2.c _ _ hg0
 have xh : Ext h H := hx1.trans hx2
 clear hH hH2
 have tH := t.ext xh
 have cS := rsameSet_c a.setup b.setup va vb H tH ja jb (ra.ext xh) (rb.ext xh)
 have la := sa.len
 have lb := sb.len
 obtain ⟨ws, q1, q2, q3⟩ := (sa.ext xh).ex
 obtain ⟨us, p1, p2, p3⟩ := (sb.ext xh).ex
 by_cases hs : a.setup = b.setup
 ·
  rw [decide_eq_true hs] at cS
  by_cases hl : a.acts.length = b.acts.length
  ·
   repeat (first | refine W.w ?_ | refine AWp.c9 rfl ?_ | (refine zz rfl ?_; first | refine qag rfl ?_ | refine qac rfl ?_ | refine qap rfl ?_ | refine qaf (sz := 5) rfl rfl hg1 (Nat.le_of_ble_eq_true rfl) ?_ | refine qaf (sz := 5) rfl rfl hg2 (Nat.le_of_ble_eq_true rfl) ?_ | refine qab rfl rfl cS ?_ | refine qae rfl rfl hg1 rfl ?_ | refine qae rfl rfl hg2 rfl ?_ | refine qau q1 rfl ?_ | refine qau p1 rfl ?_ | refine qak rfl rfl rfl (by omega) ?_ | refine qai (v := .bool _) rfl rfl ?_ | refine qaD rfl ?_))
   refine AWp.loop (α := Nat) (fun k => [(2, ptr h.next), (3, ptr H1.next), (4, .bool false), (5, .int .i64 (k : Nat))]) (fun _ => H) (fun k => k ≤ a.acts.length ∧ a.acts.take k = b.acts.take k) (fun k => a.acts.length - k) 0 ⟨Nat.zero_le _, rfl⟩ (Weak.same (EW.cons rfl (EW.cons rfl (EW.cons rfl (EW.cons rfl EW.nil))))) ?_
   rintro k ⟨hk, hta⟩
   by_cases hlt : k < a.acts.length
   ·
    obtain ⟨g1, e1⟩ : ∃ g, a.acts[k]? = some g := ⟨_, List.getElem?_eq_getElem hlt⟩
    obtain ⟨g2, e2⟩ : ∃ g, b.acts[k]? = some g := ⟨_, List.getElem?_eq_getElem (by omega)⟩
    obtain ⟨w1, e3⟩ : ∃ w, ws[k]? = some w := ⟨_, List.getElem?_eq_getElem (by omega)⟩
    obtain ⟨w2, e4⟩ : ∃ w, us[k]? = some w := ⟨_, List.getElem?_eq_getElem (by omega)⟩
    obtain ⟨x1, rfl, o1⟩ := q3 k w1 g1 e3 e1
    obtain ⟨x2, rfl, o2⟩ := p3 k w2 g2 e4 e2
    have k1 : ws[((k : Nat) : Int).toNat]? = some (actC x1 g1) := e3
    have k2 : us[((k : Nat) : Int).toNat]? = some (actC x2 g2) := e4
    have d1 := q1.elt k1
    have d2 := p1.elt k2
    have c1 := fun (G : Heap) (hx : Ext H G) => qeV x1 x2 g1 g2 G (o1.ext hx) (o2.ext hx)
    repeat (first | refine W.w ?_ | refine AWp.c8 rfl ?_ | (refine zz rfl ?_; first | refine qad rfl ?_ | refine qap rfl ?_ | refine qae rfl rfl hg1 rfl ?_ | refine qau q1 rfl ?_ | refine qaj rfl rfl rfl (by omega) ?_))
    by_cases he : g1 = g2
    ·
     rw [decide_eq_true he] at c1
     refine AWp.drawR mixed (by kernel_rfl) ?_
     repeat (first | refine DAL.r rfl rfl rfl (fun h' hx hn => qad rfl ⟨rfl, rfl⟩) ?_ | refine DAL.r rfl rfl rfl (fun h' hx hn => qap rfl ⟨rfl, rfl⟩) ?_ | refine DAL.r rfl rfl rfl (fun h' hx hn => qae rfl rfl (hx.c _ _ hg1) rfl ⟨rfl, rfl⟩) ?_ | refine DAL.r rfl rfl rfl (fun h' hx hn => qae rfl rfl (hx.c _ _ hg2) rfl ⟨rfl, rfl⟩) ?_ | refine DAL.r rfl rfl rfl (fun h' hx hn => qaF (q1.ext hx) rfl rfl (by omega) k1 ⟨rfl, rfl⟩) ?_ | refine DAL.r rfl rfl rfl (fun h' hx hn => qaF (p1.ext hx) rfl rfl (by omega) k2 ⟨rfl, rfl⟩) ?_ | refine DAL.r rfl rfl rfl (fun h' hx hn => qaJ (d1.ext hx) rfl rfl rfl ⟨rfl, rfl⟩) ?_ | refine DAL.r rfl rfl rfl (fun h' hx hn => qaJ (d2.ext hx) rfl rfl rfl ⟨rfl, rfl⟩) ?_ | refine DAL.r rfl rfl rfl (fun h' hx hn => qab rfl rfl (c1 _ hx) ⟨rfl, rfl⟩) ?_ | refine DAL.r rfl rfl rfl (fun h' hx hn => qaD rfl ⟨rfl, rfl⟩) ?_)
     refine DAL.nil ?_
     repeat (first | refine W.w ?_ | refine AWp.c9 rfl ?_ | (refine zz rfl ?_; first | refine qad rfl ?_ | refine qac rfl ?_ | refine qav rfl rfl (by omega) ?_))
     exact ⟨k + 1, ⟨hlt, qgK hta e1 e2 he⟩, by omega, Weak.same (EW.cons rfl (EW.cons rfl (EW.cons rfl (EW.cons rfl EW.nil))))⟩
    ·
     rw [decide_eq_false he] at c1
     refine AWp.drawR mixed (by kernel_rfl) ?_
     repeat (first | refine DAL.r rfl rfl rfl (fun h' hx hn => qad rfl ⟨rfl, rfl⟩) ?_ | refine DAL.r rfl rfl rfl (fun h' hx hn => qap rfl ⟨rfl, rfl⟩) ?_ | refine DAL.r rfl rfl rfl (fun h' hx hn => qae rfl rfl (hx.c _ _ hg1) rfl ⟨rfl, rfl⟩) ?_ | refine DAL.r rfl rfl rfl (fun h' hx hn => qae rfl rfl (hx.c _ _ hg2) rfl ⟨rfl, rfl⟩) ?_ | refine DAL.r rfl rfl rfl (fun h' hx hn => qaF (q1.ext hx) rfl rfl (by omega) k1 ⟨rfl, rfl⟩) ?_ | refine DAL.r rfl rfl rfl (fun h' hx hn => qaF (p1.ext hx) rfl rfl (by omega) k2 ⟨rfl, rfl⟩) ?_ | refine DAL.r rfl rfl rfl (fun h' hx hn => qaJ (d1.ext hx) rfl rfl rfl ⟨rfl, rfl⟩) ?_ | refine DAL.r rfl rfl rfl (fun h' hx hn => qaJ (d2.ext hx) rfl rfl rfl ⟨rfl, rfl⟩) ?_ | refine DAL.r rfl rfl rfl (fun h' hx hn => qab rfl rfl (c1 _ hx) ⟨rfl, rfl⟩) ?_ | refine DAL.r rfl rfl rfl (fun h' hx hn => qaD rfl ⟨rfl, rfl⟩) ?_)
     refine DAL.nil ?_
     repeat (first | refine W.w ?_ | refine AWp.c8 rfl ?_ | refine zz rfl (qaa rfl ?_))
     refine ⟨_, ResV.tmp rfl, rfl, xh, ?_, rfl⟩
     exact congrArg Value.bool (decide_eq_false fun e => he (by subst e; rw [e1] at e2; cases e2; rfl)).symm
   ·
    obtain rfl : k = a.acts.length := by omega
    repeat (first | refine AL.nil ?_ | refine AWp.seq ?_ | refine AWp.r9 ?_ | refine AWp.c9 rfl ?_ | refine AWp.ret ?_ | refine AWp.exit ?_ | (refine zz rfl ?_; first | refine qad rfl ?_ | refine qaa rfl ?_ | refine qap rfl ?_ | refine qae rfl rfl hg1 rfl ?_ | refine qau q1 rfl ?_ | refine qak rfl rfl rfl (by omega) ?_))
    refine ⟨_, ResV.tmp rfl, rfl, xh, ?_, rfl⟩
    rw [List.take_length, hl, List.take_length] at hta
    exact congrArg Value.bool (decide_eq_true (by cases a; cases b; simp only at hs hta; subst hs hta; rfl)).symm
  ·
   repeat (first | refine W.w ?_ | refine AWp.c8 rfl ?_ | (refine zz rfl ?_; first | refine qag rfl ?_ | refine qaa rfl ?_ | refine qap rfl ?_ | refine qaf (sz := 5) rfl rfl hg1 (Nat.le_of_ble_eq_true rfl) ?_ | refine qaf (sz := 5) rfl rfl hg2 (Nat.le_of_ble_eq_true rfl) ?_ | refine qab rfl rfl cS ?_ | refine qae rfl rfl hg1 rfl ?_ | refine qae rfl rfl hg2 rfl ?_ | refine qau q1 rfl ?_ | refine qau p1 rfl ?_ | refine qaj rfl rfl rfl (by omega) ?_ | refine qai (v := .bool _) rfl rfl ?_ | refine qaD rfl ?_))
   exact ⟨_, ResV.tmp rfl, rfl, xh, congrArg Value.bool (decide_eq_false fun e => hl (by rw [e])).symm, rfl⟩
 ·
  rw [decide_eq_false hs] at cS
  repeat (first | refine W.w ?_ | refine AL.skip rfl rfl ?_ | refine AWp.c8 rfl ?_ | (refine zz rfl ?_; first | refine qag rfl ?_ | refine qaa rfl ?_ | refine qap rfl ?_ | refine qaf (sz := 5) rfl rfl hg1 (Nat.le_of_ble_eq_true rfl) ?_ | refine qaf (sz := 5) rfl rfl hg2 (Nat.le_of_ble_eq_true rfl) ?_ | refine qab rfl rfl cS ?_ | refine qai (v := .bool _) rfl rfl ?_ | refine qaD rfl ?_))
  exact ⟨_, ResV.tmp rfl, rfl, xh, congrArg Value.bool (decide_eq_false fun e => hs (by rw [e])).symm, rfl⟩
theorem rise_in {nodes : Int} : ∀ {l : List Int} {p : Int}, riseM nodes p l = true → ∀ n ∈ l, p < n ∧ n < nodes
 | [], _, _, n, hn => by cases hn
 | m :: l, p, h, n, hn => by
  rw [riseM, Bool.and_eq_true, decide_eq_true_iff] at h
  rcases List.mem_cons.1 hn with rfl | hn
  ·
   exact h.1
  ·
   have := rise_in h.2 n hn
   exact ⟨by omega, this.2⟩
theorem setJ_of {x : SetM} (h : maySet x = true) : SetJ x ∧ x.groups.length ≤ 5 ∧ ∀ g ∈ x.groups, (groupL g).length ≤ 100000 := by
 unfold maySet at h
 rw [Bool.and_eq_true, Bool.and_eq_true, decide_eq_true_iff, List.all_eq_true] at h
 obtain ⟨⟨h1, h2⟩, h3⟩ := h
 unfold sizesM at h1
 replace h1 := of_decide_eq_true h1
 have key : ∀ l ∈ x.groups, (∀ n ∈ l, 0 ≤ n ∧ n < 5) ∧ l.length ≤ 3 := by
  intro l hl
  have h4 := h3 l hl
  unfold mayGroup at h4
  rw [Bool.and_eq_true, decide_eq_true_iff] at h4
  exact ⟨fun n hn => by have := rise_in h4.1 n hn; omega, h4.2.2⟩
 refine ⟨⟨⟨by omega, by omega⟩, ⟨by omega, by omega⟩, ⟨by omega, by omega⟩, ⟨by omega, by omega⟩, fun l hl => ⟨fun n hn => ?_, ?_⟩⟩, h2.2, fun l hl => ?_⟩
 ·
  have := (key l hl).1 n hn
  exact ⟨by omega, by omega⟩
 ·
  have := (key l hl).2
  omega
 ·
  obtain ⟨k1, k2⟩ := key l hl
  have := qgQ (m := 200) (k := 4) (ws := wGroup :: l.map itoa) (fun w hw => by
   rcases List.mem_cons.1 hw with rfl | hw
   ·
    decide
   ·
    obtain ⟨n, hn, rfl⟩ := List.mem_map.1 hw
    have := k1 n hn
    exact qba (by omega) (by omega)) (by rw [List.length_cons, List.length_map]; omega)
  unfold groupL
  omega
instance i_eqInts : FnC Tryz.prog 68 := ⟨Tryz.f68, Tryz.func68, by kernel_rfl, by kernel_rfl⟩
instance i_sameG : FnC Tryz.prog 67 := ⟨Tryz.f67, Tryz.func67, by kernel_rfl, by kernel_rfl⟩
instance i_eqGrps : FnC Tryz.prog 66 := ⟨Tryz.f66, Tryz.func66, by kernel_rfl, by kernel_rfl⟩
instance i_eqActs : FnC Tryz.prog 69 := ⟨Tryz.f69, Tryz.func69, by kernel_rfl, by kernel_rfl⟩
instance i_same : FnC Tryz.prog 29 := ⟨Tryz.f29, Tryz.func29, by kernel_rfl, by kernel_rfl⟩
theorem eqInts_c (u v : Value) (a b : List Int) (h : Heap) (ra : RS h u (iv64 a)) (rb : RS h v (iv64 b)) (hal : a.length ≤ 140737488351232) : ACalls Tryz.prog 68 [u, v] h fun x h' => x = .bool (decide (a = b)) ∧ h' = h := by
 refine ACalls.body Tryz.func68 rfl rfl ?_
 obtain ⟨ua, uc, hu⟩ := RS.slice ra
 obtain ⟨va, vc, hv⟩ := RS.slice rb
 have l1 : (iv64 a).length = a.length := List.length_map _
 have l2 : (iv64 b).length = b.length := List.length_map _
 by_cases hl : a.length = b.length
 ·
  repeat (first | refine W.w ?_ | refine AWp.c9 rfl ?_ | (refine zz rfl ?_; first | refine qad rfl ?_ | refine qaa rfl ?_ | refine qaE ra rfl ?_ | refine qaE rb rfl ?_ | refine qak rfl rfl rfl (by omega) ?_ | refine qan (v := u) rfl ?_ | refine qan (v := v) rfl ?_))
  refine AWp.loop (α := Nat) (fun k => [(0, u), (1, v), (12, .int .i64 ((iv64 a).length : Nat)), (13, .int .i64 (k : Nat))]) (fun _ => h) (fun k => k ≤ a.length ∧ a.take k = b.take k) (fun k => a.length - k) 0 ⟨Nat.zero_le _, rfl⟩ (Weak.same (EW.cons rfl (EW.cons rfl (EW.cons rfl (EW.cons rfl EW.nil))))) ?_
  rintro k ⟨hk, hp⟩
  by_cases hlt : k < a.length
  ·
   obtain ⟨x, hxa⟩ : ∃ x, a[k]? = some x := ⟨_, List.getElem?_eq_getElem hlt⟩
   obtain ⟨y, hyb⟩ : ∃ y, b[k]? = some y := ⟨_, List.getElem?_eq_getElem (by omega)⟩
   have k1 : (iv64 a)[((k : Nat) : Int).toNat]? = some (.int .i64 x) := by simp [iv64, hxa]
   have k2 : (iv64 b)[((k : Nat) : Int).toNat]? = some (.int .i64 y) := by simp [iv64, hyb]
   have hte := qcL hp hxa hyb
   by_cases hxy : x = y
   ·
    repeat (first | refine W.w ?_ | refine AWp.c8 rfl ?_ | (refine zz rfl ?_; first | refine qad rfl ?_ | refine qac rfl ?_ | refine qaj rfl rfl rfl (by omega) ?_))
    refine AWp.drawR mixed (by kernel_rfl) ?_
    repeat (first | refine DAL.r rfl rfl rfl (fun h' hx hn => qad rfl ⟨rfl, rfl⟩) ?_ | refine DAL.r rfl rfl rfl (fun h' hx hn => qan (v := u) rfl ⟨rfl, rfl⟩) ?_ | refine DAL.r rfl rfl rfl (fun h' hx hn => qan (v := v) rfl ⟨rfl, rfl⟩) ?_ | refine DAL.r rfl rfl rfl (fun h' hx hn => qa2 (ra.ext hx) rfl rfl (by omega) k1 fun _ => ⟨rfl, rfl⟩) ?_ | refine DAL.r rfl rfl rfl (fun h' hx hn => qa2 (rb.ext hx) rfl rfl (by omega) k2 fun _ => ⟨rfl, rfl⟩) ?_ | refine DAL.r rfl rfl rfl (fun h' hx hn => qaB (PT.of (ra.ext hx) k1) rfl rfl ⟨rfl, rfl⟩) ?_ | refine DAL.r rfl rfl rfl (fun h' hx hn => qaB (PT.of (rb.ext hx) k2) rfl rfl ⟨rfl, rfl⟩) ?_ | refine DAL.r rfl rfl rfl (fun h' hx hn => qak rfl rfl rfl (by omega) ⟨rfl, rfl⟩) ?_)
    refine DAL.nil ?_
    repeat (first | refine W.w ?_ | refine AWp.c9 rfl ?_ | refine zz rfl (qad rfl ?_) | refine zz rfl (qav rfl rfl (by omega) ?_))
    exact ⟨k + 1, ⟨hlt, hte.2 hxy⟩, by omega, Weak.same (EW.cons rfl (EW.cons rfl (EW.cons rfl (EW.cons rfl EW.nil))))⟩
   ·
    repeat (first | refine W.w ?_ | refine AWp.c8 rfl ?_ | (refine zz rfl ?_; first | refine qad rfl ?_ | refine qac rfl ?_ | refine qaj rfl rfl rfl (by omega) ?_))
    refine AWp.drawR mixed (by kernel_rfl) ?_
    repeat (first | refine DAL.r rfl rfl rfl (fun h' hx hn => qad rfl ⟨rfl, rfl⟩) ?_ | refine DAL.r rfl rfl rfl (fun h' hx hn => qan (v := u) rfl ⟨rfl, rfl⟩) ?_ | refine DAL.r rfl rfl rfl (fun h' hx hn => qan (v := v) rfl ⟨rfl, rfl⟩) ?_ | refine DAL.r rfl rfl rfl (fun h' hx hn => qa2 (ra.ext hx) rfl rfl (by omega) k1 fun _ => ⟨rfl, rfl⟩) ?_ | refine DAL.r rfl rfl rfl (fun h' hx hn => qa2 (rb.ext hx) rfl rfl (by omega) k2 fun _ => ⟨rfl, rfl⟩) ?_ | refine DAL.r rfl rfl rfl (fun h' hx hn => qaB (PT.of (ra.ext hx) k1) rfl rfl ⟨rfl, rfl⟩) ?_ | refine DAL.r rfl rfl rfl (fun h' hx hn => qaB (PT.of (rb.ext hx) k2) rfl rfl ⟨rfl, rfl⟩) ?_ | refine DAL.r rfl rfl rfl (fun h' hx hn => qaj rfl rfl rfl (by omega) ⟨rfl, rfl⟩) ?_)
    refine DAL.nil ?_
    repeat (first | refine W.w ?_ | refine AWp.c8 rfl ?_ | refine zz rfl (qaa rfl ?_))
    exact ⟨_, ResV.tmp rfl, congrArg Value.bool (decide_eq_false fun e => hxy (by subst e; rw [hxa] at hyb; cases hyb; rfl)).symm, rfl⟩
  ·
   obtain rfl : k = a.length := by omega
   repeat (first | refine AL.nil ?_ | refine AWp.seq ?_ | refine AWp.r9 ?_ | refine AWp.c9 rfl ?_ | refine AWp.ret ?_ | refine AWp.exit ?_ | refine zz rfl (qaa rfl ?_) | refine zz rfl (qak rfl rfl rfl (by omega) ?_))
   refine ⟨_, ResV.tmp rfl, ?_, rfl⟩
   rw [List.take_length, hl, List.take_length] at hp
   exact congrArg Value.bool (decide_eq_true hp).symm
 ·
  repeat (first | refine W.w ?_ | refine AWp.c8 rfl ?_ | (refine zz rfl ?_; first | refine qaa rfl ?_ | refine qaE ra rfl ?_ | refine qaE rb rfl ?_ | refine qaj rfl rfl rfl (by omega) ?_ | refine qan (by conv => lhs; whnf) ?_))
  exact ⟨_, ResV.tmp rfl, congrArg Value.bool (decide_eq_false fun e => hl (by rw [e])).symm, rfl⟩
theorem sameG_c (u v : Value) (a b : List Int) (h : Heap) (ra : RS h u (iv64 a)) (rb : RS h v (iv64 b)) (hal : a.length ≤ 140737488351232) : ACalls Tryz.prog 67 [u, v] h fun x h' => x = .bool (decide (a = b)) ∧ h' = h := by
 refine ACalls.body Tryz.func67 rfl rfl ?_
 obtain ⟨ua, uc, hu⟩ := RS.slice ra
 obtain ⟨va, vc, hv⟩ := RS.slice rb
 repeat (first | refine W.w ?_ | (refine zz rfl ?_; first | refine qaa rfl ?_ | refine qan (v := u) rfl ?_ | refine qan (v := v) rfl ?_ | refine qab rfl rfl (eqInts_c u v a b h ra rb hal) ?_))
 exact ⟨_, ResV.tmp rfl, rfl, rfl⟩
theorem eqGrps_c (u v : Value) (a b : List (List Int)) (h : Heap) (ra : RG h u a) (rb : RG h v b) : ACalls Tryz.prog 66 [u, v, .func (.func 67) #[] #[]] h fun x h' => x = .bool (decide (a = b)) ∧ h' = h := by
 refine ACalls.body Tryz.func66 rfl rfl ?_
 obtain ⟨ws, q1, q2, q3, q4⟩ := ra
 obtain ⟨us, p1, p2, p3, p4⟩ := rb
 obtain ⟨ua, uc, hu⟩ := RS.slice q1
 obtain ⟨va, vc, hv⟩ := RS.slice p1
 by_cases hl : a.length = b.length
 ·
  repeat (first | refine W.w ?_ | refine AWp.c9 rfl ?_ | (refine zz rfl ?_; first | refine qad rfl ?_ | refine qaa rfl ?_ | refine qaE q1 rfl ?_ | refine qaE p1 rfl ?_ | refine qak rfl rfl rfl (by omega) ?_ | refine qan (v := u) rfl ?_ | refine qan (v := v) rfl ?_))
  refine AWp.loop (α := Nat) (fun k => [(1, v), (2, .func (.func 67) #[] #[]), (15, u), (16, .int .i64 (ws.length : Nat)), (17, .int .i64 (k : Nat))]) (fun _ => h) (fun k => k ≤ a.length ∧ a.take k = b.take k) (fun k => a.length - k) 0 ⟨Nat.zero_le _, rfl⟩ (Weak.same (EW.cons rfl (EW.cons rfl (EW.cons rfl (EW.cons rfl (EW.cons rfl EW.nil)))))) ?_
  rintro k ⟨hk, hp⟩
  by_cases hlt : k < a.length
  ·
   obtain ⟨x, hxa⟩ : ∃ x, a[k]? = some x := ⟨_, List.getElem?_eq_getElem hlt⟩
   obtain ⟨y, hyb⟩ : ∃ y, b[k]? = some y := ⟨_, List.getElem?_eq_getElem (by omega)⟩
   obtain ⟨w1, e3⟩ : ∃ w, ws[k]? = some w := ⟨_, List.getElem?_eq_getElem (by omega)⟩
   obtain ⟨w2, e4⟩ : ∃ w, us[k]? = some w := ⟨_, List.getElem?_eq_getElem (by omega)⟩
   have k1 : ws[((k : Nat) : Int).toNat]? = some w1 := e3
   have k2 : us[((k : Nat) : Int).toNat]? = some w2 := e4
   obtain ⟨o1, o1l⟩ := q4 k w1 x e3 hxa
   obtain ⟨o2, _⟩ := p4 k w2 y e4 hyb
   obtain ⟨xa, xc, hw1⟩ := RS.slice o1
   obtain ⟨ya, yc, hw2⟩ := RS.slice o2
   have hte := qcL hp hxa hyb
   have cc := sameG_c w1 w2 x y h o1 o2 o1l
   by_cases hxy : x = y
   ·
    rw [decide_eq_true hxy] at cc
    repeat (first | refine W.w ?_ | refine AWp.c8 rfl ?_ | refine AWp.c9 rfl ?_ | (refine zz rfl ?_; first | refine qad rfl ?_ | refine qaN rfl ?_ | refine qac rfl ?_ | refine qaj rfl rfl rfl (by omega) ?_ | refine qan (v := v) rfl ?_ | refine qan (v := w1) rfl ?_ | refine qan (v := w2) rfl ?_ | refine qaq (v := w1) rfl ?_ | refine qaq (v := w2) rfl ?_ | refine qa2 q1 rfl rfl (by omega) k1 fun _ => ?_ | refine qa2 p1 rfl rfl (by omega) k2 fun _ => ?_ | refine qaB (PT.of q1 k1) rfl rfl ?_ | refine qaB (PT.of p1 k2) rfl rfl ?_ | refine qab rfl rfl cc ?_ | refine qav rfl rfl (by omega) ?_ | refine qaD rfl ?_))
    exact ⟨k + 1, ⟨hlt, hte.2 hxy⟩, by omega, Weak.same (EW.cons rfl (EW.cons rfl (EW.cons rfl (EW.cons rfl (EW.cons rfl EW.nil)))))⟩
   ·
    rw [decide_eq_false hxy] at cc
    repeat (first | refine W.w ?_ | refine AWp.c8 rfl ?_ | (refine zz rfl ?_; first | refine qad rfl ?_ | refine qaN rfl ?_ | refine qac rfl ?_ | refine qaa rfl ?_ | refine qaj rfl rfl rfl (by omega) ?_ | refine qan (v := v) rfl ?_ | refine qan (v := w1) rfl ?_ | refine qan (v := w2) rfl ?_ | refine qaq (v := w1) rfl ?_ | refine qaq (v := w2) rfl ?_ | refine qa2 q1 rfl rfl (by omega) k1 fun _ => ?_ | refine qa2 p1 rfl rfl (by omega) k2 fun _ => ?_ | refine qaB (PT.of q1 k1) rfl rfl ?_ | refine qaB (PT.of p1 k2) rfl rfl ?_ | refine qab rfl rfl cc ?_ | refine qaD rfl ?_))
    exact ⟨_, ResV.tmp rfl, congrArg Value.bool (decide_eq_false fun e => hxy (by subst e; rw [hxa] at hyb; cases hyb; rfl)).symm, rfl⟩
  ·
   obtain rfl : k = a.length := by omega
   repeat (first | refine AL.nil ?_ | refine AWp.seq ?_ | refine AWp.r9 ?_ | refine AWp.c9 rfl ?_ | refine AWp.ret ?_ | refine AWp.exit ?_ | refine zz rfl (qaa rfl ?_) | refine zz rfl (qak rfl rfl rfl (by omega) ?_))
   refine ⟨_, ResV.tmp rfl, ?_, rfl⟩
   rw [List.take_length, hl, List.take_length] at hp
   exact congrArg Value.bool (decide_eq_true hp).symm
 ·
  repeat (first | refine W.w ?_ | refine AWp.c8 rfl ?_ | (refine zz rfl ?_; first | refine qaa rfl ?_ | refine qaE q1 rfl ?_ | refine qaE p1 rfl ?_ | refine qaj rfl rfl rfl (by omega) ?_ | refine qan (by conv => lhs; whnf) ?_))
  exact ⟨_, ResV.tmp rfl, congrArg Value.bool (decide_eq_false fun e => hl (by rw [e])).symm, rfl⟩
theorem eqActs_c (u v : Value) (a b : List ActM) (h : Heap) (ra : RA h u a) (rb : RA h v b) : ACalls Tryz.prog 69 [u, v, .func (.func 70) #[] #[]] h fun x h' => x = .bool (decide (a = b)) ∧ h' = h := by
 refine ACalls.wf fun wf => ACalls.reset ?_
 refine ACalls.body Tryz.func69 rfl rfl ?_
 have la := ra.len
 obtain ⟨ws, q1, q2, q3⟩ := ra.ex
 obtain ⟨us, p1, p2, p3⟩ := rb.ex
 obtain ⟨ua, uc, hu⟩ := q1.slice
 obtain ⟨va, vc, hv⟩ := p1.slice
 by_cases hl : a.length = b.length
 ·
  repeat (first | refine W.w ?_ | refine AWp.c9 rfl ?_ | (refine zz rfl ?_; first | refine qad rfl ?_ | refine qaa rfl ?_ | refine qau q1 rfl ?_ | refine qau p1 rfl ?_ | refine qak rfl rfl rfl (by omega) ?_ | refine qan (v := u) rfl ?_ | refine qan (v := v) rfl ?_))
  refine AWp.loop (α := Nat × Heap) (fun d => [(1, v), (2, .func (.func 70) #[] #[]), (15, u), (16, .int .i64 (ws.length : Nat)), (17, .int .i64 (d.1 : Nat))]) (fun d => d.2) (fun d => d.1 ≤ a.length ∧ a.take d.1 = b.take d.1 ∧ Ext h d.2 ∧ WF d.2) (fun d => a.length - d.1) (0, h) ⟨Nat.zero_le _, rfl, Ext.refl h, wf⟩ (Weak.same (EW.cons rfl (EW.cons rfl (EW.cons rfl (EW.cons rfl (EW.cons rfl EW.nil)))))) ?_
  rintro ⟨k, H⟩ ⟨hk, hp, xH, wH⟩
  replace hk : k ≤ a.length := hk
  replace hp : a.take k = b.take k := hp
  replace xH : Ext h H := xH
  replace wH : WF H := wH
  show AWp _ _ _ _ [(1, v), (2, .func (.func 70) #[] #[]), (15, u), (16, .int .i64 (ws.length : Nat)), (17, .int .i64 (k : Nat))] H
  by_cases hlt : k < a.length
  ·
   obtain ⟨x, hxa⟩ : ∃ x, a[k]? = some x := ⟨_, List.getElem?_eq_getElem hlt⟩
   obtain ⟨y, hyb⟩ : ∃ y, b[k]? = some y := ⟨_, List.getElem?_eq_getElem (by omega)⟩
   obtain ⟨w1, e3⟩ : ∃ w, ws[k]? = some w := ⟨_, List.getElem?_eq_getElem (by omega)⟩
   obtain ⟨w2, e4⟩ : ∃ w, us[k]? = some w := ⟨_, List.getElem?_eq_getElem (by omega)⟩
   obtain ⟨x1, rfl, o1⟩ := q3 k w1 x e3 hxa
   obtain ⟨x2, rfl, o2⟩ := p3 k w2 y e4 hyb
   have k1 : ws[((k : Nat) : Int).toNat]? = some (actC x1 x) := e3
   have k2 : us[((k : Nat) : Int).toNat]? = some (actC x2 y) := e4
   have r1 := q1.ext xH
   have s1 := p1.ext xH
   have d1 := r1.elt k1
   have e1 := qaG o1
   have e2 := qaG o2
   have hte := qcL hp hxa hyb
   repeat (first | refine W.w ?_ | refine AWp.c8 rfl ?_ | (refine zz rfl ?_; first | refine qad rfl ?_ | refine qaj rfl rfl rfl (by omega) ?_ | refine qaF r1 rfl rfl (by omega) k1 ?_ | refine qaJ d1 rfl rfl rfl ?_))
   refine zz rfl (qat ?_)
   repeat (first | refine zz rfl (qac rfl ?_))
   refine AL.eff rfl (qaC (vs := actC x1 x) rfl rfl rfl rfl e1 ?_)
   refine AL.heap (h := H.alloc ⟨actC x1 x, 40, true⟩) rfl ?_
   obtain ⟨H1, hQ, g1, z1, w1, _⟩ := aq wH ⟨actC x1 x, 40, true⟩
   rw [hQ]
   have s2 := s1.ext z1
   have d2 := s2.elt k2
   repeat (first | refine W.w ?_ | (refine zz rfl ?_; first | refine qad rfl ?_ | refine qan (v := v) rfl ?_ | refine qaF s2 rfl rfl (by omega) k2 ?_ | refine qaJ d2 rfl rfl rfl ?_))
   refine zz rfl (qat ?_)
   skip
   refine AL.eff rfl (qaC (vs := actC x2 y) rfl rfl rfl rfl e2 ?_)
   refine AL.heap (h := H1.alloc ⟨actC x2 y, 40, true⟩) rfl ?_
   obtain ⟨H2, hQ, g2, z2, w2, _⟩ := aq w1 ⟨actC x2 y, 40, true⟩
   rw [hQ]
   have f1 := z2.c _ _ g1
   have xx := xH.trans (z1.trans z2)
   have cc := qgs x1 x2 x y H2 (o1.ext xx) (o2.ext xx)
   by_cases hxy : x = y
   ·
    rw [decide_eq_true hxy] at cc
    repeat (first | refine W.w ?_ | refine AWp.c9 rfl ?_ | (refine zz rfl ?_; first | refine qad rfl ?_ | refine qaN rfl ?_ | refine qaf (sz := 33) rfl rfl f1 (Nat.le_refl _) ?_ | refine qaf (sz := 33) rfl rfl g2 (Nat.le_refl _) ?_ | refine qab rfl rfl cc ?_ | refine qav rfl rfl (by omega) ?_ | refine qaD rfl ?_))
    exact ⟨(k + 1, H2), ⟨hlt, hte.2 hxy, xx, w2⟩, by show a.length - (k + 1) < a.length - k; omega, Weak.same (EW.cons rfl (EW.cons rfl (EW.cons rfl (EW.cons rfl (EW.cons rfl EW.nil)))))⟩
   ·
    rw [decide_eq_false hxy] at cc
    repeat (first | refine W.w ?_ | refine AWp.c8 rfl ?_ | (refine zz rfl ?_; first | refine qaN rfl ?_ | refine qaa rfl ?_ | refine qaf (sz := 33) rfl rfl f1 (Nat.le_refl _) ?_ | refine qaf (sz := 33) rfl rfl g2 (Nat.le_refl _) ?_ | refine qab rfl rfl cc ?_ | refine qaD rfl ?_))
    exact ⟨_, ResV.tmp rfl, rfl, xx, congrArg Value.bool (decide_eq_false fun e => hxy (by subst e; rw [hxa] at hyb; cases hyb; rfl)).symm, rfl⟩
  ·
   obtain rfl : k = a.length := by omega
   repeat (first | refine AL.nil ?_ | refine AWp.seq ?_ | refine AWp.r9 ?_ | refine AWp.c9 rfl ?_ | refine AWp.ret ?_ | refine AWp.exit ?_ | refine zz rfl (qaa rfl ?_) | refine zz rfl (qak rfl rfl rfl (by omega) ?_))
   refine ⟨_, ResV.tmp rfl, rfl, xH, ?_, rfl⟩
   rw [List.take_length, hl, List.take_length] at hp
   exact congrArg Value.bool (decide_eq_true hp).symm
 ·
  repeat (first | refine W.w ?_ | refine AWp.c8 rfl ?_ | (refine zz rfl ?_; first | refine qaa rfl ?_ | refine qau q1 rfl ?_ | refine qau p1 rfl ?_ | refine qaj rfl rfl rfl (by omega) ?_ | refine qan (by conv => lhs; whnf) ?_))
  exact ⟨_, ResV.tmp rfl, rfl, Ext.refl h, congrArg Value.bool (decide_eq_false fun e => hl (by rw [e])).symm, rfl⟩
theorem qii {vg : Value} (h1 : oneB vg = true) (x : SetM) : (setC vg x).all oneB = true := by
 unfold setC
 simp only [List.all_cons, h1]
 rfl
theorem setM_same (a b : SetM) : decide (a = b) = (decide (a.nodes = b.nodes) && decide (a.disk = b.disk) && decide (a.memory = b.memory) && decide (a.level = b.level) && decide (a.groups = b.groups)) := by
 rw [Bool.eq_iff_iff]
 simp only [decide_eq_true_iff, Bool.and_eq_true]
 constructor
 ·
  rintro rfl; exact ⟨⟨⟨⟨rfl, rfl⟩, rfl⟩, rfl⟩, rfl⟩
 ·
  rintro ⟨⟨⟨⟨h1, h2⟩, h3⟩, h4⟩, h5⟩
  cases a; cases b
  simp only at h1 h2 h3 h4 h5
  subst h1 h2 h3 h4 h5
  rfl
theorem scr_same (a b : ScrM) : decide (a = b) = (decide (a.setup.nodes = b.setup.nodes) && decide (a.setup.disk = b.setup.disk) && decide (a.setup.memory = b.setup.memory) && decide (a.setup.level = b.setup.level) && decide (a.setup.groups = b.setup.groups) && decide (a.acts = b.acts)) := by
 rw [← setM_same, Bool.eq_iff_iff]
 simp only [decide_eq_true_iff, Bool.and_eq_true]
 constructor
 ·
  rintro rfl; exact ⟨rfl, rfl⟩
 ·
  rintro ⟨h1, h2⟩
  cases a; cases b
  simp only at h1 h2
  subst h1 h2
  rfl
theorem same_c (a b : ScrM) (va vb ua ub : Value) (h : Heap) (ra : RG h va a.setup.groups) (rb : RG h vb b.setup.groups) (sa : RA h ua a.acts) (sb : RA h ub b.acts) : ACalls Tryz.prog 29 [.agg (scrC va ua a.setup).toArray, .agg (scrC vb ub b.setup).toArray] h fun u h' => u = .bool (decide (a = b)) ∧ h' = h := by
 refine ACalls.wf fun wf => ACalls.reset ?_
 refine ACalls.body Tryz.func29 rfl rfl ?_
 repeat (first | refine W.w ?_ | refine zz rfl (qaa rfl ?_) | refine zz rfl (qaI rfl (by intro e; cases e) ?_))
 generalize hH : h.alloc _ = H1
 have hg0 : H1.get h.next = some (scrB va ua a.setup) := hH ▸ Heap.alloc_new _ _
 have hx1 : Ext h H1 := hH ▸ wf.ext _
 have wf1 : WF H1 := hH ▸ wf.alloc _
 skip
 generalize hH2 : H1.alloc _ = H
 have hg2 : H.get H1.next = some (scrB vb ub b.setup) := hH2 ▸ Heap.alloc_new _ _
 have hx2 : Ext H1 H := hH2 ▸ wf1.ext _
 have wfH : WF H := hH2 ▸ wf1.alloc _
 have hg1 : H.get h.next = some (scrB va ua a.setup) := hx2.c _ _ hg0
 have xh : Ext h H := hx1.trans hx2
 clear hH hH2
 have ra0 := ra
 have rb0 := rb
 obtain ⟨ws, q1, _⟩ := ra0
 obtain ⟨us, p1, _⟩ := rb0
 have o1 : (setC va a.setup).all oneB = true := qii (RS.one q1).1 _
 have o2 : (setC vb b.setup).all oneB = true := qii (RS.one p1).1 _
 skip
 refine AWp.cutI (α := Nat × Nat × Heap) (fun d => [(2, ptr h.next), (3, ptr H1.next), (5, ptr d.1), (6, ptr d.2.1)]) (fun d => d.2.2) (fun d => d.2.2.get d.1 = some ⟨setC va a.setup, 24, true⟩ ∧ d.2.2.get d.2.1 = some ⟨setC vb b.setup, 24, true⟩ ∧ Ext H d.2.2) ?_ ?_
 ·
  refine AWp.treeJ (fun G => G.get H1.next = some (scrB vb ub b.setup)) (fun _ _ a b => b.c _ _ a) (t := OT.seq [(0, .P), (1, .R), (2, .P), (3, .S)] (.alt (OT.seq [(4, .X), (5, .X), (6, .W), (7, .W)] .nil) (OT.seq [(5, .X), (4, .X), (6, .W), (7, .W)] .nil))) mixed (by kernel_rfl) hg2 ?_
  repeat (first | refine TAL.r rfl rfl rfl (fun h' hx hn => qaf (sz := 5) rfl rfl (hx.c _ _ hg1) (Nat.le_of_ble_eq_true rfl) ⟨rfl, rfl⟩) ?_ | refine TAL.p rfl rfl rfl (fun h' hn => qap rfl ⟨rfl, rfl⟩) ?_ | refine TAL.s rfl rfl rfl (fun h' hn hx => qaf (sz := 5) rfl rfl hx (Nat.le_of_ble_eq_true rfl) ⟨rfl, rfl⟩) ?_)
  have z1 := wfH.ext (setB set0)
  have w1 := wfH.alloc (setB set0)
  have z2 := w1.ext (setB set0)
  have g1 := Heap.alloc_new H (setB set0)
  have g2 := Heap.alloc_new (H.alloc (setB set0)) (setB set0)
  have n1 : (H.alloc (setB set0)).next = H.next + 1 := rfl
  have g3 := z2.c _ _ g1
  have z3 := z1.trans z2
  have lh := wfH.lt hg2
  have m1 : H1.next ≠ H.next := Nat.ne_of_lt lh
  have m2 : H1.next ≠ (H.alloc (setB set0)).next := by omega
  have m3 : H.next ≤ (H.alloc (setB set0)).next := by omega
  have ne : H.next ≠ (H.alloc (setB set0)).next := by omega
  refine TAL.two ?_ ?_
  ·
   refine TAL.x rfl rfl rfl (qat ⟨wfH.ext _, ?_⟩)
   refine TAL.x rfl rfl rfl (qat ⟨w1.ext _, ?_⟩)
   refine TAL.wj0 rfl rfl (qas (vs := setC va a.setup) rfl rfl rfl o1 g3 rfl ⟨(Heap.set_other m1).trans (z3.c _ _ hg2), ?_⟩)
   refine TAL.wj0 rfl rfl (qas (vs := setC vb b.setup) rfl rfl rfl o2 ((Heap.set_other ne.symm).trans g2) rfl ⟨(Heap.set_other m2).trans ((Heap.set_other m1).trans (z3.c _ _ hg2)), ?_⟩)
   refine TAL.nil ?_
   exact ⟨(H.next, (H.alloc (setB set0)).next, _), ⟨(Heap.set_other ne).trans (Heap.set_at _ _ _), Heap.set_at _ _ _, wfH.ext_set (wfH.ext_set z3 (Nat.le_refl _) _) m3 _⟩, Weak.same (EW.cons rfl (EW.cons rfl (EW.cons rfl (EW.cons rfl EW.nil))))⟩
  ·
   refine TAL.x rfl rfl rfl (qat ⟨wfH.ext _, ?_⟩)
   refine TAL.x rfl rfl rfl (qat ⟨w1.ext _, ?_⟩)
   refine TAL.wj0 rfl rfl (qas (vs := setC va a.setup) rfl rfl rfl o1 g2 rfl ⟨(Heap.set_other m2).trans (z3.c _ _ hg2), ?_⟩)
   refine TAL.wj0 rfl rfl (qas (vs := setC vb b.setup) rfl rfl rfl o2 ((Heap.set_other ne).trans g3) rfl ⟨(Heap.set_other m1).trans ((Heap.set_other m2).trans (z3.c _ _ hg2)), ?_⟩)
   refine TAL.nil ?_
   exact ⟨((H.alloc (setB set0)).next, H.next, _), ⟨(Heap.set_other ne.symm).trans (Heap.set_at _ _ _), Heap.set_at _ _ _, wfH.ext_set (wfH.ext_set z3 m3 _) (Nat.le_refl _) _⟩, Weak.same (EW.cons rfl (EW.cons rfl (EW.cons rfl (EW.cons rfl EW.nil))))⟩
 ·
  rintro ⟨j5, j6, K⟩ ⟨g5, g6, xK⟩
  replace g5 : K.get j5 = some ⟨setC va a.setup, 24, true⟩ := g5
  replace g6 : K.get j6 = some ⟨setC vb b.setup, 24, true⟩ := g6
  replace xK : Ext H K := xK
  show AWp _ _ _ _ [(2, ptr h.next), (3, ptr H1.next), (5, ptr j5), (6, ptr j6)] K
  have xx := xh.trans xK
  have f1 := xK.c _ _ hg1
  have f2 := xK.c _ _ hg2
  have cg := eqGrps_c va vb a.setup.groups b.setup.groups K (RG.ext ra xx) (RG.ext rb xx)
  have ca := eqActs_c ua ub a.acts b.acts K (sa.ext xx) (sb.ext xx)
  rw [scr_same]
  generalize decide (a.setup.groups = b.setup.groups) = gb at cg ⊢
  generalize decide (a.acts = b.acts) = ab at ca ⊢
  repeat' (first | refine W.w ?_ | refine AL.skip rfl rfl ?_ | (refine zz rfl ?_; first | refine qag rfl ?_ | refine qaa rfl ?_ | refine qap rfl ?_ | refine qae rfl rfl g5 rfl ?_ | refine qae rfl rfl g6 rfl ?_ | refine qae rfl rfl f1 rfl ?_ | refine qae rfl rfl f2 rfl ?_ | refine qaM rfl rfl cg (fun c => ?_) (fun c => ?_) | refine qaM rfl rfl ca (fun c => ?_) (fun c => ?_) | refine qai (v := .bool _) rfl rfl ?_ | refine qaU rfl rfl rfl (fun c => ?_) (fun c => ?_)))
  all_goals refine ⟨_, ResV.tmp rfl, rfl, xx, congrArg Value.bool ?_, rfl⟩
  all_goals simp [*]
end Go.Proofs.YtigmojilaadbhaaGreatDoor
