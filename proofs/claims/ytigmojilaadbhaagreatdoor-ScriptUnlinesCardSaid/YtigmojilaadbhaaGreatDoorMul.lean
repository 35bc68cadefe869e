/-
  Texts of one claim, merged: 5 parts.
-/
import Derived.Test.YtigmojilaadbhaaGreatDoorMuh
import Derived.Test.YtigmojilaadbhaaGreatDoorMuf
import Derived.Test.YtigmojilaadbhaaGreatDoorMuk
import Derived.Test.YtigmojilaadbhaaGreatDoorMui
set_option maxHeartbeats 16000000
/- . -/
namespace Go.Eng
open Go
section
variable {P : Program} {ρ : Operand → Value} {h : Heap} {K : Value → Heap → Prop} {dst : Option Tmp} {ty : TypeId} {pos : String} {aft : Array Edge} {g : Option (Nat × Bool)}
theorem qcT {w : World} {b : Nat} : ∀ (l : List UInt8) (o : Nat) (acc : ByteArray), (∀ (j : Nat) x, l[j]? = some x → w.cell? ⟨b, o + j, none⟩ = some (.int .u8 (x.toNat : Int))) →
  ∃ r, (Extern.Bytes.loadBytes ⟨b, o, none⟩ l.length acc).run P w = .ok r w ∧ r.data.toList = acc.data.toList ++ l
 | [], o, acc, _ => ⟨acc, rfl, by simp⟩
 | x :: l, o, acc, hc => by
  have h0 := hc 0 x rfl
  obtain ⟨r, h1, h2⟩ := qcT l (o + 1) (acc.push x) fun j y hj => by
   have := hc (j + 1) y hj
   rw [show o + 1 + j = o + (j + 1) by omega]
   exact this
  refine ⟨r, ?_, by rw [h2]; simp [ByteArray.push]⟩
  simp only [List.length_cons, Extern.Bytes.loadBytes, Sem.run_bind]
  rw [Nat.add_zero] at h0
  rw [show (load ⟨b, o, none⟩).run P w = .ok (.int .u8 (x.toNat : Int)) w from by
   rw [run_load, h0]]
  simp only [Result.andThen_ok]
  simpa [Addr.add] using h1
theorem qef {φ : Ren} {w : World} (s : Sim P φ h w) {v c : Value} {l : List UInt8} (r : RB h v l) (rv : VRel φ h.next v c) : ∃ x, (Extern.Bytes.bytesOf c).run P w = .ok x w ∧ x.data.toList = l := by
 obtain ⟨a, cap, rfl, h1, h2, h3⟩ := RS.conc r (List.all_eq_true.2 fun x hx => by obtain ⟨b, _, rfl⟩ := List.mem_map.1 hx; rfl) s rv
 rw [qaz]
 rcases h3 with h3 | ⟨b, o, rfl, _, h3⟩
 ·
  have : l = [] := List.map_eq_nil_iff.1 h3
  subst this
  cases a with
  | none => exact ⟨.empty, rfl, rfl⟩
  | some a => exact ⟨.empty, rfl, rfl⟩
 ·
  obtain ⟨x, q1, q2⟩ := qcT (P := P) (w := w) (b := b) l o .empty fun j y hj => h3 j _ (qfG l j y hj)
  exact ⟨x, q1, by rw [q2]; rfl⟩
theorem qgP {f : FuncId} {fo x y : Operand} {aT : Array TypeId} {u v : Value} {a b : List UInt8} [xt : XtC P f Extern.BytealgCompare.compare] (hf : ρ fo = .func (.func f) #[] #[]) (ra : RB h u a) (rb : RB h v b) (hx : ρ x = u) (hy : ρ y = v)
  (kk : K (.int .i64 (Extern.BytealgCompare.cmp (bstr a) (bstr b))) h) : AOp P ⟨dst, .call ⟨.value fo, #[x, y], aT⟩, ty, pos, aft, g⟩ ρ h K :=
 .of_pure kk fun φ ac w r => by
  obtain ⟨f1, d1, e0, s1, s2, _, _⟩ := (hf ▸ r.ev fo (by simp [Op.operands, Call.operands])).func_inv
  obtain rfl : f1 = #[] := by apply Array.eq_empty_of_size_eq_zero; rw [← s1]; rfl
  obtain rfl : d1 = #[] := by apply Array.eq_empty_of_size_eq_zero; rw [← s2]; rfl
  have e1 := hx ▸ r.ev x (by simp [Op.operands, Call.operands])
  have e2 := hy ▸ r.ev y (by simp [Op.operands, Call.operands])
  obtain ⟨p, p1, p2⟩ := qef r.sim ra e1
  obtain ⟨q, z1, z2⟩ := qef r.sim rb e2
  obtain ⟨fn, q1, q2, q3, q4, q5⟩ := xt.ex
  have hp : p = bstr a := by cases p with | mk d => simp only [bstr] at p2 ⊢; congr 1; apply Array.ext'; simpa using p2
  have hq : q = bstr b := by cases q with | mk d => simp only [bstr] at z2 ⊢; congr 1; apply Array.ext'; simpa using z2
  subst hp hq
  refine ⟨.int .i64 (Extern.BytealgCompare.cmp (bstr a) (bstr b)), ?_, .int _ _⟩
  have := run_callFunc_extern (P := P) q1 q2 q3 q4 q5 #[ac.eval x, ac.eval y] w
  have hcmp : (Extern.BytealgCompare.compare #[ac.eval x, ac.eval y]).run P w = .ok (.int .i64 (Extern.BytealgCompare.cmp (bstr a) (bstr b))) w := by
   change Sem.run P (do pure (goInt (Extern.BytealgCompare.cmp (← Extern.Bytes.bytesOf (ac.eval x)) (← Extern.Bytes.bytesOf (ac.eval y))))) w = _
   simp only [Sem.run_bind, p1, z1, Result.andThen_ok, Sem.run_pure]
   rfl
  rw [hcmp] at this
  simp [execOp, resolve, e0, Deferred.ofValue, invoke, this]
end
end Go.Eng
/- . -/
namespace Go.Proofs.YtigmojilaadbhaaGreatDoor
open Go Go.Eng Go.Pln Go.Lib
attribute [local irreducible] AWp AL DAL AOp
instance qdr : XtC Tryz.prog 192 Extern.BytealgCompare.compare := ⟨Tryz.f192, by kernel_rfl, by kernel_rfl, by kernel_rfl, by kernel_rfl, by kernel_rfl⟩
instance qex : FnC Tryz.prog 151 := ⟨Tryz.f151, Tryz.func151, by kernel_rfl, by kernel_rfl⟩
instance qd5 : FnC Tryz.prog 152 := ⟨Tryz.f152, Tryz.func152, by kernel_rfl, by kernel_rfl⟩
instance qdM : FnC Tryz.prog 169 := ⟨Tryz.f169, Tryz.func169, by kernel_rfl, by kernel_rfl⟩
instance qfA : FnC Tryz.prog 215 := ⟨Tryz.f215, Tryz.func215, by kernel_rfl, by kernel_rfl⟩
instance qeU : FnC Tryz.prog 214 := ⟨Tryz.f214, Tryz.func214, by kernel_rfl, by kernel_rfl⟩
instance qgD : FnC Tryz.prog 170 := ⟨Tryz.f170, Tryz.func170, by kernel_rfl, by kernel_rfl⟩
instance qds : FnC Tryz.prog 213 := ⟨Tryz.f213, Tryz.func213, by kernel_rfl, by kernel_rfl⟩
instance i_FnC_cmp_Or_int_ : FnC Tryz.prog 212 := ⟨Tryz.f212, Tryz.func212, by kernel_rfl, by kernel_rfl⟩
instance qer : FnC Tryz.prog 206 := ⟨Tryz.f206, Tryz.func206, by kernel_rfl, by kernel_rfl⟩
instance qfx : FnC Tryz.prog 205 := ⟨Tryz.f205, Tryz.func205, by kernel_rfl, by kernel_rfl⟩
instance qey : FnC Tryz.prog 194 := ⟨Tryz.f194, Tryz.func194, by kernel_rfl, by kernel_rfl⟩
def cmpI (a b : Bytes) : Int := Extern.BytealgCompare.cmp (bstr a) (bstr b)
def cmp3 (a b : Int) : Int := if a < b then -1 else if b < a then 1 else 0
def icmpM (a b : EntM) : Int := if cmpI a.key b.key ≠ 0 then cmpI a.key b.key else cmp3 b.seq a.seq
def entOk (e : EntM) : Bool := decide (1 ≤ e.key.length ∧ e.key.length ≤ 32 ∧ 1 ≤ e.seq ∧ e.seq ≤ 2147483647 ∧ e.value.length ≤ 65536 ∧ (e.kind = 1 ∨ e.kind = 2 ∧ e.value.length = 0))
theorem key_c (v : Value) (b : Bytes) (h : Heap) (r : RB h v b) : ACalls Tryz.prog 151 [v] h fun u h' => u = .bool (decide (1 ≤ b.length ∧ b.length ≤ 24)) ∧ h' = h := by
 refine ACalls.body Tryz.func151 rfl rfl ?_
 repeat' (first | refine W.w ?_ | refine AL.skip rfl rfl ?_ | (refine zz rfl ?_; first | refine qae rfl ?_ | refine qaa rfl ?_ | refine qaJ r rfl ?_ | refine qaQ rfl rfl rfl (fun c => ?_) (fun c => ?_) | refine qah (v := .bool _) rfl rfl ?_ | refine qal (by conv => lhs; whnf) ?_))
 all_goals refine ⟨_, ResV.tmp rfl, congrArg Value.bool ?_, rfl⟩
 all_goals grind
theorem qh2 (n : Int) (h : Heap) : ACalls Tryz.prog 152 [.int .i64 n] h fun u h' => u = .bool (decide (1 ≤ n ∧ n < 5)) ∧ h' = h := by
 refine ACalls.body Tryz.func152 rfl rfl ?_
 repeat' (first | refine W.w ?_ | refine AL.skip rfl rfl ?_ | (refine zz rfl ?_; first | refine qac rfl ?_ | refine qae rfl ?_ | refine qaa rfl ?_ | refine qaQ rfl rfl rfl (fun c => ?_) (fun c => ?_) | refine qah (v := .bool _) rfl rfl ?_))
 all_goals refine ⟨_, ResV.tmp rfl, congrArg Value.bool ?_, rfl⟩
 all_goals grind
theorem qhM (n : Int) (h : Heap) : ACalls Tryz.prog 169 [.int .i64 n] h fun u h' => u = .bool (decide (1 ≤ n ∧ n ≤ 2147483647)) ∧ h' = h := by
 refine ACalls.body Tryz.func169 rfl rfl ?_
 repeat' (first | refine W.w ?_ | refine AL.skip rfl rfl ?_ | (refine zz rfl ?_; first | refine qac rfl ?_ | refine qae rfl ?_ | refine qaa rfl ?_ | refine qaQ rfl rfl rfl (fun c => ?_) (fun c => ?_) | refine qah (v := .bool _) rfl rfl ?_))
 all_goals refine ⟨_, ResV.tmp rfl, congrArg Value.bool ?_, rfl⟩
 all_goals grind
theorem isNaN_c (n : Int) (h : Heap) : ACalls Tryz.prog 215 [.int .i64 n] h fun u h' => u = .bool false ∧ h' = h := by
 refine ACalls.body Tryz.func215 rfl rfl ?_
 repeat' (first | refine W.w ?_ | (refine zz rfl ?_; first | refine qac rfl ?_ | refine qaa rfl ?_ | refine qak rfl rfl rfl (by omega) ?_))
 all_goals exact ⟨_, ResV.tmp rfl, rfl, rfl⟩
theorem cmp_c (a b : Int) (h : Heap) : ACalls Tryz.prog 214 [.int .i64 a, .int .i64 b] h fun u h' => u = .int .i64 (cmp3 a b) ∧ h' = h := by
 refine ACalls.body Tryz.func214 rfl rfl ?_
 repeat' (first | refine W.w ?_ | refine AWp.c8 rfl ?_ | refine AWp.c9 rfl ?_ | (refine zz rfl ?_; first | refine qac rfl ?_ | refine qae rfl ?_ | refine qad rfl ?_ | refine qaa rfl ?_ | refine qab rfl rfl (isNaN_c _ _) ?_ | refine qaQ rfl rfl rfl (fun c => ?_) (fun c => ?_)))
 all_goals refine ⟨_, ResV.tmp rfl, congrArg (Value.int .i64) ?_, rfl⟩
 all_goals grind [cmp3]
theorem bcmp_c (u v : Value) (a b : Bytes) (h : Heap) (ra : RB h u a) (rb : RB h v b) : ACalls Tryz.prog 170 [u, v] h fun x h' => x = .int .i64 (cmpI a b) ∧ h' = h := by
 refine ACalls.body Tryz.func170 rfl rfl ?_
 repeat (first | refine W.w ?_ | (refine zz rfl ?_; first | refine qad rfl ?_ | refine qal (v := u) rfl ?_ | refine qal (v := v) rfl ?_ | refine qgP rfl ra rb rfl rfl ?_))
 exact ⟨_, ResV.tmp rfl, rfl, rfl⟩
theorem ckeys_c (u v : Value) (a b : Bytes) (h : Heap) (ra : RB h u a) (rb : RB h v b) : ACalls Tryz.prog 213 [u, v] h fun x h' => x = .int .i64 (cmpI a b) ∧ h' = h := by
 refine ACalls.body Tryz.func213 rfl rfl ?_
 repeat (first | refine W.w ?_ | (refine zz rfl ?_; first | refine qad rfl ?_ | refine qal (v := u) rfl ?_ | refine qal (v := v) rfl ?_ | refine qab rfl rfl (bcmp_c u v a b h ra rb) ?_))
 exact ⟨_, ResV.tmp rfl, rfl, rfl⟩
theorem or_c (v : Value) (a b : Int) (h : Heap) (r : RS h v [.int .i64 a, .int .i64 b]) : ACalls Tryz.prog 212 [v] h fun u h' => u = .int .i64 (if a ≠ 0 then a else b) ∧ h' = h := by
 refine ACalls.body Tryz.func212 rfl rfl ?_
 obtain ⟨va, vc, rfl⟩ := r.slice
 repeat (first | refine W.w ?_ | (refine zz rfl ?_; first | refine qac rfl ?_ | refine qdD rfl ?_ | refine qad rfl ?_ | refine qaS r rfl ?_))
 refine AWp.loop (α := Nat) (fun k => [(3, .int .i64 0), (6, .slice va 2 vc), (7, .int .i64 2), (8, .int .i64 (k : Nat))]) (fun _ => h) (fun k => k ≤ 2 ∧ (0 < k → a = 0) ∧ (1 < k → b = 0)) (fun k => 2 - k) 0 ⟨by omega, by omega, by omega⟩ (Weak.same (EW.cons rfl (EW.cons rfl (EW.cons rfl (EW.cons rfl EW.nil))))) ?_
 rintro k ⟨hk, h0, h1⟩
 match k, hk, h0, h1 with
 | 0, _, _, _ =>
  repeat (first | refine W.w ?_ | refine AWp.c8 rfl ?_ | refine zz rfl (qam rfl rfl rfl (by omega) ?_) | refine zz rfl (qbg r rfl rfl (by omega) (show [Value.int .i64 a, .int .i64 b][((0 : Nat) : Int).toNat]? = some _ from rfl) ?_))
  intro p hp
  repeat' (first | refine W.w ?_ | refine AWp.c8 rfl ?_ | refine AWp.c9 rfl ?_ | (refine zz rfl ?_; first | refine qac rfl ?_ | refine qad rfl ?_ | refine qat hp rfl rfl ?_ | refine qas rfl rfl (by omega) ?_ | refine qaQ rfl rfl rfl (fun c => ?_) (fun c => ?_)))
  ·
   refine ⟨_, ResV.tmp rfl, congrArg (Value.int .i64) ?_, rfl⟩
   grind
  ·
   exact ⟨1, ⟨by omega, by grind, by omega⟩, by omega, Weak.same (EW.cons rfl (EW.cons rfl (EW.cons rfl (EW.cons rfl EW.nil))))⟩
 | 1, _, h0, _ =>
  repeat (first | refine W.w ?_ | refine AWp.c8 rfl ?_ | refine zz rfl (qam rfl rfl rfl (by omega) ?_) | refine zz rfl (qbg r rfl rfl (by omega) (show [Value.int .i64 a, .int .i64 b][((1 : Nat) : Int).toNat]? = some _ from rfl) ?_))
  intro p hp
  repeat' (first | refine W.w ?_ | refine AWp.c8 rfl ?_ | refine AWp.c9 rfl ?_ | (refine zz rfl ?_; first | refine qac rfl ?_ | refine qad rfl ?_ | refine qat hp rfl rfl ?_ | refine qas rfl rfl (by omega) ?_ | refine qaQ rfl rfl rfl (fun c => ?_) (fun c => ?_)))
  ·
   refine ⟨_, ResV.tmp rfl, congrArg (Value.int .i64) ?_, rfl⟩
   grind
  ·
   exact ⟨2, ⟨by omega, by grind, by grind⟩, by omega, Weak.same (EW.cons rfl (EW.cons rfl (EW.cons rfl (EW.cons rfl EW.nil))))⟩
 | 2, _, h0, h1 =>
  repeat (first | refine AL.nil ?_ | refine AWp.seq ?_ | refine AWp.r9 ?_ | refine AWp.c9 rfl ?_ | refine AWp.ret ?_ | refine AWp.exit ?_ | (refine zz rfl ?_; first | refine qac rfl ?_ | refine qad rfl ?_ | refine qak rfl rfl rfl (by omega) ?_))
  refine ⟨_, ResV.tmp rfl, congrArg (Value.int .i64) ?_, rfl⟩
  grind
 | k + 3, hk, _, _ => omega
theorem imay_c (kv vv : Value) (e : EntM) (h : Heap) (r1 : RB h kv e.key) (r2 : RB h vv e.value) : ACalls Tryz.prog 205 [.agg (entC kv vv e).toArray] h fun u h' => u = .bool (entOk e) ∧ h' = h := by
 refine ACalls.wf fun wf => ACalls.reset ?_
 refine ACalls.body Tryz.func205 rfl rfl ?_
 repeat (first | refine W.w ?_ | refine zz rfl (qaa rfl ?_) | refine zz rfl (qaV rfl (by intro e; cases e) ?_))
 generalize hH : h.alloc _ = H
 have hg : H.get h.next = some ⟨entC kv vv e, 171, true⟩ := hH ▸ Heap.alloc_new _ _
 have hx : Ext h H := hH ▸ wf.ext _
 have wfH : WF H := hH ▸ wf.alloc _
 clear hH
 have q1 := r1.ext hx
 have q2 := r2.ext hx
 repeat' (first | refine W.w ?_ | refine AL.skip rfl rfl ?_ | refine AWp.c8 rfl ?_ | refine AWp.c9 rfl ?_ | (refine zz rfl ?_; first | refine qae rfl ?_ | refine qaa rfl ?_ | refine qao rfl ?_ | refine qaf rfl rfl hg rfl ?_ | refine qaJ q1 rfl ?_ | refine qaJ q2 rfl ?_ | refine qaQ rfl rfl rfl (fun c => ?_) (fun c => ?_) | refine qah (v := .bool _) rfl rfl ?_))
 all_goals refine ⟨_, ResV.tmp rfl, rfl, hx, congrArg Value.bool ?_, rfl⟩
 all_goals clear q1 q2 r1 r2 hg hx wf wfH
 all_goals grind [entOk]
theorem icmp_c (k1 v1 k2 v2 : Value) (a b : EntM) (h : Heap) (ra : RB h k1 a.key) (rb : RB h k2 b.key) : ACalls Tryz.prog 206 [.agg (entC k1 v1 a).toArray, .agg (entC k2 v2 b).toArray] h fun u h' => u = .int .i64 (icmpM a b) ∧ h' = h := by
 refine ACalls.wf fun wf => ACalls.reset ?_
 refine ACalls.body Tryz.func206 rfl rfl ?_
 repeat (first | refine W.w ?_ | refine zz rfl (qad rfl ?_) | refine zz rfl (qaV rfl (by intro e; cases e) ?_))
 generalize hH : h.alloc _ = H1
 have hg0 : H1.get h.next = some ⟨entC k1 v1 a, 171, true⟩ := hH ▸ Heap.alloc_new _ _
 have hx1 : Ext h H1 := hH ▸ wf.ext _
 have wf1 : WF H1 := hH ▸ wf.alloc _
 skip
 generalize hH2 : H1.alloc _ = H
 have hg2 : H.get H1.next = some ⟨entC k2 v2 b, 171, true⟩ := hH2 ▸ Heap.alloc_new _ _
 have hx2 : Ext H1 H := hH2 ▸ wf1.ext _
 have hg1 : H.get h.next = some ⟨entC k1 v1 a, 171, true⟩ := hx2.c _ _ hg0
 have hx : Ext h H := hx1.trans hx2
 have wfH : WF H := hH2 ▸ wf1.alloc _
 clear hH hH2
 have qa := ra.ext hx
 have qb := rb.ext hx
 have q0 := hx
 skip
 refine AWp.draw (σ := [(0, .R), (1, .R), (2, .R), (3, .R), (4, .R), (5, .R), (6, .R), (7, .R), (8, .R), (9, .R), (10, .X), (11, .R), (12, .R)]) mixed (by kernel_rfl) ?_
 repeat (first | refine DAL.r rfl rfl rfl (fun h' hx hn => qao rfl ⟨rfl, rfl⟩) ?_ | refine DAL.r rfl rfl rfl (fun h' hx hn => qaf rfl rfl (hx.c _ _ hg1) rfl ⟨rfl, rfl⟩) ?_ | refine DAL.r rfl rfl rfl (fun h' hx hn => qaf rfl rfl (hx.c _ _ hg2) rfl ⟨rfl, rfl⟩) ?_ | refine DAL.r rfl rfl rfl (fun h' hx hn => qab rfl rfl (ckeys_c k1 k2 a.key b.key h' (qa.ext hx) (qb.ext hx)) ⟨rfl, rfl⟩) ?_ | refine DAL.r rfl rfl rfl (fun h' hx hn => qab rfl rfl (cmp_c b.seq a.seq h') ⟨rfl, rfl⟩) ?_)
 refine DAL.x rfl rfl rfl (qaN [.int .i64 (cmpI a.key b.key), .int .i64 (cmp3 b.seq a.seq)] rfl rfl rfl rfl (by intro u hu; rcases List.mem_cons.1 hu with rfl | hu; rfl; rw [List.mem_singleton.1 hu]; rfl) ⟨wfH.ext _, ?_⟩)
 obtain ⟨H3, hQ, gr, xr, _, _⟩ := aq wfH ⟨[.int .i64 (cmpI a.key b.key), .int .i64 (cmp3 b.seq a.seq)], 3, true⟩
 rw [hQ]
 have rr : RS H3 (.slice (some ⟨H.next, 0, some 1⟩) 2 2) [.int .i64 (cmpI a.key b.key), .int .i64 (cmp3 b.seq a.seq)] := RS.own gr rfl
 repeat (first | refine DAL.r rfl rfl rfl (fun h' hx hn => qad rfl ⟨rfl, rfl⟩) ?_ | refine DAL.r rfl rfl rfl (fun h' hx hn => qab rfl rfl (or_c _ _ _ h' (rr.ext hx)) ⟨rfl, rfl⟩) ?_)
 refine DAL.nil ?_
 repeat (first | refine AWp.ret ?_)
 exact ⟨_, ResV.tmp rfl, rfl, q0.trans xr, rfl, rfl⟩
end Go.Proofs.YtigmojilaadbhaaGreatDoor
/- . -/
namespace Go.Eng
open Go
section
variable {P : Program} {ρ : Operand → Value} {h : Heap} {K : Value → Heap → Prop} {dst : Option Tmp} {ty : TypeId} {pos : String} {aft : Array Edge} {g : Option (Nat × Bool)}
theorem op_buildAr {t e sz by_ n es eb : Nat} {z ez : Value} {parts : Array (Nat × Operand)} {out : List Value} [td : TyD P t (.array n e)] [ti : TyI P t sz by_ z] [te : TyI P e es eb ez]
  (hu : (parts.toList.all fun p => nuB (ρ p.2)) = true) (hf : fillA (fun i => some (i * es, es)) z.cells.toList (parts.toList.map fun p => (p.1, ρ p.2)) = some out) (kk : K (.agg out.toArray) h) : AOp P ⟨dst, .build t parts, ty, pos, aft, g⟩ ρ h K :=
 .of_pure kk fun φ ac w r => by
  obtain ⟨arr', h1, h2⟩ := qcW (φ := φ) (n := h.next) (fun i => some (i * es, es)) ac parts.toList z.cells.toList out z.cells (VRels.scalars ti.plain) (fun p hp => r.ev p.2 (by simp [Op.operands]; exact ⟨p.1, by simpa using hp⟩)) (fun p hp => nuB_ne (List.all_eq_true.1 hu p hp)) hf
  refine ⟨.agg arr', ?_, .agg _ _ (by have := h2.length; simpa using this) (fun k x y hx hy => ?_)⟩
  ·
   have he : (parts.map fun (p : Nat × Operand) => (p.1, ac.eval p.2)).toList = parts.toList.map fun p => (p.1, ac.eval p.2) := by simp
   have hrun : (Instr.build t (parts.map fun (p : Nat × Operand) => (p.1, ac.eval p.2))).run P w = .ok (.agg arr') w := by
    simp only [Instr.build, Sem.run_bind, ti.zero, Result.andThen_ok, td.run, te.size, he]
    rw [h1]
    rfl
   simp [execOp, hrun]
  ·
   obtain ⟨c, hc, hv⟩ := h2.get (j := k) (x := x) (by simpa using hx)
   simp only [Array.getElem?_toList] at hc
   rw [hy] at hc; cases hc; exact hv
theorem op_indexVA {t e : TypeId} {d : TypeDesc} {n : Nat} {x y : Operand} {sz by_ : Nat} {z : Value} {k : IntKind} {a : Int} {vs : List Value} (u : List Value) [td : TyD P t (.array n e)] [te : TyD P e d] [ti : TyI P e sz by_ z]
  (ha : aggB d = true) (hx : ρ x = .agg vs.toArray) (hy : ρ y = .int k a) (h0 : 0 ≤ a) (h1 : a < n) (hl : a.toNat * sz + sz ≤ vs.length) (hu : (vs.drop (a.toNat * sz)).take sz = u) (kk : K (.agg u.toArray) h) : AOp P ⟨dst, .index t x y, ty, pos, aft, g⟩ ρ h K :=
 .of_pure kk fun φ ac w r => by
  obtain ⟨cs, e1, hs, hr⟩ := (hx ▸ r.ev x (by simp [Op.operands])).agg_inv
  have e2 := (hy ▸ r.ev y (by simp [Op.operands])).int_inv
  have hsz : cs.size = vs.length := by rw [← hs]; simp
  refine ⟨.agg (cs.extract (a.toNat * sz) (a.toNat * sz + sz)), ?_, .agg _ _ ?_ fun j p q hp hq => ?_⟩
  ·
   simp [execOp, e1, e2, Instr.index, asIntOf, td.run, h0, h1, ti.size, part, te.isAgg, ha]
  ·
   subst hu
   simp
   omega
  ·
   subst hu
   simp only [List.getElem?_toArray] at hp
   have hj : j < sz := by
    have := (List.getElem?_eq_some_iff.1 hp).1
    simp at this
    omega
   rw [List.getElem?_take_of_lt hj, List.getElem?_drop] at hp
   rw [Array.getElem?_extract] at hq
   split at hq
   ·
    exact hr _ _ _ (by simpa using hp) hq
   ·
    cases hq
end
end Go.Eng
/- . -/
namespace Go.Proofs.YtigmojilaadbhaaGreatDoor
open Go Go.Eng Go.Pln Go.Lib
attribute [local irreducible] AWp AL DAL AOp
instance qet : FnC Tryz.prog 118 := ⟨Tryz.f118, Tryz.func118, by kernel_rfl, by kernel_rfl⟩
instance qdp : FnC Tryz.prog 119 := ⟨Tryz.f119, Tryz.func119, by kernel_rfl, by kernel_rfl⟩
instance qdE : FnC Tryz.prog 89 := ⟨Tryz.f89, Tryz.func89, by kernel_rfl, by kernel_rfl⟩
instance qgS : TyD Tryz.prog 175 (.struct #[fd "key" 4 0 "hectare/command" 0, fd "to" 4 1 "hectare/command" 1, fd "value" 4 2 "hectare/command" 2, fd "was" 4 3 "hectare/command" 3, fd "most" 4 4 "hectare/command" 4]) := ⟨Tryz.underlying175⟩
instance qgY : TyI Tryz.prog 175 5 5 (.agg #[.bool false, .bool false, .bool false, .bool false, .bool false]) := ⟨qaT (by kernel_rfl), rfl, rfl⟩
instance qgU : StD Tryz.prog 175 [(0, 1), (1, 1), (2, 1), (3, 1), (4, 1)] := ⟨_, Tryz.underlying175, by kernel_rfl⟩
instance qfn : FAd Tryz.prog 175 0 0 := FAd.mk' (ft := 4) Tryz.underlying175 rfl rfl rfl rfl
instance qfm : FAd Tryz.prog 175 1 1 := FAd.mk' (ft := 4) Tryz.underlying175 rfl rfl rfl rfl
instance qfr : FAd Tryz.prog 175 2 2 := FAd.mk' (ft := 4) Tryz.underlying175 rfl rfl rfl rfl
instance qfu : FAd Tryz.prog 175 3 3 := FAd.mk' (ft := 4) Tryz.underlying175 rfl rfl rfl rfl
instance qfh : FAd Tryz.prog 175 4 4 := FAd.mk' (ft := 4) Tryz.underlying175 rfl rfl rfl rfl
instance qfS : TyD Tryz.prog 176 (.array 6 175) := ⟨Tryz.underlying176⟩
instance qgp : TyI Tryz.prog 176 30 30 (.agg (Array.replicate 30 (.bool false))) := ⟨qaT (by kernel_rfl), rfl, rfl⟩
abbrev bT : Value := .bool true
abbrev bF : Value := .bool false
def asksV : List Value := [bF, bF, bF, bF, bF, bT, bF, bF, bF, bF, bT, bF, bT, bF, bF, bT, bF, bF, bF, bF, bT, bF, bT, bT, bF, bF, bT, bF, bF, bT]
theorem asks_c (h : Heap) : ACalls Tryz.prog 118 [] h fun u h' => u = .agg asksV.toArray ∧ h' = h := by
 refine ACalls.wf fun wf => ACalls.resetB ?_
 refine ACalls.body Tryz.func118 rfl rfl ?_
 repeat (first | refine W.w ?_ | refine AL.eff rfl (qaE (vs := asksV) rfl rfl rfl rfl rfl ?_) | (refine zz rfl ?_; first | refine qaw ?_ | refine qax (places := [(0, 1), (1, 1), (2, 1), (3, 1), (4, 1)]) rfl rfl ?_ | refine op_buildAr (out := asksV) rfl rfl ?_))
 exact ⟨_, ResV.cellA rfl rfl rfl (Heap.alloc_new _ _) (Nat.le_refl _), Bdd.plain (by kernel_rfl), wf.ext _, rfl, rfl⟩
theorem most_c (b : Bool) (n : Int) (h : Heap) : ACalls Tryz.prog 119 [.bool b, .int .i64 n] h fun u h' => u = .int .i64 (if b then n else 0) ∧ h' = h := by
 refine ACalls.body Tryz.func119 rfl rfl ?_
 cases b with
 | true =>
  repeat (first | refine W.w ?_ | refine AWp.c9 rfl ?_ | (refine zz rfl ?_; first | refine qac rfl ?_ | refine qae rfl ?_ | refine qad rfl ?_ | refine qaL rfl ?_))
  exact ⟨_, ResV.tmp rfl, rfl, rfl⟩
 | false =>
  repeat (first | refine W.w ?_ | refine AWp.c8 rfl ?_ | (refine zz rfl ?_; first | refine qae rfl ?_ | refine qad rfl ?_ | refine qaL rfl ?_))
  exact ⟨_, ResV.tmp rfl, rfl, rfl⟩
theorem most_t (n : Int) (h : Heap) : ACalls Tryz.prog 119 [.bool true, .int .i64 n] h fun u h' => u = .int .i64 n ∧ h' = h := most_c true n h
theorem most_f (n : Int) (h : Heap) : ACalls Tryz.prog 119 [.bool false, .int .i64 n] h fun u h' => u = .int .i64 0 ∧ h' = h := most_c false n h
structure Nm where
 k : Bool
 t : Bool
 v : Bool
 w : Bool
 m : Bool
def nmC (n : Nm) : List Value := [.bool n.k, .bool n.t, .bool n.v, .bool n.w, .bool n.m]
def nmOf (k : Int) : Nm := if k = 1 ∨ k = 3 then ⟨true, false, false, false, false⟩ else if k = 2 then ⟨true, false, true, false, false⟩ else if k = 4 then ⟨true, false, true, true, false⟩ else ⟨false, true, false, false, true⟩
abbrev P5 (n : Nm) (a : AskM) : Prop := (n.k = false ∨ 0 < a.key.length) ∧ a.key.length ≤ 24 ∧ a.to.length ≤ if n.t then 24 else 0
abbrev P6 (n : Nm) (a : AskM) : Prop := (a.value.length ≤ if n.v then 40 else 0) ∧ (a.was.length ≤ if n.w then 40 else 0) ∧ (a.none = false ∨ n.w = true ∧ a.was.length = 0)
abbrev P7 (n : Nm) (a : AskM) : Prop := P5 n a ∧ P6 n a ∧ (if n.m then 1 else 0) ≤ a.most ∧ a.most ≤ if n.m then 32 else 0
theorem mayAsk_nm {a : AskM} (h : 1 ≤ a.kind ∧ a.kind ≤ 5) : mayAsk a = decide (P7 (nmOf a.kind) a) := by
 have hk : a.kind = 1 ∨ a.kind = 2 ∨ a.kind = 3 ∨ a.kind = 4 ∨ a.kind = 5 := by omega
 unfold mayAsk
 rcases hk with e | e | e | e | e <;> simp only [e, nmOf, ← List.length_eq_zero_iff] <;> grind
theorem mayAsk_no {a : AskM} (h : ¬ (1 ≤ a.kind ∧ a.kind ≤ 5)) : mayAsk a = false := by
 unfold mayAsk
 grind
theorem qhS (p : AskV) (a : AskM) (h : Heap) (r : AskR h p a) : ACalls Tryz.prog 89 [.agg (askC p a).toArray] h fun u h' => u = .bool (mayAsk a) ∧ h' = h := by
 refine ACalls.wf fun wf => ACalls.reset ?_
 refine ACalls.body Tryz.func89 rfl rfl ?_
 repeat (first | refine W.w ?_ | refine zz rfl (qaa rfl ?_) | refine zz rfl (qaV rfl (by intro e; cases e) ?_))
 generalize hH : h.alloc _ = H
 have hg : H.get h.next = some ⟨askC p a, 29, true⟩ := hH ▸ Heap.alloc_new _ _
 have hx : Ext h H := hH ▸ wf.ext _
 have wfH : WF H := hH ▸ wf.alloc _
 clear hH
 obtain ⟨q1, q2, q3, q4⟩ := r.ext hx
 have xh := hx
 by_cases hk : 1 ≤ a.kind ∧ a.kind ≤ 5
 ·
  rw [mayAsk_nm hk]
  repeat (first | refine W.w ?_ | refine AWp.c9 rfl ?_ | (refine zz rfl ?_; first | refine qae rfl ?_ | refine qao rfl ?_ | refine qaf rfl rfl hg rfl ?_ | refine qak rfl rfl rfl (by omega) ?_ | refine qah (v := .bool _) rfl rfl ?_))
  refine AWp.cutI (α := Nm) (fun n => [(1, ptr h.next), (3, ptr H.next)]) (fun n => H.alloc ⟨nmC n, 175, true⟩) (fun n => n = nmOf a.kind) ?_ ?_
  ·
   have hu : (asksV.drop (a.kind.toNat * 5)).take 5 = nmC (nmOf a.kind) := by
    have hk5 : a.kind = 1 ∨ a.kind = 2 ∨ a.kind = 3 ∨ a.kind = 4 ∨ a.kind = 5 := by omega
    rcases hk5 with e | e | e | e | e <;> rw [e] <;> rfl
   refine AWp.draw (σ := [(0, .R), (1, .R), (2, .R), (3, .R), (4, .X), (5, .W)]) mixed (by kernel_rfl) ?_
   repeat (first | refine DAL.r rfl rfl rfl (fun h' hx hn => qao rfl ⟨rfl, rfl⟩) ?_ | refine DAL.r rfl rfl rfl (fun h' hx hn => qaf rfl rfl (hx.c _ _ hg) rfl ⟨rfl, rfl⟩) ?_ | refine DAL.r rfl rfl rfl (fun h' hx hn => qab rfl rfl (asks_c _) ⟨rfl, rfl⟩) ?_ | refine DAL.r rfl rfl rfl (fun h' hx hn => op_indexVA (nmC (nmOf a.kind)) rfl rfl rfl (by omega) (by omega) (by show a.kind.toNat * 5 + 5 ≤ 30; omega) hu ⟨rfl, rfl⟩) ?_)
   refine DAL.x rfl rfl rfl (qaw ⟨wfH.ext _, ?_⟩)
   refine DAL.w0 rfl rfl (qaE (vs := nmC (nmOf a.kind)) rfl rfl rfl rfl rfl ?_)
   refine DAL.nil ?_
   exact ⟨nmOf a.kind, rfl, Weak.same (EW.cons rfl (EW.cons rfl EW.nil))⟩
  ·
   rintro n hn
   have gn := Heap.alloc_new H ⟨nmC n, 175, true⟩
   have xn := wfH.ext ⟨nmC n, 175, true⟩
   generalize hHn : H.alloc ⟨nmC n, 175, true⟩ = Hn at gn xn ⊢
   clear hHn
   have hg' := xn.c _ _ hg
   have q1 := q1.ext xn
   have q2 := q2.ext xn
   have q3 := q3.ext xn
   have q4 := q4.ext xn
   clear hg
   have hg := hg'
   clear hg'
   repeat (first | refine W.w ?_ | refine zz rfl (qaY rfl ?_))
   refine AWp.cutI (α := Bool) (fun c => [(1, ptr h.next), (3, ptr H.next), (4, .func (.func 119) #[] #[]), (5, .bool c)]) (fun _ => Hn) (fun c => c = decide (P5 n a)) ?_ ?_
   ·
    refine AWp.drawR mixed (by kernel_rfl) ?_
    repeat' (first | refine DAL.skip rfl rfl rfl ?_ | refine DAL.nil ?_ | refine DAL.r rfl rfl rfl (fun h' hx hn => qae rfl ⟨rfl, rfl⟩) ?_ | refine DAL.r rfl rfl rfl (fun h' hx hn => qa4 rfl ⟨rfl, rfl⟩) ?_ | refine DAL.r rfl rfl rfl (fun h' hx hn => qaa rfl ⟨rfl, rfl⟩) ?_ | refine DAL.rB rfl rfl rfl (fun h' hx hn => qaf rfl rfl (hx.c _ _ gn) rfl ⟨rfl, rfl⟩) (fun c => ?_) (fun c => ?_) | refine DAL.r rfl rfl rfl (fun h' hx hn => qao rfl ⟨rfl, rfl⟩) ?_ | refine DAL.r rfl rfl rfl (fun h' hx hn => qaf rfl rfl (hx.c _ _ hg) rfl ⟨rfl, rfl⟩) ?_ | refine DAL.r rfl rfl rfl (fun h' hx hn => qaJ (q1.ext hx) rfl ⟨rfl, rfl⟩) ?_ | refine DAL.r rfl rfl rfl (fun h' hx hn => qaJ (q2.ext hx) rfl ⟨rfl, rfl⟩) ?_ | refine DAL.r rfl rfl rfl (fun h' hx hn => qab rfl rfl (most_t _ _) ⟨rfl, rfl⟩) ?_ | refine DAL.r rfl rfl rfl (fun h' hx hn => qab rfl rfl (most_f _ _) ⟨rfl, rfl⟩) ?_ | refine DAL.rP rfl rfl rfl (fun h' hx hn => qaX rfl rfl rfl ⟨rfl, rfl⟩) (fun c => ?_) (fun c => ?_) | refine DAL.r rfl rfl rfl (fun h' hx hn => qaL rfl ⟨rfl, rfl⟩) ?_ | refine DAL.r rfl rfl rfl (fun h' hx hn => qah (v := .bool _) rfl rfl ⟨rfl, rfl⟩) ?_)
    all_goals refine ⟨_, ?_, Weak.same (EW.cons rfl (EW.cons rfl (EW.cons rfl (EW.cons rfl EW.nil))))⟩
    all_goals clear q1 q2 q3 q4 hg gn xn hx wf wfH r xh
    all_goals grind
   rintro b5 h5
   repeat (first | refine AWp.seq ?_)
   refine AWp.cutI (α := Bool) (fun c => [(1, ptr h.next), (3, ptr H.next), (4, .func (.func 119) #[] #[]), (5, .bool b5), (6, .bool c)]) (fun _ => Hn) (fun c => c = decide (P6 n a)) ?_ ?_
   ·
    refine AWp.drawR mixed (by kernel_rfl) ?_
    repeat' (first | refine DAL.skip rfl rfl rfl ?_ | refine DAL.nil ?_ | refine DAL.r rfl rfl rfl (fun h' hx hn => qae rfl ⟨rfl, rfl⟩) ?_ | refine DAL.r rfl rfl rfl (fun h' hx hn => qa4 rfl ⟨rfl, rfl⟩) ?_ | refine DAL.r rfl rfl rfl (fun h' hx hn => qaa rfl ⟨rfl, rfl⟩) ?_ | refine DAL.rB rfl rfl rfl (fun h' hx hn => qaf rfl rfl (hx.c _ _ gn) rfl ⟨rfl, rfl⟩) (fun c => ?_) (fun c => ?_) | refine DAL.rB rfl rfl rfl (fun h' hx hn => qaf rfl rfl (hx.c _ _ hg) rfl ⟨rfl, rfl⟩) (fun c => ?_) (fun c => ?_) | refine DAL.r rfl rfl rfl (fun h' hx hn => qao rfl ⟨rfl, rfl⟩) ?_ | refine DAL.r rfl rfl rfl (fun h' hx hn => qaf rfl rfl (hx.c _ _ hg) rfl ⟨rfl, rfl⟩) ?_ | refine DAL.r rfl rfl rfl (fun h' hx hn => qaJ (q3.ext hx) rfl ⟨rfl, rfl⟩) ?_ | refine DAL.r rfl rfl rfl (fun h' hx hn => qaJ (q4.ext hx) rfl ⟨rfl, rfl⟩) ?_ | refine DAL.r rfl rfl rfl (fun h' hx hn => qab rfl rfl (most_t _ _) ⟨rfl, rfl⟩) ?_ | refine DAL.r rfl rfl rfl (fun h' hx hn => qab rfl rfl (most_f _ _) ⟨rfl, rfl⟩) ?_ | refine DAL.r rfl rfl rfl (fun h' hx hn => qam rfl rfl rfl (by omega) ⟨rfl, rfl⟩) ?_ | refine DAL.rP rfl rfl rfl (fun h' hx hn => qaX rfl rfl rfl ⟨rfl, rfl⟩) (fun c => ?_) (fun c => ?_) | refine DAL.r rfl rfl rfl (fun h' hx hn => qaL rfl ⟨rfl, rfl⟩) ?_ | refine DAL.r rfl rfl rfl (fun h' hx hn => qah (v := .bool _) rfl rfl ⟨rfl, rfl⟩) ?_)
    all_goals refine ⟨_, ?_, Weak.same (EW.cons rfl (EW.cons rfl (EW.cons rfl (EW.cons rfl (EW.cons rfl EW.nil)))))⟩
    all_goals clear q1 q2 q3 q4 hg gn xn hx wf wfH r xh
    all_goals grind
   rintro b6 h6
   have hx2 := xh.trans xn
   cases b5 with
   | false =>
    cases b6 with
    | false =>
     repeat (first | refine AWp.seq ?_)
     refine AWp.drawR mixed (by kernel_rfl) ?_
     repeat' (first | refine DAL.skip rfl rfl rfl ?_ | refine DAL.nil ?_ | refine DAL.r rfl rfl rfl (fun h' hx hn => qae rfl ⟨rfl, rfl⟩) ?_ | refine DAL.r rfl rfl rfl (fun h' hx hn => qaa rfl ⟨rfl, rfl⟩) ?_ | refine DAL.r rfl rfl rfl (fun h' hx hn => qah (v := .bool _) rfl rfl ⟨rfl, rfl⟩) ?_)
     repeat' (first | refine AWp.ret ?_)
     all_goals refine ⟨_, ResV.tmp rfl, rfl, hx2, congrArg Value.bool ?_, rfl⟩
     all_goals clear q1 q2 q3 q4 hg gn xn hx wf wfH r xh hx2
     all_goals grind
    | true =>
     repeat (first | refine AWp.seq ?_)
     refine AWp.drawR mixed (by kernel_rfl) ?_
     repeat' (first | refine DAL.skip rfl rfl rfl ?_ | refine DAL.nil ?_ | refine DAL.r rfl rfl rfl (fun h' hx hn => qae rfl ⟨rfl, rfl⟩) ?_ | refine DAL.r rfl rfl rfl (fun h' hx hn => qaa rfl ⟨rfl, rfl⟩) ?_ | refine DAL.r rfl rfl rfl (fun h' hx hn => qah (v := .bool _) rfl rfl ⟨rfl, rfl⟩) ?_)
     repeat' (first | refine AWp.ret ?_)
     all_goals refine ⟨_, ResV.tmp rfl, rfl, hx2, congrArg Value.bool ?_, rfl⟩
     all_goals clear q1 q2 q3 q4 hg gn xn hx wf wfH r xh hx2
     all_goals grind
   | true =>
    cases b6 with
    | false =>
     repeat (first | refine AWp.seq ?_)
     refine AWp.drawR mixed (by kernel_rfl) ?_
     repeat' (first | refine DAL.skip rfl rfl rfl ?_ | refine DAL.nil ?_ | refine DAL.r rfl rfl rfl (fun h' hx hn => qae rfl ⟨rfl, rfl⟩) ?_ | refine DAL.r rfl rfl rfl (fun h' hx hn => qaa rfl ⟨rfl, rfl⟩) ?_ | refine DAL.r rfl rfl rfl (fun h' hx hn => qah (v := .bool _) rfl rfl ⟨rfl, rfl⟩) ?_)
     repeat' (first | refine AWp.ret ?_)
     all_goals refine ⟨_, ResV.tmp rfl, rfl, hx2, congrArg Value.bool ?_, rfl⟩
     all_goals clear q1 q2 q3 q4 hg gn xn hx wf wfH r xh hx2
     all_goals grind
    | true =>
     repeat (first | refine AWp.seq ?_)
     refine AWp.drawR mixed (by kernel_rfl) ?_
     repeat' (first | refine DAL.skip rfl rfl rfl ?_ | refine DAL.nil ?_ | refine DAL.r rfl rfl rfl (fun h' hx hn => qae rfl ⟨rfl, rfl⟩) ?_ | refine DAL.r rfl rfl rfl (fun h' hx hn => qa4 rfl ⟨rfl, rfl⟩) ?_ | refine DAL.r rfl rfl rfl (fun h' hx hn => qaa rfl ⟨rfl, rfl⟩) ?_ | refine DAL.rB rfl rfl rfl (fun h' hx hn => qaf rfl rfl (hx.c _ _ gn) rfl ⟨rfl, rfl⟩) (fun c => ?_) (fun c => ?_) | refine DAL.r rfl rfl rfl (fun h' hx hn => qao rfl ⟨rfl, rfl⟩) ?_ | refine DAL.r rfl rfl rfl (fun h' hx hn => qaf rfl rfl (hx.c _ _ hg) rfl ⟨rfl, rfl⟩) ?_ | refine DAL.r rfl rfl rfl (fun h' hx hn => qab rfl rfl (most_t _ _) ⟨rfl, rfl⟩) ?_ | refine DAL.r rfl rfl rfl (fun h' hx hn => qab rfl rfl (most_f _ _) ⟨rfl, rfl⟩) ?_ | refine DAL.r rfl rfl rfl (fun h' hx hn => qak rfl rfl rfl (by omega) ⟨rfl, rfl⟩) ?_ | refine DAL.rP rfl rfl rfl (fun h' hx hn => qaX rfl rfl rfl ⟨rfl, rfl⟩) (fun c => ?_) (fun c => ?_) | refine DAL.r rfl rfl rfl (fun h' hx hn => qah (v := .bool _) rfl rfl ⟨rfl, rfl⟩) ?_)
     repeat' (first | refine AWp.ret ?_)
     all_goals refine ⟨_, ResV.tmp rfl, rfl, hx2, congrArg Value.bool ?_, rfl⟩
     all_goals clear q1 q2 q3 q4 hg gn xn hx wf wfH r xh hx2
     all_goals grind
 ·
  rw [mayAsk_no hk]
  repeat' (first | refine W.w ?_ | refine AL.skip rfl rfl ?_ | refine AWp.c8 rfl ?_ | (refine zz rfl ?_; first | refine qae rfl ?_ | refine qaa rfl ?_ | refine qao rfl ?_ | refine qaf rfl rfl hg rfl ?_ | refine qam rfl rfl rfl (by omega) ?_ | refine qaQ rfl rfl rfl (fun c => ?_) (fun c => ?_) | refine qah (v := .bool _) rfl rfl ?_))
  all_goals refine ⟨_, ResV.tmp rfl, rfl, hx, ?_, rfl⟩
  all_goals first | rfl | omega
instance qc1 : FnC Tryz.prog 148 := ⟨Tryz.f148, Tryz.func148, by kernel_rfl, by kernel_rfl⟩
instance qdv : FnC Tryz.prog 149 := ⟨Tryz.f149, Tryz.func149, by kernel_rfl, by kernel_rfl⟩
def moveOk (m : MoveM) : Bool := decide ((1 ≤ m.number ∧ m.number ≤ 2147483647) ∧ m.from_.length ≤ 24 ∧ (1 ≤ m.old ∧ m.old < 5) ∧ (1 ≤ m.new ∧ m.new < 5) ∧ ¬ m.old = m.new ∧ (m.end_ = false ∧ m.to.length = 0 ∨ m.end_ = true ∧ (1 ≤ m.to.length ∧ m.to.length ≤ 24) ∧ cmpI m.from_ m.to < 0))
def reqC (q : AskV) (r : ReqM) : List Value := [.int .i64 r.client, .int .i64 r.number, .int .i64 r.ask.kind, q.k, q.t, q.v, q.w, .bool r.ask.none, .int .i64 r.ask.most]
def reqOk (r : ReqM) : Bool := decide ((1 ≤ r.client ∧ r.client ≤ 4) ∧ (1 ≤ r.number ∧ r.number ≤ 2147483647) ∧ mayAsk r.ask = true)
theorem qgq (p : MoveV) (m : MoveM) (h : Heap) (r : MoveR h p m) : ACalls Tryz.prog 149 [.agg (moveC p m).toArray] h fun u h' => u = .bool (moveOk m) ∧ h' = h := by
 refine ACalls.wf fun wf => ACalls.reset ?_
 refine ACalls.body Tryz.func149 rfl rfl ?_
 repeat (first | refine W.w ?_ | refine zz rfl (qaa rfl ?_) | refine zz rfl (qaV rfl (by intro e; cases e) ?_))
 generalize hH : h.alloc _ = H
 have hg : H.get h.next = some ⟨moveC p m, 34, true⟩ := hH ▸ Heap.alloc_new _ _
 have hx : Ext h H := hH ▸ wf.ext _
 have wfH : WF H := hH ▸ wf.alloc _
 clear hH
 obtain ⟨q1, q2⟩ := r.ext hx
 repeat' (first | refine W.w ?_ | refine AL.skip rfl rfl ?_ | refine AWp.c8 rfl ?_ | refine AWp.c9 rfl ?_ | (refine zz rfl ?_; first | refine qae rfl ?_ | refine qaa rfl ?_ | refine qdF rfl rfl hg rfl (fun c => ?_) (fun c => ?_) | refine qao rfl ?_ | refine qaf rfl rfl hg rfl ?_ | refine qaJ q1 rfl ?_ | refine qaJ q2 rfl ?_ | refine qaR rfl rfl (qhM _ _) (fun c => ?_) (fun c => ?_) | refine qaR rfl rfl (qh2 _ _) (fun c => ?_) (fun c => ?_) | refine qaR rfl rfl (key_c _ _ _ q2) (fun c => ?_) (fun c => ?_) | refine qab rfl rfl (bcmp_c _ _ _ _ _ q1 q2) ?_ | refine qaQ rfl rfl rfl (fun c => ?_) (fun c => ?_) | refine qaL rfl ?_ | refine qah (v := .bool _) rfl rfl ?_))
 all_goals refine ⟨_, ResV.tmp rfl, rfl, hx, congrArg Value.bool ?_, rfl⟩
 all_goals clear q1 q2 hg hx wf wfH r
 all_goals grind [moveOk]
theorem mayReq_c (p : AskV) (m : ReqM) (h : Heap) (r : AskR h p m.ask) : ACalls Tryz.prog 148 [.agg (reqC p m).toArray] h fun u h' => u = .bool (reqOk m) ∧ h' = h := by
 refine ACalls.wf fun wf => ACalls.reset ?_
 refine ACalls.body Tryz.func148 rfl rfl ?_
 repeat (first | refine W.w ?_ | refine zz rfl (qaa rfl ?_) | refine zz rfl (qaV rfl (by intro e; cases e) ?_))
 generalize hH : h.alloc _ = H
 have hg : H.get h.next = some ⟨reqC p m, 32, true⟩ := hH ▸ Heap.alloc_new _ _
 have hx : Ext h H := hH ▸ wf.ext _
 have wfH : WF H := hH ▸ wf.alloc _
 clear hH
 have q := r.ext hx
 have cA := qhS p m.ask H q
 repeat' (first | refine W.w ?_ | refine AL.skip rfl rfl ?_ | (refine zz rfl ?_; first | refine qae rfl ?_ | refine qaa rfl ?_ | refine qao rfl ?_ | refine qaf rfl rfl hg rfl ?_ | refine qaj (sz := 7) rfl rfl hg (Nat.le_of_ble_eq_true rfl) ?_ | refine qaR rfl rfl (qhM _ _) (fun c => ?_) (fun c => ?_) | refine qaR rfl rfl cA (fun c => ?_) (fun c => ?_) | refine qaQ rfl rfl rfl (fun c => ?_) (fun c => ?_) | refine qah (v := .bool _) rfl rfl ?_))
 all_goals refine ⟨_, ResV.tmp rfl, rfl, hx, congrArg Value.bool ?_, rfl⟩
 all_goals clear q hg hx wf wfH r cA
 all_goals grind [reqOk]
def behindM (l : List EntM) (e : EntM) : Bool := entOk e && (match l.getLast? with
 | none => true
 | some x => decide (icmpM x e < 0))
theorem behind_c (u k1 v1 : Value) (l : List EntM) (e : EntM) (h : Heap) (r : RE h u l) (r1 : RB h k1 e.key) (r2 : RB h v1 e.value) : ACalls Tryz.prog 194 [u, .agg (entC k1 v1 e).toArray] h fun x h' => x = .bool (behindM l e) ∧ h' = h := by
 refine ACalls.wf fun wf => ACalls.reset ?_
 refine ACalls.body Tryz.func194 rfl rfl ?_
 repeat (first | refine W.w ?_ | refine zz rfl (qaa rfl ?_) | refine zz rfl (qaV rfl (by intro e; cases e) ?_))
 generalize hH : h.alloc _ = H
 have hg : H.get h.next = some ⟨entC k1 v1 e, 171, true⟩ := hH ▸ Heap.alloc_new _ _
 have hx : Ext h H := hH ▸ wf.ext _
 have wfH : WF H := hH ▸ wf.alloc _
 clear hH
 have q1 := r1.ext hx
 have q2 := r2.ext hx
 have hu := r.ext hx
 obtain ⟨ro, s1, s2, s3⟩ := hu.ex
 have hlen := r.len
 obtain ⟨ua, uc, hue⟩ := s1.slice
 have xh := hx
 cases he : entOk e with
 | false =>
  have ci := fun (h' : Heap) (hx : Ext H h') => he ▸ imay_c k1 v1 e h' (q1.ext hx) (q2.ext hx)
  skip
  refine AWp.drawR mixed (by kernel_rfl) ?_
  repeat' (first | refine DAL.skip rfl rfl rfl ?_ | refine DAL.nil ?_ | refine DAL.r rfl rfl rfl (fun h' hx hn => qae rfl ⟨rfl, rfl⟩) ?_ | refine DAL.r rfl rfl rfl (fun h' hx hn => qaa rfl ⟨rfl, rfl⟩) ?_ | refine DAL.r rfl rfl rfl (fun h' hx hn => qaj (sz := 4) rfl rfl (hx.c _ _ hg) (Nat.le_refl _) ⟨rfl, rfl⟩) ?_ | refine DAL.r rfl rfl rfl (fun h' hx hn => qab rfl rfl (ci h' hx) ⟨rfl, rfl⟩) ?_ | refine DAL.r rfl rfl rfl (fun h' hx hn => qah (v := .bool _) rfl rfl ⟨rfl, rfl⟩) ?_)
  repeat' (first | refine AWp.ret ?_)
  all_goals refine ⟨_, ResV.tmp rfl, rfl, xh, congrArg Value.bool ?_, rfl⟩
  all_goals simp [behindM, he]
 | true =>
  have ci := fun (h' : Heap) (hx : Ext H h') => he ▸ imay_c k1 v1 e h' (q1.ext hx) (q2.ext hx)
  by_cases hl : l.length = 0
  ·
   have hl0 : l = [] := List.length_eq_zero_iff.1 hl
   skip
   refine AWp.drawR mixed (by kernel_rfl) ?_
   repeat' (first | refine DAL.skip rfl rfl rfl ?_ | refine DAL.nil ?_ | refine DAL.r rfl rfl rfl (fun h' hx hn => qae rfl ⟨rfl, rfl⟩) ?_ | refine DAL.r rfl rfl rfl (fun h' hx hn => qaa rfl ⟨rfl, rfl⟩) ?_ | refine DAL.r rfl rfl rfl (fun h' hx hn => qaj (sz := 4) rfl rfl (hx.c _ _ hg) (Nat.le_refl _) ⟨rfl, rfl⟩) ?_ | refine DAL.r rfl rfl rfl (fun h' hx hn => qab rfl rfl (ci h' hx) ⟨rfl, rfl⟩) ?_ | refine DAL.r rfl rfl rfl (fun h' hx hn => qal (v := u) rfl ⟨rfl, rfl⟩) ?_ | refine DAL.r rfl rfl rfl (fun h' hx hn => qaB (s1.ext hx) rfl ⟨rfl, rfl⟩) ?_ | refine DAL.r rfl rfl rfl (fun h' hx hn => qam rfl rfl rfl (by omega) ⟨rfl, rfl⟩) ?_ | refine DAL.r rfl rfl rfl (fun h' hx hn => qah (v := .bool _) rfl rfl ⟨rfl, rfl⟩) ?_)
   repeat' (first | refine AWp.ret ?_)
   all_goals refine ⟨_, ResV.tmp rfl, rfl, xh, congrArg Value.bool ?_, rfl⟩
   all_goals simp [behindM, he, hl0]
  ·
   obtain ⟨x, hxl⟩ : ∃ x, l[l.length - 1]? = some x := ⟨_, List.getElem?_eq_getElem (by omega)⟩
   obtain ⟨ry, hry⟩ : ∃ ry, ro[l.length - 1]? = some ry := ⟨_, List.getElem?_eq_getElem (by omega)⟩
   obtain ⟨k2, v2, rfl, b1, b2⟩ := s3 _ _ _ hry hxl
   have hu2 : ro[(((ro.length : Nat) : Int) - 1).toNat]? = some (entC k2 v2 x) := by rw [show (((ro.length : Nat) : Int) - 1).toNat = l.length - 1 by omega]; exact hry
   have pe := s1.elt hu2
   have cc := fun (h' : Heap) (hx : Ext H h') => icmp_c k2 v2 k1 v1 x e h' (b1.ext hx) (q1.ext hx)
   skip
   refine AWp.drawR mixed (by kernel_rfl) ?_
   repeat' (first | refine DAL.nil ?_ | refine DAL.r rfl rfl rfl (fun h' hx hn => qae rfl ⟨rfl, rfl⟩) ?_ | refine DAL.r rfl rfl rfl (fun h' hx hn => qaa rfl ⟨rfl, rfl⟩) ?_ | refine DAL.r rfl rfl rfl (fun h' hx hn => qaj (sz := 4) rfl rfl (hx.c _ _ hg) (Nat.le_refl _) ⟨rfl, rfl⟩) ?_ | refine DAL.r rfl rfl rfl (fun h' hx hn => qab rfl rfl (ci h' hx) ⟨rfl, rfl⟩) ?_ | refine DAL.r rfl rfl rfl (fun h' hx hn => qal (v := u) rfl ⟨rfl, rfl⟩) ?_ | refine DAL.r rfl rfl rfl (fun h' hx hn => qaB (s1.ext hx) rfl ⟨rfl, rfl⟩) ?_ | refine DAL.r rfl rfl rfl (fun h' hx hn => qaG (s1.ext hx) rfl rfl (by omega) hu2 ⟨rfl, rfl⟩) ?_ | refine DAL.r rfl rfl rfl (fun h' hx hn => qa1 (pe.ext hx) rfl rfl rfl ⟨rfl, rfl⟩) ?_ | refine DAL.r rfl rfl rfl (fun h' hx hn => qab rfl rfl (cc h' hx) ⟨rfl, rfl⟩) ?_ | refine DAL.r rfl rfl rfl (fun h' hx hn => qbU rfl rfl (by omega) ⟨rfl, rfl⟩) ?_ | refine DAL.r rfl rfl rfl (fun h' hx hn => qak rfl rfl rfl (by omega) ⟨rfl, rfl⟩) ?_ | refine DAL.rP rfl rfl rfl (fun h' hx hn => qaX rfl rfl rfl ⟨rfl, rfl⟩) (fun c => ?_) (fun c => ?_) | refine DAL.r rfl rfl rfl (fun h' hx hn => qah (v := .bool _) rfl rfl ⟨rfl, rfl⟩) ?_)
   repeat' (first | refine AWp.ret ?_)
   all_goals refine ⟨_, ResV.tmp rfl, rfl, xh, congrArg Value.bool ?_, rfl⟩
   all_goals simp [behindM, List.getLast?_eq_getElem?, *]
end Go.Proofs.YtigmojilaadbhaaGreatDoor
