/-
  Texts of one claim, merged: 4 parts.
-/
import Derived.Test.YtigmojilaadbhaaGreatDoorMuv
set_option maxHeartbeats 16000000
/- . -/
namespace Go.Proofs.YtigmojilaadbhaaGreatDoor
open Go Go.Eng Go.Pln Go.Lib
attribute [local irreducible] AWp AL DAL AOp TAL
instance i_rrising : FnC Tryz.prog 175 := ⟨Tryz.f175, Tryz.func175, by kernel_rfl, by kernel_rfl⟩
instance i_rmayMove : FnC Tryz.prog 174 := ⟨Tryz.f174, Tryz.func174, by kernel_rfl, by kernel_rfl⟩
instance i_rmayAsk : FnC Tryz.prog 122 := ⟨Tryz.f122, Tryz.func122, by kernel_rfl, by kernel_rfl⟩
instance i_rmayReq : FnC Tryz.prog 173 := ⟨Tryz.f173, Tryz.func173, by kernel_rfl, by kernel_rfl⟩
theorem goodAt_iff {l : List EntM} {k : Nat} {e : EntM} (he : l[k]? = some e) : goodAt l k ↔ behindM (l.take k) e = true := ⟨fun g => g e he, fun b x hx => by rw [he] at hx; cases hx; exact b⟩
theorem behind_at {l : List EntM} {k : Nat} {x e : EntM} (hx : l[k]? = some x) : behindM (l.take (k + 1)) e = (entOk e && decide (icmpM x e < 0)) := by
 unfold behindM
 rw [List.take_add_one, hx]
 simp
theorem rrising_c (u : Value) (l : List EntM) (h : Heap) (r : RE h u l) : ACalls Tryz.prog 175 [u] h fun x h' => x = .bool (risingM l) ∧ h' = h := by
 refine ACalls.body Tryz.func175 rfl rfl ?_
 obtain ⟨ro, s1, s2, s3⟩ := r.ex
 have hlen := r.len
 obtain ⟨ua, uc, hu⟩ := s1.slice
 repeat (first | refine W.w ?_ | refine zz rfl (qad rfl ?_) | refine zz rfl (qaa rfl ?_))
 refine AWp.loop (α := Nat) (fun k => [(0, u), (3, .int .i64 (k : Nat))]) (fun _ => h) (fun k => k ≤ l.length ∧ ∀ i, i < k → goodAt l i) (fun k => l.length - k) 0 ⟨Nat.zero_le _, fun i hi => absurd hi (Nat.not_lt_zero _)⟩ (Weak.same (EW.cons rfl (EW.cons rfl EW.nil))) ?_
 rintro k ⟨hk, hgd⟩
 by_cases hlt : k < l.length
 ·
  obtain ⟨e, hle⟩ : ∃ e, l[k]? = some e := ⟨_, List.getElem?_eq_getElem hlt⟩
  obtain ⟨row, hrow⟩ : ∃ row, ro[k]? = some row := ⟨_, List.getElem?_eq_getElem (by omega)⟩
  obtain ⟨k1, v1, rfl, b1, b2⟩ := s3 _ _ _ hrow hle
  have hrw : ro[((k : Nat) : Int).toNat]? = some (entC k1 v1 e) := hrow
  have pe := s1.elt hrw
  have hit := goodAt_iff hle
  have step : goodAt l k → ∀ i, i < k + 1 → goodAt l i := fun g i hi => by
   rcases Nat.lt_or_ge i k with h1 | h1
   ·
    exact hgd i h1
   ·
    obtain rfl : i = k := by omega
    exact g
  have fin : ¬ goodAt l k → risingM l = false := fun g => by
   rw [qc4 l k hk hgd (.inr g), decide_eq_false (by omega)]
  cases he : entOk e with
  | false =>
   have hf : ¬ goodAt l k := by rw [hit]; simp [behindM, he]
   have ci := fun (h' : Heap) (hx : Ext h h') => he ▸ rimay_c k1 v1 e h' (b1.ext hx) (b2.ext hx)
   repeat (first | refine W.w ?_ | refine AWp.c8 rfl ?_ | (refine zz rfl ?_; first | refine qac rfl ?_ | refine qal (v := u) rfl ?_ | refine qaB s1 rfl ?_ | refine qam rfl rfl rfl (by omega) ?_))
   refine AWp.drawR mixed (by kernel_rfl) ?_
   repeat' (first | refine DAL.skip rfl rfl rfl ?_ | refine DAL.nil ?_ | refine DAL.r rfl rfl rfl (fun h' hx hn => qac rfl ⟨rfl, rfl⟩) ?_ | refine DAL.r rfl rfl rfl (fun h' hx hn => qae rfl ⟨rfl, rfl⟩) ?_ | refine DAL.r rfl rfl rfl (fun h' hx hn => qal (v := u) rfl ⟨rfl, rfl⟩) ?_ | refine DAL.r rfl rfl rfl (fun h' hx hn => qaG (s1.ext hx) rfl rfl (by omega) hrw ⟨rfl, rfl⟩) ?_ | refine DAL.r rfl rfl rfl (fun h' hx hn => qa1 (pe.ext hx) rfl rfl rfl ⟨rfl, rfl⟩) ?_ | refine DAL.r rfl rfl rfl (fun h' hx hn => qab rfl rfl (ci h' hx) ⟨rfl, rfl⟩) ?_ | refine DAL.r rfl rfl rfl (fun h' hx hn => qaL rfl ⟨rfl, rfl⟩) ?_ | refine DAL.r rfl rfl rfl (fun h' hx hn => qah (v := .bool _) rfl rfl ⟨rfl, rfl⟩) ?_)
   repeat' (first | refine W.w ?_ | refine AWp.c8 rfl ?_ | refine zz rfl (qaa rfl ?_))
   all_goals exact ⟨_, ResV.tmp rfl, congrArg Value.bool (fin hf).symm, rfl⟩
  | true =>
   have ci := fun (h' : Heap) (hx : Ext h h') => he ▸ rimay_c k1 v1 e h' (b1.ext hx) (b2.ext hx)
   match k, hk, hgd, hlt, hle, hrow, hrw, pe, hit, step, fin with
   | 0, hk, hgd, hlt, hle, hrow, hrw, pe, hit, step, fin =>
    have hf : goodAt l 0 := by rw [hit]; simp [behindM, he]
    repeat (first | refine W.w ?_ | refine AWp.c8 rfl ?_ | (refine zz rfl ?_; first | refine qac rfl ?_ | refine qal (v := u) rfl ?_ | refine qaB s1 rfl ?_ | refine qam rfl rfl rfl (by omega) ?_))
    refine AWp.drawR mixed (by kernel_rfl) ?_
    repeat' (first | refine DAL.skip rfl rfl rfl ?_ | refine DAL.nil ?_ | refine DAL.r rfl rfl rfl (fun h' hx hn => qac rfl ⟨rfl, rfl⟩) ?_ | refine DAL.r rfl rfl rfl (fun h' hx hn => qae rfl ⟨rfl, rfl⟩) ?_ | refine DAL.r rfl rfl rfl (fun h' hx hn => qal (v := u) rfl ⟨rfl, rfl⟩) ?_ | refine DAL.r rfl rfl rfl (fun h' hx hn => qaG (s1.ext hx) rfl rfl (by omega) hrw ⟨rfl, rfl⟩) ?_ | refine DAL.r rfl rfl rfl (fun h' hx hn => qa1 (pe.ext hx) rfl rfl rfl ⟨rfl, rfl⟩) ?_ | refine DAL.r rfl rfl rfl (fun h' hx hn => qab rfl rfl (ci h' hx) ⟨rfl, rfl⟩) ?_ | refine DAL.r rfl rfl rfl (fun h' hx hn => qak rfl rfl rfl (by omega) ⟨rfl, rfl⟩) ?_ | refine DAL.r rfl rfl rfl (fun h' hx hn => qaL rfl ⟨rfl, rfl⟩) ?_ | refine DAL.r rfl rfl rfl (fun h' hx hn => qah (v := .bool _) rfl rfl ⟨rfl, rfl⟩) ?_)
    repeat' (first | refine W.w ?_ | refine AWp.c9 rfl ?_ | (refine zz rfl ?_; first | refine qac rfl ?_ | refine qad rfl ?_ | refine qas rfl rfl (by omega) ?_))
    all_goals exact ⟨1, ⟨hlt, step hf⟩, by omega, Weak.same (EW.cons rfl (EW.cons rfl EW.nil))⟩
   | j + 1, hk, hgd, hlt, hle, hrow, hrw, pe, hit, step, fin =>
    obtain ⟨x, hlx⟩ : ∃ x, l[j]? = some x := ⟨_, List.getElem?_eq_getElem (by omega)⟩
    obtain ⟨rx, hrx⟩ : ∃ rx, ro[j]? = some rx := ⟨_, List.getElem?_eq_getElem (by omega)⟩
    obtain ⟨k2, v2, rfl, c1, c2⟩ := s3 _ _ _ hrx hlx
    have hrw2 : ro[(((j + 1 : Nat) : Int) - 1).toNat]? = some (entC k2 v2 x) := by rw [show (((j + 1 : Nat) : Int) - 1).toNat = j by omega]; exact hrx
    have px := s1.elt hrw2
    have hox : entOk x = true := by
     have := hgd j (by omega) x hlx
     unfold behindM at this
     rw [Bool.and_eq_true] at this
     exact this.1
    have e1 := of_decide_eq_true he
    have e2 := of_decide_eq_true hox
    have cc := fun (h' : Heap) (hx : Ext h h') => ricmp_c k2 v2 k1 v1 x e h' (c1.ext hx) (b1.ext hx) (by omega) (by omega)
    have hb := behind_at (e := e) hlx
    rw [he, Bool.true_and] at hb
    rw [hb] at hit
    by_cases hc : icmpM x e < 0
    ·
     have hf : goodAt l (j + 1) := hit.2 (decide_eq_true hc)
     repeat (first | refine W.w ?_ | refine AWp.c8 rfl ?_ | (refine zz rfl ?_; first | refine qac rfl ?_ | refine qal (v := u) rfl ?_ | refine qaB s1 rfl ?_ | refine qam rfl rfl rfl (by omega) ?_))
     refine AWp.drawR mixed (by kernel_rfl) ?_
     repeat' (first | refine DAL.nil ?_ | refine DAL.r rfl rfl rfl (fun h' hx hn => qac rfl ⟨rfl, rfl⟩) ?_ | refine DAL.r rfl rfl rfl (fun h' hx hn => qae rfl ⟨rfl, rfl⟩) ?_ | refine DAL.r rfl rfl rfl (fun h' hx hn => qal (v := u) rfl ⟨rfl, rfl⟩) ?_ | refine DAL.r rfl rfl rfl (fun h' hx hn => qaG (s1.ext hx) rfl rfl (by omega) hrw2 ⟨rfl, rfl⟩) ?_ | refine DAL.r rfl rfl rfl (fun h' hx hn => qaG (s1.ext hx) rfl rfl (by omega) hrw ⟨rfl, rfl⟩) ?_ | refine DAL.r rfl rfl rfl (fun h' hx hn => qa1 (px.ext hx) rfl rfl rfl ⟨rfl, rfl⟩) ?_ | refine DAL.r rfl rfl rfl (fun h' hx hn => qa1 (pe.ext hx) rfl rfl rfl ⟨rfl, rfl⟩) ?_ | refine DAL.r rfl rfl rfl (fun h' hx hn => qab rfl rfl (ci h' hx) ⟨rfl, rfl⟩) ?_ | refine DAL.r rfl rfl rfl (fun h' hx hn => qab rfl rfl (cc h' hx) ⟨rfl, rfl⟩) ?_ | refine DAL.r rfl rfl rfl (fun h' hx hn => qak rfl rfl rfl (by omega) ⟨rfl, rfl⟩) ?_ | refine DAL.r rfl rfl rfl (fun h' hx hn => qbU rfl rfl (by omega) ⟨rfl, rfl⟩) ?_ | refine DAL.r rfl rfl rfl (fun h' hx hn => qam rfl rfl rfl (by omega) ⟨rfl, rfl⟩) ?_ | refine DAL.r rfl rfl rfl (fun h' hx hn => qaL rfl ⟨rfl, rfl⟩) ?_ | refine DAL.r rfl rfl rfl (fun h' hx hn => qah (v := .bool _) rfl rfl ⟨rfl, rfl⟩) ?_)
     repeat' (first | refine W.w ?_ | refine AWp.c9 rfl ?_ | (refine zz rfl ?_; first | refine qac rfl ?_ | refine qad rfl ?_ | refine qas rfl rfl (by omega) ?_))
     all_goals exact ⟨j + 2, ⟨hlt, step hf⟩, by omega, Weak.same (EW.cons rfl (EW.cons rfl EW.nil))⟩
    ·
     have hf : ¬ goodAt l (j + 1) := fun g => hc (of_decide_eq_true (hit.1 g))
     repeat (first | refine W.w ?_ | refine AWp.c8 rfl ?_ | (refine zz rfl ?_; first | refine qac rfl ?_ | refine qal (v := u) rfl ?_ | refine qaB s1 rfl ?_ | refine qam rfl rfl rfl (by omega) ?_))
     refine AWp.drawR mixed (by kernel_rfl) ?_
     repeat' (first | refine DAL.nil ?_ | refine DAL.r rfl rfl rfl (fun h' hx hn => qac rfl ⟨rfl, rfl⟩) ?_ | refine DAL.r rfl rfl rfl (fun h' hx hn => qae rfl ⟨rfl, rfl⟩) ?_ | refine DAL.r rfl rfl rfl (fun h' hx hn => qal (v := u) rfl ⟨rfl, rfl⟩) ?_ | refine DAL.r rfl rfl rfl (fun h' hx hn => qaG (s1.ext hx) rfl rfl (by omega) hrw2 ⟨rfl, rfl⟩) ?_ | refine DAL.r rfl rfl rfl (fun h' hx hn => qaG (s1.ext hx) rfl rfl (by omega) hrw ⟨rfl, rfl⟩) ?_ | refine DAL.r rfl rfl rfl (fun h' hx hn => qa1 (px.ext hx) rfl rfl rfl ⟨rfl, rfl⟩) ?_ | refine DAL.r rfl rfl rfl (fun h' hx hn => qa1 (pe.ext hx) rfl rfl rfl ⟨rfl, rfl⟩) ?_ | refine DAL.r rfl rfl rfl (fun h' hx hn => qab rfl rfl (ci h' hx) ⟨rfl, rfl⟩) ?_ | refine DAL.r rfl rfl rfl (fun h' hx hn => qab rfl rfl (cc h' hx) ⟨rfl, rfl⟩) ?_ | refine DAL.r rfl rfl rfl (fun h' hx hn => qam rfl rfl rfl (by omega) ⟨rfl, rfl⟩) ?_ | refine DAL.r rfl rfl rfl (fun h' hx hn => qbU rfl rfl (by omega) ⟨rfl, rfl⟩) ?_ | refine DAL.r rfl rfl rfl (fun h' hx hn => qaL rfl ⟨rfl, rfl⟩) ?_ | refine DAL.r rfl rfl rfl (fun h' hx hn => qah (v := .bool _) rfl rfl ⟨rfl, rfl⟩) ?_)
     repeat' (first | refine W.w ?_ | refine AWp.c8 rfl ?_ | refine zz rfl (qaa rfl ?_))
     all_goals exact ⟨_, ResV.tmp rfl, congrArg Value.bool (fin hf).symm, rfl⟩
 ·
  obtain rfl : k = l.length := by omega
  have hr := qc4 l l.length (Nat.le_refl _) hgd (.inl rfl)
  rw [decide_eq_true rfl] at hr
  repeat (first | refine AL.nil ?_ | refine AWp.seq ?_ | refine AWp.r9 ?_ | refine AWp.c9 rfl ?_ | refine AWp.ret ?_ | refine AWp.exit ?_ | (refine zz rfl ?_; first | refine qac rfl ?_ | refine qaa rfl ?_ | refine qal (v := u) rfl ?_ | refine qaB s1 rfl ?_ | refine qak rfl rfl rfl (by omega) ?_))
  exact ⟨_, ResV.tmp rfl, congrArg Value.bool hr.symm, rfl⟩
theorem op_sLssX {ρ : Operand → Value} {h : Heap} {K : Value → Heap → Prop} {dst : Option Tmp} {ty : TypeId} {pos : String} {aft : Array Edge} {g : Option (Nat × Bool)} {t t' : TypeId} {x y : Operand} {a b : Bytes} (hx : ρ x = str a) (hy : ρ y = str b) (kt : cmpI a b < 0 → K (.bool true) h) (kf : ¬ cmpI a b < 0 → K (.bool false) h) :
  AOp Tryz.prog ⟨dst, .binOp .lss t x y t', ty, pos, aft, g⟩ ρ h K := by
 by_cases hc : cmpI a b < 0
 ·
  exact qhu hx hy (by rw [qfb, ← cmpI_L, decide_eq_true hc]) (kt hc)
 ·
  exact qhu hx hy (by rw [qfb, ← cmpI_L, decide_eq_false hc]) (kf hc)
theorem qeI (p : MoveV) (m : MoveM) (h : Heap) (r : MoveR h p m) : ACalls Tryz.prog 174 [.agg (moveC p m).toArray] h fun u h' => u = .bool (moveOk m) ∧ h' = h := by
 refine ACalls.wf fun wf => ACalls.reset ?_
 refine ACalls.body Tryz.func174 rfl rfl ?_
 repeat (first | refine W.w ?_ | refine zz rfl (qaa rfl ?_) | refine zz rfl (qaV rfl (by intro e; cases e) ?_))
 generalize hH : h.alloc _ = H
 have hg : H.get h.next = some ⟨moveC p m, 34, true⟩ := hH ▸ Heap.alloc_new _ _
 have hx : Ext h H := hH ▸ wf.ext _
 have wfH : WF H := hH ▸ wf.alloc _
 clear hH
 obtain ⟨q1, q2⟩ := r.ext hx
 repeat' (first | refine W.w ?_ | refine AL.skip rfl rfl ?_ | refine AWp.c8 rfl ?_ | refine AWp.c9 rfl ?_ | (refine zz rfl ?_; first | refine qae rfl ?_ | refine qaa rfl ?_ | refine qdF rfl rfl hg rfl (fun c => ?_) (fun c => ?_) | refine qao rfl ?_ | refine qaf rfl rfl hg rfl ?_ | refine qaJ q1 rfl ?_ | refine qaJ q2 rfl ?_ | refine qaR rfl rfl (qf8 _ _) (fun c => ?_) (fun c => ?_) | refine qaR rfl rfl (rkey_c _ _ _ q2) (fun c => ?_) (fun c => ?_) | refine qap q1 rfl ?_ | refine qap q2 rfl ?_ | refine op_sLssX rfl rfl (fun c => ?_) (fun c => ?_) | refine qah (v := .bool _) rfl rfl ?_ | refine qaQ rfl rfl rfl (fun c => ?_) (fun c => ?_) | refine qaL rfl ?_))
 all_goals refine ⟨_, ResV.tmp rfl, rfl, hx, congrArg Value.bool ?_, rfl⟩
 all_goals clear q1 q2 hg hx wf wfH r
 all_goals grind [moveOk, keyOk]
def plainA (a : AskM) : Bool := decide (a.to.length = 0 ∧ a.was.length = 0 ∧ a.none = false ∧ a.most = 0)
theorem mayAsk_d (a : AskM) : mayAsk a = if a.kind = 1 ∨ a.kind = 3 then keyOk a.key && plainA a && decide (a.value.length = 0)
 else if a.kind = 2 then keyOk a.key && plainA a && decide (a.value.length ≤ 40)
 else if a.kind = 4 then decide (1 ≤ a.key.length ∧ a.key.length ≤ 24 ∧ a.value.length ≤ 40 ∧ a.was.length ≤ 40 ∧ ¬ (a.none = true ∧ 0 < a.was.length) ∧ a.to.length = 0 ∧ a.most = 0)
 else if a.kind = 5 then decide (a.key.length ≤ 24 ∧ a.to.length ≤ 24 ∧ 1 ≤ a.most ∧ a.most ≤ 32 ∧ a.value.length = 0 ∧ a.was.length = 0 ∧ a.none = false)
 else false := by
 unfold mayAsk plainA keyOk
 simp only [List.length_eq_zero_iff]
 by_cases k1 : a.kind = 1 ∨ a.kind = 3
 ·
  rw [if_pos k1, if_pos k1, Bool.eq_iff_iff]
  simp only [Bool.and_eq_true, decide_eq_true_iff]
  grind
 rw [if_neg k1, if_neg k1]
 by_cases k2 : a.kind = 2
 ·
  rw [if_pos k2, if_pos k2, Bool.eq_iff_iff]
  simp only [Bool.and_eq_true, decide_eq_true_iff]
  grind
 rw [if_neg k2, if_neg k2]
theorem qgd (p : AskV) (a : AskM) (h : Heap) (r : AskR h p a) : ACalls Tryz.prog 122 [.agg (askC p a).toArray] h fun u h' => u = .bool (mayAsk a) ∧ h' = h := by
 refine ACalls.wf fun wf => ACalls.reset ?_
 refine ACalls.body Tryz.func122 rfl rfl ?_
 refine AWp.seq ?_
 refine AWp.r9 ?_
 refine zz rfl (qaV rfl (by intro e; cases e) ?_)
 generalize hH : h.alloc _ = H
 have hg : H.get h.next = some ⟨askC p a, 29, true⟩ := hH ▸ Heap.alloc_new _ _
 have hx : Ext h H := hH ▸ wf.ext _
 clear hH
 obtain ⟨q1, q2, q3, q4⟩ := r.ext hx
 refine zz rfl (qaa rfl ?_)
 refine AL.nil ?_
 refine AWp.seqI (α := Unit) (fun _ => [(1, ptr h.next), (3, .bool (plainA a))]) (fun _ => H) (fun _ => True) ?_ fun _ _ => ?_
 ·
  repeat' (first | refine W.w ?_ | refine AL.skip rfl rfl ?_ | (refine zz rfl ?_; first | refine qae rfl ?_ | refine qaa rfl ?_ | refine qdF rfl rfl hg rfl (fun c => ?_) (fun c => ?_) | refine qao rfl ?_ | refine qaf rfl rfl hg rfl ?_ | refine qaJ q2 rfl ?_ | refine qaJ q4 rfl ?_ | refine qah (v := .bool _) rfl rfl ?_ | refine qaQ rfl rfl rfl (fun c => ?_) (fun c => ?_) | refine qaL rfl ?_))
  all_goals refine ⟨(), trivial, Weak.same (EW.cons rfl (EW.cons (congrArg Value.bool ?_) EW.nil))⟩
  all_goals clear q1 q2 q3 q4 hg hx wf r
  all_goals grind [plainA]
 ·
  rw [mayAsk_d]
  cases hp : plainA a
  all_goals (
   repeat' (first | refine W.w ?_ | refine AL.skip rfl rfl ?_ | refine AWp.c8 rfl ?_ | refine AWp.c9 rfl ?_ | (refine zz rfl ?_; first | refine qae rfl ?_ | refine qaa rfl ?_ | refine qdF rfl rfl hg rfl (fun c => ?_) (fun c => ?_) | refine qao rfl ?_ | refine qaf rfl rfl hg rfl ?_ | refine qaJ q1 rfl ?_ | refine qaJ q2 rfl ?_ | refine qaJ q3 rfl ?_ | refine qaJ q4 rfl ?_ | refine qaR rfl rfl (rkey_c _ _ _ q1) (fun c => ?_) (fun c => ?_) | refine qah (v := .bool _) rfl rfl ?_ | refine qaQ rfl rfl rfl (fun c => ?_) (fun c => ?_) | refine qaL rfl ?_))
   )
  all_goals refine ⟨_, ResV.tmp rfl, rfl, hx, congrArg Value.bool ?_, rfl⟩
  all_goals clear q1 q2 q3 q4 hg hx wf r
  all_goals grind [keyOk]
theorem rmayReq_c (p : AskV) (m : ReqM) (h : Heap) (r : AskR h p m.ask) : ACalls Tryz.prog 173 [.agg (reqC p m).toArray] h fun u h' => u = .bool (reqOk m) ∧ h' = h := by
 refine ACalls.wf fun wf => ACalls.reset ?_
 refine ACalls.body Tryz.func173 rfl rfl ?_
 repeat (first | refine W.w ?_ | refine zz rfl (qaa rfl ?_) | refine zz rfl (qaV rfl (by intro e; cases e) ?_))
 generalize hH : h.alloc _ = H
 have hg : H.get h.next = some ⟨reqC p m, 32, true⟩ := hH ▸ Heap.alloc_new _ _
 have hx : Ext h H := hH ▸ wf.ext _
 have wfH : WF H := hH ▸ wf.alloc _
 clear hH
 have q := r.ext hx
 have cA := qgd p m.ask H q
 repeat' (first | refine W.w ?_ | refine AL.skip rfl rfl ?_ | (refine zz rfl ?_; first | refine qae rfl ?_ | refine qaa rfl ?_ | refine qao rfl ?_ | refine qaf rfl rfl hg rfl ?_ | refine qaj (sz := 7) rfl rfl hg (Nat.le_of_ble_eq_true rfl) ?_ | refine qaR rfl rfl cA (fun c => ?_) (fun c => ?_) | refine qah (v := .bool _) rfl rfl ?_ | refine qaQ rfl rfl rfl (fun c => ?_) (fun c => ?_)))
 all_goals refine ⟨_, ResV.tmp rfl, rfl, hx, congrArg Value.bool ?_, rfl⟩
 all_goals clear q hg hx wf wfH r cA
 all_goals grind [reqOk]
instance i_rbare : FnC Tryz.prog 155 := ⟨Tryz.f155, Tryz.func155, by kernel_rfl, by kernel_rfl⟩
theorem rbare_c (p : CmdV) (m : CmdM) (h : Heap) (r : CmdR h p m) : ACalls Tryz.prog 155 [.agg (cmdC p m).toArray] h fun u h' => ∃ q, u = .tuple #[.agg (cmdC q (namedC m)).toArray, .bool (okC m)] ∧ CmdR h' q (namedC m) ∧ Ext h h' := by
 refine ACalls.wf fun wf => ?_
 refine ACalls.body Tryz.func155 rfl rfl ?_
 repeat (first | refine W.w ?_ | refine zz rfl (qaV rfl (by intro e; cases e) ?_))
 generalize hH : h.alloc _ = H1
 have hg1 : H1.get h.next = some ⟨cmdC p m, 37, true⟩ := hH ▸ Heap.alloc_new _ _
 have hx1 : Ext h H1 := hH ▸ wf.ext _
 have wf1 : WF H1 := hH ▸ wf.alloc _
 have n1 : h.next < H1.next := wf1.lt hg1
 clear hH
 repeat (first | refine W.w ?_ | refine zz rfl (qaa rfl ?_) | refine zz rfl (qaw ?_))
 generalize hH : H1.alloc _ = H2
 have g2 : H2.get H1.next = some ⟨cmdC cmdV0 cmd0, 37, true⟩ := hH ▸ Heap.alloc_new _ _
 have hx2 : Ext H1 H2 := hH ▸ wf1.ext _
 have wf2 : WF H2 := hH ▸ wf1.alloc _
 have n2 : H1.next < H2.next := wf2.lt g2
 have hg2 := hx2.c _ _ hg1
 clear hH
 repeat (first | refine W.w ?_ | refine AL.eff rfl (qaE (vs := cmdC cmdV0 { cmd0 with kind := m.kind }) rfl rfl rfl rfl rfl ?_) | (refine zz rfl ?_; first | refine qao rfl ?_ | refine qaf rfl rfl hg2 rfl ?_ | refine qax (out := cmdC cmdV0 { cmd0 with kind := m.kind }) rfl rfl ?_ | refine qaw ?_))
 have gl := Heap.alloc_new H2
 have hgx : ∀ b, (H2.alloc b).get h.next = some ⟨cmdC p m, 37, true⟩ := fun b => (wf2.ext b).c _ _ hg2
 have gj : ∀ b, (H2.alloc b).get H1.next = some ⟨cmdC cmdV0 cmd0, 37, true⟩ := fun b => (wf2.ext b).c _ _ g2
 have xl : ∀ b, Ext h (H2.alloc b) := fun b => hx1.trans (hx2.trans (wf2.ext b))
 have xf : ∀ b b', Ext h ((H2.alloc b).set H1.next b') := fun b b' => wf.ext_set (xl b) (Nat.le_of_lt n1) _
 clear hg1 hg2 g2 hx1 hx2 wf1
 by_cases k1 : m.kind = 1
 ·
  have hn : namedC m = { cmd0 with kind := m.kind } := by unfold namedC; grind
  have ho : okC m = true := by unfold okC; grind
  have hq : ∀ h', Ext h h' → CmdR h' cmdV0 { cmd0 with kind := m.kind } := fun h' _ => ⟨(CmdR.nil h').r, (CmdR.nil h').m, RE.nil h', RB.nil h', RB.nil h'⟩
  repeat (first | refine W.w ?_ | refine AWp.c8 rfl ?_ | refine AL.eff rfl (qan (vs := cmdC cmdV0 { cmd0 with kind := m.kind }) rfl rfl rfl rfl (gj _) rfl ?_) | (refine zz rfl ?_; first | refine qaa rfl ?_ | refine qaf rfl rfl (hgx _) rfl ?_ | refine qaj (sz := 20) rfl rfl (gl _) (Nat.le_refl _) ?_ | refine qam rfl rfl rfl (by omega) ?_))
  exact ⟨_, ResV.cell2 rfl rfl rfl (Heap.set_at _ _ _) (Nat.le_refl _), cmdV0, by rw [hn, ho]; rfl, by rw [hn]; exact hq _ (xf _ _), xf _ _⟩
 by_cases k2 : m.kind = 2
 ·
  have hn : namedC m = { cmd0 with kind := m.kind, req := m.req } := by unfold namedC; grind
  have hq : ∀ h', Ext h h' → CmdR h' { cmdV0 with r := p.r } { cmd0 with kind := m.kind, req := m.req } := fun h' x => ⟨(r.ext x).r, (CmdR.nil h').m, RE.nil h', RB.nil h', RB.nil h'⟩
  have ho : okC m = reqOk m.req := by unfold okC; grind
  repeat (first | refine W.w ?_ | refine AWp.c8 rfl ?_ | refine AWp.c9 rfl ?_ | refine AL.eff rfl (qbp (vs := reqC p.r m.req) rfl rfl rfl (qhI r.r) rfl ?_) | (refine zz rfl ?_; first | refine qaa rfl ?_ | refine qao rfl ?_ | refine qaf rfl rfl (hgx _) rfl ?_ | refine qaj (sz := 9) rfl rfl (hgx _) (Nat.le_of_ble_eq_true rfl) ?_ | refine qam rfl rfl rfl (by omega) ?_ | refine qak rfl rfl rfl (by omega) ?_))
  refine AWp.draw (σ := [(0, .R), (1, .R), (2, .R), (3, .R), (4, .W), (5, .R)]) mixed (by kernel_rfl) ?_
  repeat (first | refine DAL.r rfl rfl rfl (fun h' hx hn => qao rfl ⟨rfl, rfl⟩) ?_ | refine DAL.r rfl rfl rfl (fun h' hx hn => qaj (sz := 20) rfl rfl (hx.c _ _ (gl _)) (Nat.le_refl _) ⟨rfl, rfl⟩) ?_ | refine DAL.r rfl rfl rfl (fun h' hx hn => qaj (sz := 9) rfl rfl (hx.c _ _ (hgx _)) (Nat.le_of_ble_eq_true rfl) ⟨rfl, rfl⟩) ?_ | refine DAL.r rfl rfl rfl (fun h' hx hn => qab rfl rfl (rmayReq_c p.r m.req h' (r.r.ext ((xl _).trans hx))) ⟨rfl, rfl⟩) ?_)
  refine DAL.w0 rfl rfl (qan (vs := cmdC { cmdV0 with r := p.r } { cmd0 with kind := m.kind, req := m.req }) rfl rfl rfl (qa5 (hq h (Ext.refl h))) (gj _) rfl ?_)
  repeat (first | refine DAL.r rfl rfl rfl (fun h' hx hn => qaa rfl ⟨rfl, rfl⟩) ?_)
  refine DAL.nil ?_
  repeat (first | refine AWp.ret ?_)
  exact ⟨_, ResV.cell2 rfl rfl rfl (Heap.set_at _ _ _) (Nat.le_refl _), { cmdV0 with r := p.r }, by rw [hn, ho]; rfl, by rw [hn]; exact hq _ (xf _ _), xf _ _⟩
 by_cases k3 : m.kind = 3 ∨ m.kind = 5 ∨ m.kind = 9 ∨ m.kind = 10
 ·
  have hn : namedC m = { cmd0 with kind := m.kind, move := m.move } := by unfold namedC; grind
  have hq : ∀ h', Ext h h' → CmdR h' { cmdV0 with m := p.m } { cmd0 with kind := m.kind, move := m.move } := fun h' x => ⟨(CmdR.nil h').r, (r.ext x).m, RE.nil h', RB.nil h', RB.nil h'⟩
  have ho : okC m = moveOk m.move := by unfold okC; grind
  rcases k3 with k | k | k | k <;>
  ·
   repeat (first | refine W.w ?_ | refine AWp.c8 rfl ?_ | refine AWp.c9 rfl ?_ | refine AL.eff rfl (qbp (vs := moveC p.m m.move) rfl rfl rfl (qcO r.m) rfl ?_) | (refine zz rfl ?_; first | refine qaa rfl ?_ | refine qao rfl ?_ | refine qaf rfl rfl (hgx _) rfl ?_ | refine qaj (sz := 6) rfl rfl (hgx _) (Nat.le_of_ble_eq_true rfl) ?_ | refine qam rfl rfl rfl (by omega) ?_ | refine qak rfl rfl rfl (by omega) ?_))
   refine AWp.draw (σ := [(0, .R), (1, .R), (2, .R), (3, .R), (4, .W), (5, .R)]) mixed (by kernel_rfl) ?_
   repeat (first | refine DAL.r rfl rfl rfl (fun h' hx hn => qao rfl ⟨rfl, rfl⟩) ?_ | refine DAL.r rfl rfl rfl (fun h' hx hn => qaj (sz := 20) rfl rfl (hx.c _ _ (gl _)) (Nat.le_refl _) ⟨rfl, rfl⟩) ?_ | refine DAL.r rfl rfl rfl (fun h' hx hn => qaj (sz := 6) rfl rfl (hx.c _ _ (hgx _)) (Nat.le_of_ble_eq_true rfl) ⟨rfl, rfl⟩) ?_ | refine DAL.r rfl rfl rfl (fun h' hx hn => qab rfl rfl (qeI p.m m.move h' (r.m.ext ((xl _).trans hx))) ⟨rfl, rfl⟩) ?_)
   refine DAL.w0 rfl rfl (qan (vs := cmdC { cmdV0 with m := p.m } { cmd0 with kind := m.kind, move := m.move }) rfl rfl rfl (qa5 (hq h (Ext.refl h))) (gj _) rfl ?_)
   repeat (first | refine DAL.r rfl rfl rfl (fun h' hx hn => qaa rfl ⟨rfl, rfl⟩) ?_)
   refine DAL.nil ?_
   repeat (first | refine AWp.ret ?_)
   exact ⟨_, ResV.cell2 rfl rfl rfl (Heap.set_at _ _ _) (Nat.le_refl _), { cmdV0 with m := p.m }, by rw [hn, ho]; rfl, by rw [hn]; exact hq _ (xf _ _), xf _ _⟩
 by_cases k4 : m.kind = 4
 ·
  have hn : namedC m = { cmd0 with kind := m.kind, move := m.move, entries := m.entries, answers := m.answers } := by unfold namedC; grind
  have hq : ∀ h', Ext h h' → CmdR h' { cmdV0 with m := p.m, e := p.e, n := p.n } { cmd0 with kind := m.kind, move := m.move, entries := m.entries, answers := m.answers } := fun h' x => ⟨(CmdR.nil h').r, (r.ext x).m, (r.ext x).e, (r.ext x).n, RB.nil h'⟩
  obtain ⟨ro, s1, s2, s3⟩ := r.e.ex
  have hel := r.e.len
  obtain ⟨ea, ec, hev⟩ := s1.slice
  obtain ⟨na, nc, hnv⟩ := RS.slice r.n
  rw [qaz] at hnv
  repeat (first | refine W.w ?_ | refine AWp.c8 rfl ?_ | refine AWp.c9 rfl ?_ | (refine zz rfl ?_; first | refine qaa rfl ?_ | refine qaf rfl rfl (hgx _) rfl ?_ | refine qam rfl rfl rfl (by omega) ?_ | refine qak rfl rfl rfl (by omega) ?_))
  refine AWp.treeJ (fun H => H.get h.next = some ⟨cmdC p m, 37, true⟩) (fun _ _ a b => b.c _ _ a) (t := OT.seq [(0, .P), (1, .S), (2, .P), (3, .S), (4, .P), (5, .S), (6, .P), (7, .W), (8, .P), (9, .W), (10, .P), (11, .W)] .nil) mixed (by kernel_rfl) (hgx _) ?_
  repeat (first | refine TAL.p rfl rfl rfl (fun h' hn => qao rfl ⟨rfl, rfl⟩) ?_ | refine TAL.s rfl rfl rfl (fun h' hn hx => qaf rfl rfl hx rfl ⟨rfl, rfl⟩) ?_ | refine TAL.s rfl rfl rfl (fun h' hn hx => qaj (sz := 6) rfl rfl hx (Nat.le_of_ble_eq_true rfl) ⟨rfl, rfl⟩) ?_)
  refine TAL.wj0 rfl rfl (qbp (vs := moveC p.m m.move) rfl rfl rfl (qcO r.m) rfl ⟨hgx _, ?_⟩)
  repeat (first | refine TAL.p rfl rfl rfl (fun h' hn => qao rfl ⟨rfl, rfl⟩) ?_)
  refine TAL.wj0 rfl rfl (qaD (v := p.e) rfl rfl r.e.one rfl ⟨hgx _, ?_⟩)
  repeat (first | refine TAL.p rfl rfl rfl (fun h' hn => qao rfl ⟨rfl, rfl⟩) ?_)
  refine TAL.wj0 rfl rfl (qaD (v := p.n) rfl rfl r.n.one.1 rfl ⟨hgx _, ?_⟩)
  refine TAL.nil ?_
  repeat (first | refine AWp.seq ?_)
  have gb : ∀ b, (H2.alloc b).get h.next = some ⟨cmdC p m, 37, true⟩ := hgx
  refine AWp.treeJ (fun H => H.get h.next = some ⟨cmdC p m, 37, true⟩) (fun _ _ a b => b.c _ _ a) (t := OT.seq [(0, .R), (1, .R), (2, .R), (3, .R), (4, .R), (5, .R), (6, .R), (7, .R), (8, .R), (9, .R), (10, .R), (11, .R), (12, .R), (13, .R), (14, .R), (15, .R), (16, .P), (17, .S), (18, .P), (19, .P), (20, .P), (21, .W), (22, .R)] .nil) mixed (by kernel_rfl) (hgx _) ?_
  repeat' (first | refine TAL.skip rfl rfl rfl ?_ | refine TAL.r rfl rfl rfl (fun h' hx hn => qae rfl ⟨rfl, rfl⟩) ?_ | refine TAL.rB rfl rfl rfl (fun h' hx hn => qab rfl rfl (qeI p.m m.move h' (r.m.ext ((xl _).trans hx))) ⟨rfl, rfl⟩) (fun c => ?_) (fun c => ?_) | refine TAL.rB rfl rfl rfl (fun h' hx hn => qab rfl rfl (rrising_c p.e m.entries h' (r.e.ext ((xl _).trans hx))) ⟨rfl, rfl⟩) (fun c => ?_) (fun c => ?_) | refine TAL.r rfl rfl rfl (fun h' hx hn => qao rfl ⟨rfl, rfl⟩) ?_ | refine TAL.r rfl rfl rfl (fun h' hx hn => qaf rfl rfl (hx.c _ _ (hgx _)) rfl ⟨rfl, rfl⟩) ?_ | refine TAL.r rfl rfl rfl (fun h' hx hn => qaj (sz := 20) rfl rfl (hx.c _ _ (gl _)) (Nat.le_refl _) ⟨rfl, rfl⟩) ?_ | refine TAL.r rfl rfl rfl (fun h' hx hn => qaj (sz := 6) rfl rfl (hx.c _ _ (hgx _)) (Nat.le_of_ble_eq_true rfl) ⟨rfl, rfl⟩) ?_ | refine TAL.r rfl rfl rfl (fun h' hx hn => qca hev ⟨rfl, rfl⟩) ?_ | refine TAL.p rfl rfl rfl (fun h' hn => qao rfl ⟨rfl, rfl⟩) ?_ | refine TAL.p rfl rfl rfl (fun h' hn => qca hnv ⟨rfl, rfl⟩) ?_ | refine TAL.s rfl rfl rfl (fun h' hn hx => qaf rfl rfl hx rfl ⟨rfl, rfl⟩) ?_ | refine TAL.rP rfl rfl rfl (fun h' hx hn => qaX rfl rfl rfl ⟨rfl, rfl⟩) (fun c => ?_) (fun c => ?_) | refine TAL.pP rfl rfl rfl (fun h' hn => qaX rfl rfl rfl ⟨rfl, rfl⟩) (fun c => ?_) (fun c => ?_) | refine TAL.r rfl rfl rfl (fun h' hx hn => qah (v := .bool _) rfl rfl ⟨rfl, rfl⟩) ?_ | refine TAL.p rfl rfl rfl (fun h' hn => qah (v := .bool _) rfl rfl ⟨rfl, rfl⟩) ?_)
  all_goals refine TAL.wj0 rfl rfl (qan (vs := cmdC { cmdV0 with m := p.m, e := p.e, n := p.n } { cmd0 with kind := m.kind, move := m.move, entries := m.entries, answers := m.answers }) rfl rfl rfl (qa5 (hq h (Ext.refl h))) (gj _) rfl ⟨(Heap.set_other (Nat.ne_of_lt n1)).trans (hgx _), ?_⟩)
  repeat' (first | refine TAL.nil ?_ | refine TAL.r rfl rfl rfl (fun h' hx hn => qaa rfl ⟨rfl, rfl⟩) ?_)
  repeat' (first | refine AWp.ret ?_)
  all_goals (
   exact ⟨_, ResV.cell2 rfl rfl rfl (Heap.set_at _ _ _) (Nat.le_refl _), { cmdV0 with m := p.m, e := p.e, n := p.n }, (by rw [hn]; first | (rw [show okC m = true by (unfold okC; grind)]; rfl) | (rw [show okC m = false by (unfold okC; grind)]; rfl)), by rw [hn]; exact hq _ (xf _ _), xf _ _⟩
   )
 by_cases k6 : m.kind = 6 ∨ m.kind = 7
 ·
  have hn : namedC m = { cmd0 with kind := m.kind, key := m.key } := by unfold namedC; grind
  have hq : ∀ h', Ext h h' → CmdR h' { cmdV0 with k := p.k } { cmd0 with kind := m.kind, key := m.key } := fun h' x => ⟨(CmdR.nil h').r, (CmdR.nil h').m, RE.nil h', RB.nil h', (r.ext x).k⟩
  have ho : okC m = keyOk m.key := by unfold okC; grind
  rcases k6 with k | k <;>
  ·
   repeat (first | refine W.w ?_ | refine AWp.c8 rfl ?_ | refine AWp.c9 rfl ?_ | refine AL.eff rfl (qaD (v := p.k) rfl rfl r.k.one.1 rfl ?_) | (refine zz rfl ?_; first | refine qaa rfl ?_ | refine qao rfl ?_ | refine qaf rfl rfl (hgx _) rfl ?_ | refine qam rfl rfl rfl (by omega) ?_ | refine qak rfl rfl rfl (by omega) ?_))
   refine AWp.draw (σ := [(0, .R), (1, .R), (2, .R), (3, .R), (4, .W), (5, .R)]) mixed (by kernel_rfl) ?_
   repeat (first | refine DAL.r rfl rfl rfl (fun h' hx hn => qao rfl ⟨rfl, rfl⟩) ?_ | refine DAL.r rfl rfl rfl (fun h' hx hn => qaf rfl rfl (hx.c _ _ (hgx _)) rfl ⟨rfl, rfl⟩) ?_ | refine DAL.r rfl rfl rfl (fun h' hx hn => qaj (sz := 20) rfl rfl (hx.c _ _ (gl _)) (Nat.le_refl _) ⟨rfl, rfl⟩) ?_ | refine DAL.r rfl rfl rfl (fun h' hx hn => qab rfl rfl (rkey_c p.k m.key h' (r.k.ext ((xl _).trans hx))) ⟨rfl, rfl⟩) ?_)
   refine DAL.w0 rfl rfl (qan (vs := cmdC { cmdV0 with k := p.k } { cmd0 with kind := m.kind, key := m.key }) rfl rfl rfl (qa5 (hq h (Ext.refl h))) (gj _) rfl ?_)
   repeat (first | refine DAL.r rfl rfl rfl (fun h' hx hn => qaa rfl ⟨rfl, rfl⟩) ?_)
   refine DAL.nil ?_
   repeat (first | refine AWp.ret ?_)
   exact ⟨_, ResV.cell2 rfl rfl rfl (Heap.set_at _ _ _) (Nat.le_refl _), { cmdV0 with k := p.k }, by rw [hn, ho]; rfl, by rw [hn]; exact hq _ (xf _ _), xf _ _⟩
 by_cases k8 : m.kind = 8
 ·
  have hn : namedC m = { cmd0 with kind := m.kind, key := m.key, group := m.group } := by unfold namedC; grind
  have hq : ∀ h', Ext h h' → CmdR h' { cmdV0 with k := p.k } { cmd0 with kind := m.kind, key := m.key, group := m.group } := fun h' x => ⟨(CmdR.nil h').r, (CmdR.nil h').m, RE.nil h', RB.nil h', (r.ext x).k⟩
  repeat (first | refine W.w ?_ | refine AWp.c8 rfl ?_ | refine AWp.c9 rfl ?_ | (refine zz rfl ?_; first | refine qaa rfl ?_ | refine qaf rfl rfl (hgx _) rfl ?_ | refine qam rfl rfl rfl (by omega) ?_ | refine qak rfl rfl rfl (by omega) ?_))
  refine AWp.treeJ (fun H => H.get h.next = some ⟨cmdC p m, 37, true⟩) (fun _ _ a b => b.c _ _ a) (t := OT.seq [(0, .P), (1, .S), (2, .P), (3, .S), (4, .P), (5, .W), (6, .P), (7, .W)] .nil) mixed (by kernel_rfl) (hgx _) ?_
  repeat (first | refine TAL.p rfl rfl rfl (fun h' hn => qao rfl ⟨rfl, rfl⟩) ?_ | refine TAL.s rfl rfl rfl (fun h' hn hx => qaf rfl rfl hx rfl ⟨rfl, rfl⟩) ?_)
  refine TAL.wj0 rfl rfl (qaD (v := p.k) rfl rfl r.k.one.1 rfl ⟨hgx _, ?_⟩)
  repeat (first | refine TAL.p rfl rfl rfl (fun h' hn => qao rfl ⟨rfl, rfl⟩) ?_)
  refine TAL.wj0 rfl rfl (qaD (v := .int .i64 m.group) rfl rfl rfl rfl ⟨hgx _, ?_⟩)
  refine TAL.nil ?_
  repeat (first | refine AWp.seq ?_)
  refine AWp.tree (t := OT.seq [(0, .R), (1, .R), (2, .R), (3, .R), (4, .R), (5, .R), (6, .R), (7, .R), (8, .R), (9, .P), (10, .W), (11, .R)] .nil) mixed (by kernel_rfl) ?_
  repeat' (first | refine TAL.skip rfl rfl rfl ?_ | refine TAL.r rfl rfl rfl (fun h' hx hn => qae rfl ⟨rfl, rfl⟩) ?_ | refine TAL.rB rfl rfl rfl (fun h' hx hn => qab rfl rfl (qf8 m.group h') ⟨rfl, rfl⟩) (fun c => ?_) (fun c => ?_) | refine TAL.r rfl rfl rfl (fun h' hx hn => qao rfl ⟨rfl, rfl⟩) ?_ | refine TAL.r rfl rfl rfl (fun h' hx hn => qaf rfl rfl (hx.c _ _ (hgx _)) rfl ⟨rfl, rfl⟩) ?_ | refine TAL.r rfl rfl rfl (fun h' hx hn => qaj (sz := 20) rfl rfl (hx.c _ _ (gl _)) (Nat.le_refl _) ⟨rfl, rfl⟩) ?_ | refine TAL.r rfl rfl rfl (fun h' hx hn => qaJ (r.k.ext ((xl _).trans hx)) rfl ⟨rfl, rfl⟩) ?_ | refine TAL.rP rfl rfl rfl (fun h' hx hn => qaX rfl rfl rfl ⟨rfl, rfl⟩) (fun c => ?_) (fun c => ?_) | refine TAL.p rfl rfl rfl (fun h' hn => qah (v := .bool _) rfl rfl ⟨rfl, rfl⟩) ?_)
  all_goals refine TAL.w0 rfl rfl (qan (vs := cmdC { cmdV0 with k := p.k } { cmd0 with kind := m.kind, key := m.key, group := m.group }) rfl rfl rfl (qa5 (hq h (Ext.refl h))) (gj _) rfl ?_)
  repeat' (first | refine TAL.nil ?_ | refine TAL.r rfl rfl rfl (fun h' hx hn => qaa rfl ⟨rfl, rfl⟩) ?_)
  repeat' (first | refine AWp.ret ?_)
  all_goals (
   exact ⟨_, ResV.cell2 rfl rfl rfl (Heap.set_at _ _ _) (Nat.le_refl _), { cmdV0 with k := p.k }, (by rw [hn]; first | (rw [show okC m = true by (unfold okC; grind)]; rfl) | (rw [show okC m = false by (unfold okC; grind)]; rfl)), by rw [hn]; exact hq _ (xf _ _), xf _ _⟩
   )
 ·
  have hn : namedC m = { cmd0 with kind := m.kind } := by unfold namedC; grind
  have ho : okC m = false := by unfold okC; grind
  have hq : ∀ h', Ext h h' → CmdR h' cmdV0 { cmd0 with kind := m.kind } := fun h' _ => ⟨(CmdR.nil h').r, (CmdR.nil h').m, RE.nil h', RB.nil h', RB.nil h'⟩
  repeat (first | refine W.w ?_ | refine AWp.c9 rfl ?_ | refine AL.eff rfl (qan (vs := cmdC cmdV0 { cmd0 with kind := m.kind }) rfl rfl rfl rfl (gj _) rfl ?_) | (refine zz rfl ?_; first | refine qaa rfl ?_ | refine qaf rfl rfl (hgx _) rfl ?_ | refine qaj (sz := 20) rfl rfl (gl _) (Nat.le_refl _) ?_ | refine qak rfl rfl rfl (by omega) ?_))
  exact ⟨_, ResV.cell2 rfl rfl rfl (Heap.set_at _ _ _) (Nat.le_refl _), cmdV0, by rw [hn, ho]; rfl, by rw [hn]; exact hq _ (xf _ _), xf _ _⟩
instance i_rkeep : FnC Tryz.prog 123 := ⟨Tryz.f123, Tryz.func123, by kernel_rfl, by kernel_rfl⟩
theorem rkeep_c (v : Value) (l : List (Bytes × Int)) (h : Heap) (r : RK h v l) : ACalls Tryz.prog 123 [v] h fun u h' => u = .bool (kp l) ∧ h' = h := by
 refine ACalls.body Tryz.func123 rfl rfl ?_
 obtain ⟨va, vc, hv⟩ := r.rn.slice
 have hml : (l.map keptR).length = l.length := List.length_map _
 by_cases hlen : 128 < l.length
 ·
  repeat (first | refine W.w ?_ | refine AWp.c8 rfl ?_ | (refine zz rfl ?_; first | refine qaa rfl ?_ | refine qal (v := v) rfl ?_ | refine qaB r.rn rfl ?_ | refine qam rfl rfl rfl (by omega) ?_))
  refine ⟨_, ResV.tmp rfl, congrArg Value.bool ?_, rfl⟩
  unfold kp
  rw [decide_eq_false (by omega), Bool.and_false]
 have hkp : kp l = keepOk l := by unfold kp; rw [decide_eq_true (by omega), Bool.and_true]
 rw [hkp]
 repeat (first | refine W.w ?_ | refine AWp.c9 rfl ?_ | (refine zz rfl ?_; first | refine qad rfl ?_ | refine qaa rfl ?_ | refine qal (v := v) rfl ?_ | refine qaB r.rn rfl ?_ | refine qak rfl rfl rfl (by omega) ?_))
 refine AWp.loop (α := Nat) (fun k => [(0, v), (3, .int .i64 (k : Nat))]) (fun _ => h) (fun k => k ≤ l.length ∧ keepOk (l.take k) = true) (fun k => l.length - k) 0 ⟨Nat.zero_le _, rfl⟩ (Weak.same (EW.cons rfl (EW.cons rfl EW.nil))) ?_
 rintro k ⟨hk, hkk⟩
 by_cases hlt : k < l.length
 ·
  obtain ⟨x, hxl⟩ : ∃ x, l[k]? = some x := ⟨_, List.getElem?_eq_getElem hlt⟩
  have hx2 : (l.map keptR)[((k : Nat) : Int).toNat]? = some (keptR x) := by simp [hxl]
  have px := r.rn.elt hx2
  have hst := qed hxl hkk
  have hno : ¬ KAt (l.take k) x → keepOk l = false := fun g => qcM (k := k + 1) fun e => g (hst.1 e)
  have cn := rmayName_c x.1 h
  cases hn : nameOk x.1 with
  | false =>
   rw [hn] at cn
   repeat (first | refine W.w ?_ | refine AL.skip rfl rfl ?_ | refine AWp.c8 rfl ?_ | (refine zz rfl ?_; first | refine qac rfl ?_ | refine qae rfl ?_ | refine qaa rfl ?_ | refine qal (v := v) rfl ?_ | refine qaB r.rn rfl ?_ | refine qam rfl rfl rfl (by omega) ?_ | refine qaG r.rn rfl rfl (by omega) hx2 ?_ | refine qdm px rfl ?_ | refine qbN px rfl rfl rfl ?_ | refine qab rfl rfl cn ?_ | refine qah (v := .bool _) rfl rfl ?_ | refine qaL rfl ?_))
   exact ⟨_, ResV.tmp rfl, congrArg Value.bool (hno fun g => by have := g.1; rw [hn] at this; cases this).symm, rfl⟩
  | true =>
   rw [hn] at cn
   by_cases hb : 0 ≤ x.2 ∧ x.2 ≤ 2147483647
   ·
    repeat (first | refine W.w ?_ | refine AWp.c8 rfl ?_ | refine AWp.c9 rfl ?_ | (refine zz rfl ?_; first | refine qac rfl ?_ | refine qae rfl ?_ | refine qad rfl ?_ | refine qal (v := v) rfl ?_ | refine qaB r.rn rfl ?_ | refine qam rfl rfl rfl (by omega) ?_ | refine qak rfl rfl rfl (by omega) ?_ | refine qaG r.rn rfl rfl (by omega) hx2 ?_ | refine qdm px rfl ?_ | refine qbN px rfl rfl rfl ?_ | refine qab rfl rfl cn ?_ | refine qah (v := .bool _) rfl rfl ?_ | refine qaL rfl ?_))
    refine AWp.loop (α := Nat) (fun j => [(0, v), (3, .int .i64 (k : Nat)), (4, .int .i64 (j : Nat))]) (fun _ => h) (fun j => j ≤ k ∧ ∀ y ∈ l.take j, y.1 ≠ x.1) (fun j => k - j) 0 ⟨Nat.zero_le _, fun y hy => by simp at hy⟩ (Weak.same (EW.cons rfl (EW.cons rfl (EW.cons rfl EW.nil)))) ?_
    rintro j ⟨hj, hjj⟩
    by_cases hjl : j < k
    ·
     obtain ⟨y, hyl⟩ : ∃ y, l[j]? = some y := ⟨_, List.getElem?_eq_getElem (by omega)⟩
     have hy2 : (l.map keptR)[((j : Nat) : Int).toNat]? = some (keptR y) := by simp [hyl]
     have py := r.rn.elt hy2
     by_cases he : y.1 = x.1
     ·
      repeat (first | refine W.w ?_ | refine AWp.c8 rfl ?_ | refine zz rfl (qac rfl ?_) | refine zz rfl (qam rfl rfl rfl (by omega) ?_))
      refine AWp.draw (σ := [(0, .R), (1, .R), (2, .R), (3, .R), (4, .R), (5, .R), (6, .R), (7, .R), (8, .R), (9, .R), (10, .R)]) mixed (by kernel_rfl) ?_
      repeat (first | refine DAL.r rfl rfl rfl (fun h' hx hn => qac rfl ⟨rfl, rfl⟩) ?_ | refine DAL.r rfl rfl rfl (fun h' hx hn => qal (v := v) rfl ⟨rfl, rfl⟩) ?_ | refine DAL.r rfl rfl rfl (fun h' hx hn => qaG (r.rn.ext hx) rfl rfl (by omega) hx2 ⟨rfl, rfl⟩) ?_ | refine DAL.r rfl rfl rfl (fun h' hx hn => qaG (r.rn.ext hx) rfl rfl (by omega) hy2 ⟨rfl, rfl⟩) ?_ | refine DAL.r rfl rfl rfl (fun h' hx hn => qdm (px.ext hx) rfl ⟨rfl, rfl⟩) ?_ | refine DAL.r rfl rfl rfl (fun h' hx hn => qbN (px.ext hx) rfl rfl rfl ⟨rfl, rfl⟩) ?_ | refine DAL.r rfl rfl rfl (fun h' hx hn => qdm (py.ext hx) rfl ⟨rfl, rfl⟩) ?_ | refine DAL.r rfl rfl rfl (fun h' hx hn => qbN (py.ext hx) rfl rfl rfl ⟨rfl, rfl⟩) ?_ | refine DAL.r rfl rfl rfl (fun h' hx hn => qaO rfl rfl he ⟨rfl, rfl⟩) ?_)
      refine DAL.nil ?_
      repeat (first | refine W.w ?_ | refine AWp.c8 rfl ?_ | refine zz rfl (qaa rfl ?_))
      refine ⟨_, ResV.tmp rfl, congrArg Value.bool (hno fun g => g.2.2 y ?_ he).symm, rfl⟩
      exact List.mem_of_getElem? (show (l.take k)[j]? = some y by rw [List.getElem?_take, if_pos hjl]; exact hyl)
     ·
      repeat (first | refine W.w ?_ | refine AWp.c8 rfl ?_ | refine zz rfl (qac rfl ?_) | refine zz rfl (qam rfl rfl rfl (by omega) ?_))
      refine AWp.draw (σ := [(0, .R), (1, .R), (2, .R), (3, .R), (4, .R), (5, .R), (6, .R), (7, .R), (8, .R), (9, .R), (10, .R)]) mixed (by kernel_rfl) ?_
      repeat (first | refine DAL.r rfl rfl rfl (fun h' hx hn => qac rfl ⟨rfl, rfl⟩) ?_ | refine DAL.r rfl rfl rfl (fun h' hx hn => qal (v := v) rfl ⟨rfl, rfl⟩) ?_ | refine DAL.r rfl rfl rfl (fun h' hx hn => qaG (r.rn.ext hx) rfl rfl (by omega) hx2 ⟨rfl, rfl⟩) ?_ | refine DAL.r rfl rfl rfl (fun h' hx hn => qaG (r.rn.ext hx) rfl rfl (by omega) hy2 ⟨rfl, rfl⟩) ?_ | refine DAL.r rfl rfl rfl (fun h' hx hn => qdm (px.ext hx) rfl ⟨rfl, rfl⟩) ?_ | refine DAL.r rfl rfl rfl (fun h' hx hn => qbN (px.ext hx) rfl rfl rfl ⟨rfl, rfl⟩) ?_ | refine DAL.r rfl rfl rfl (fun h' hx hn => qdm (py.ext hx) rfl ⟨rfl, rfl⟩) ?_ | refine DAL.r rfl rfl rfl (fun h' hx hn => qbN (py.ext hx) rfl rfl rfl ⟨rfl, rfl⟩) ?_ | refine DAL.r rfl rfl rfl (fun h' hx hn => qaK rfl rfl he ⟨rfl, rfl⟩) ?_)
      refine DAL.nil ?_
      repeat (first | refine W.w ?_ | refine AWp.c9 rfl ?_ | (refine zz rfl ?_; first | refine qac rfl ?_ | refine qad rfl ?_ | refine qas rfl rfl (by omega) ?_))
      refine ⟨j + 1, ⟨hjl, fun z hz => ?_⟩, by omega, Weak.same (EW.cons rfl (EW.cons rfl (EW.cons rfl EW.nil)))⟩
      rw [List.take_add_one, hyl, List.mem_append] at hz
      rcases hz with hz | hz
      ·
       exact hjj z hz
      ·
       simp at hz; subst hz; exact he
    ·
     obtain rfl : j = k := by omega
     repeat (first | refine AL.nil ?_ | refine AWp.seq ?_ | refine AWp.r9 ?_ | refine AWp.c9 rfl ?_ | refine AWp.exit ?_ | (refine zz rfl ?_; first | refine qac rfl ?_ | refine qad rfl ?_ | refine qak rfl rfl rfl (by omega) ?_ | refine qas rfl rfl (by omega) ?_))
     exact ⟨j + 1, ⟨hlt, hst.2 ⟨hn, hb, hjj⟩⟩, by omega, Weak.same (EW.cons rfl (EW.cons rfl EW.nil))⟩
   ·
    repeat' (first | refine W.w ?_ | refine AL.skip rfl rfl ?_ | refine AWp.c8 rfl ?_ | (refine zz rfl ?_; first | refine qac rfl ?_ | refine qae rfl ?_ | refine qaa rfl ?_ | refine qal (v := v) rfl ?_ | refine qaB r.rn rfl ?_ | refine qam rfl rfl rfl (by omega) ?_ | refine qaG r.rn rfl rfl (by omega) hx2 ?_ | refine qdm px rfl ?_ | refine qbN px rfl rfl rfl ?_ | refine qab rfl rfl cn ?_ | refine qah (v := .bool _) rfl rfl ?_ | refine qaQ rfl rfl rfl (fun c => ?_) (fun c => ?_) | refine qaL rfl ?_))
    all_goals first | (exfalso; omega) | exact ⟨_, ResV.tmp rfl, congrArg Value.bool (hno fun g => hb g.2.1).symm, rfl⟩
 ·
  obtain rfl : k = l.length := by omega
  rw [List.take_length] at hkk
  repeat (first | refine AL.nil ?_ | refine AWp.seq ?_ | refine AWp.r9 ?_ | refine AWp.c9 rfl ?_ | refine AWp.ret ?_ | refine AWp.exit ?_ | (refine zz rfl ?_; first | refine qac rfl ?_ | refine qaa rfl ?_ | refine qal (v := v) rfl ?_ | refine qaB r.rn rfl ?_ | refine qak rfl rfl rfl (by omega) ?_))
  exact ⟨_, ResV.tmp rfl, congrArg Value.bool hkk.symm, rfl⟩
instance i_rcmay : FnC Tryz.prog 121 := ⟨Tryz.f121, Tryz.func121, by kernel_rfl, by kernel_rfl⟩
instance i_rabare : FnC Tryz.prog 91 := ⟨Tryz.f91, Tryz.func91, by kernel_rfl, by kernel_rfl⟩
instance i_rmay : FnC Tryz.prog 41 := ⟨Tryz.f41, Tryz.func41, by kernel_rfl, by kernel_rfl⟩
instance i_rmayLine : FnC Tryz.prog 19 := ⟨Tryz.f19, Tryz.func19, by kernel_rfl, by kernel_rfl⟩
def mayC (m : CmdM) : Bool := okC m && decide (namedC m = m)
theorem rcmay_c (p : CmdV) (m : CmdM) (h : Heap) (r : CmdR h p m) : ACalls Tryz.prog 121 [.agg (cmdC p m).toArray] h fun u h' => u = .bool (mayC m) ∧ h' = h := by
 refine ACalls.wf fun wf => ACalls.reset ?_
 refine ACalls.body Tryz.func121 rfl rfl ?_
 repeat (first | refine W.w ?_ | refine zz rfl (qaa rfl ?_) | refine zz rfl (qaV rfl (by intro e; cases e) ?_))
 generalize hH : h.alloc _ = H
 have hg : H.get h.next = some ⟨cmdC p m, 37, true⟩ := hH ▸ Heap.alloc_new _ _
 have hx : Ext h H := hH ▸ wf.ext _
 have wfH : WF H := hH ▸ wf.alloc _
 clear hH
 have rH := r.ext hx
 repeat (first | refine zz rfl (qaj (sz := 20) rfl rfl hg (Nat.le_refl _) ?_))
 refine zz rfl (qar (evs := [.agg (cmdC p m).toArray]) rfl rfl ((rbare_c p m H rH).wf_post.mono ?_))
 rintro _ H1 ⟨⟨q, rfl, rq, x1⟩, wf1, _⟩
 repeat (first | refine W.w ?_ | refine AL.eff rfl (qaE (vs := cmdC q (namedC m)) rfl rfl rfl rfl (qa5 rq) ?_) | (refine zz rfl ?_; first | refine qae rfl ?_ | refine qaH rfl ?_ | refine qaa rfl ?_ | refine qav rfl rfl ?_ | refine qaw ?_))
 obtain ⟨H2, hQ, g2, x2, _, _⟩ := aq wf1 ⟨cmdC q (namedC m), 37, true⟩
 rw [hQ]
 have hxx := hx.trans (x1.trans x2)
 have cs := qeW q p (namedC m) m H2 (rq.ext x2) (r.ext hxx)
 have hg2 := x2.c _ _ (x1.c _ _ hg)
 unfold mayC
 cases ho : okC m with
 | false =>
  repeat' (first | refine W.w ?_ | refine AL.skip rfl rfl ?_ | refine zz rfl (qaa rfl ?_) | refine zz rfl (qah (v := .bool _) rfl rfl ?_))
  exact ⟨_, ResV.tmp rfl, rfl, hxx, rfl, rfl⟩
 | true =>
  repeat (first | refine W.w ?_ | (refine zz rfl ?_; first | refine qaa rfl ?_ | refine qaj (sz := 20) rfl rfl g2 (Nat.le_refl _) ?_ | refine qaj (sz := 20) rfl rfl hg2 (Nat.le_refl _) ?_ | refine qab rfl rfl cs ?_ | refine qah (v := .bool _) rfl rfl ?_))
  exact ⟨_, ResV.tmp rfl, rfl, hxx, rfl, rfl⟩
def nodeB (nodes : Int) (a : ActM) : Bool := decide (0 ≤ a.node ∧ a.node < nodes)
def groupB (groups : Int) (a : ActM) : Bool := decide (0 ≤ a.group ∧ a.group < groups)
def clientB (a : ActM) : Bool := decide (1 ≤ a.client ∧ a.client ≤ 4)
def rokA (nodes groups : Int) (a : ActM) : Bool :=
 if a.kind = 1 ∨ a.kind = 2 ∨ a.kind = 6 ∨ a.kind = 7 then nodeB nodes a && groupB groups a
 else if a.kind = 3 ∨ a.kind = 4 ∨ a.kind = 5 then decide (0 ≤ a.n ∧ a.n ≤ 2147483647)
 else if a.kind = 8 ∨ a.kind = 13 then nodeB nodes a
 else if a.kind = 9 then nodeB nodes a && mayC a.cmd && decide (a.cmd.kind = 6 ∨ a.cmd.kind = 7 ∨ a.cmd.kind = 8)
 else if a.kind = 10 then clientB a && nodeB nodes a && groupB groups a && mayAsk a.ask
 else if a.kind = 11 then clientB a && nodeB nodes a && groupB groups a
 else if a.kind = 12 then nodeB nodes a && kp a.keep
 else false
theorem may_d (nodes groups : Int) (a : ActM) : mayAct nodes groups a = (rokA nodes groups a && decide (namedA a = a)) := by
 have key : ∀ (p : Prop) (_ : Decidable p) (X : ActM) (b : Bool), (p ↔ (b = true ∧ a = X)) → decide p = (b && decide (X = a)) := by
  intro p _ X b hp
  rw [Bool.eq_iff_iff, decide_eq_true_iff, hp, Bool.and_eq_true, decide_eq_true_iff]
  exact ⟨fun g => ⟨g.1, g.2.symm⟩, fun g => ⟨g.1, g.2.symm⟩⟩
 have pe : ∀ c, mayPlan c = (mayC c && decide (c.kind = 6 ∨ c.kind = 7 ∨ c.kind = 8)) := fun c => by rw [qeg]; rfl
 unfold mayAct rokA nodeB groupB clientB
 by_cases k1 : a.kind = 1 ∨ a.kind = 2 ∨ a.kind = 6 ∨ a.kind = 7
 ·
  have hn : namedA a = { act0 with kind := a.kind, node := a.node, group := a.group } := by unfold namedA; grind
  rw [if_pos k1, if_pos k1, hn]
  refine key _ _ _ _ ?_
  generalize ({ act0 with kind := a.kind, node := a.node, group := a.group } : ActM) = X
  simp only [Bool.and_eq_true, decide_eq_true_iff]
  grind
 rw [if_neg k1, if_neg k1]
 by_cases k2 : a.kind = 3 ∨ a.kind = 4 ∨ a.kind = 5
 ·
  have hn : namedA a = { act0 with kind := a.kind, n := a.n } := by unfold namedA; grind
  rw [if_pos k2, if_pos k2, hn]
  refine key _ _ _ _ ?_
  generalize ({ act0 with kind := a.kind, n := a.n } : ActM) = X
  simp only [decide_eq_true_iff]
  grind
 rw [if_neg k2, if_neg k2]
 by_cases k3 : a.kind = 8 ∨ a.kind = 13
 ·
  have hn : namedA a = { act0 with kind := a.kind, node := a.node } := by unfold namedA; grind
  rw [if_pos k3, if_pos k3, hn]
  refine key _ _ _ _ ?_
  generalize ({ act0 with kind := a.kind, node := a.node } : ActM) = X
  simp only [decide_eq_true_iff]
  grind
 rw [if_neg k3, if_neg k3]
 by_cases k4 : a.kind = 9
 ·
  have hn : namedA a = { act0 with kind := a.kind, node := a.node, cmd := a.cmd } := by unfold namedA; grind
  rw [if_pos k4, if_pos k4, hn, pe]
  refine key _ _ _ _ ?_
  generalize ({ act0 with kind := a.kind, node := a.node, cmd := a.cmd } : ActM) = X
  simp only [Bool.and_eq_true, decide_eq_true_iff]
  grind
 rw [if_neg k4, if_neg k4]
 by_cases k5 : a.kind = 10
 ·
  have hn : namedA a = { act0 with kind := a.kind, node := a.node, group := a.group, client := a.client, ask := a.ask } := by unfold namedA; grind
  rw [if_pos k5, if_pos k5, hn]
  refine key _ _ _ _ ?_
  have e : ({ act0 with kind := a.kind, client := a.client, node := a.node, group := a.group, ask := a.ask } : ActM) = { act0 with kind := a.kind, node := a.node, group := a.group, client := a.client, ask := a.ask } := rfl
  rw [e]
  generalize ({ act0 with kind := a.kind, node := a.node, group := a.group, client := a.client, ask := a.ask } : ActM) = X
  simp only [Bool.and_eq_true, decide_eq_true_iff]
  grind
 rw [if_neg k5, if_neg k5]
 by_cases k6 : a.kind = 11
 ·
  have hn : namedA a = { act0 with kind := a.kind, node := a.node, group := a.group, client := a.client } := by unfold namedA; grind
  rw [if_pos k6, if_pos k6, hn]
  refine key _ _ _ _ ?_
  have e : ({ act0 with kind := a.kind, client := a.client, node := a.node, group := a.group } : ActM) = { act0 with kind := a.kind, node := a.node, group := a.group, client := a.client } := rfl
  rw [e]
  generalize ({ act0 with kind := a.kind, node := a.node, group := a.group, client := a.client } : ActM) = X
  simp only [Bool.and_eq_true, decide_eq_true_iff]
  grind
 rw [if_neg k6, if_neg k6]
 by_cases k7 : a.kind = 12
 ·
  have hn : namedA a = { act0 with kind := a.kind, node := a.node, keep := a.keep } := by unfold namedA; grind
  rw [if_pos k7, if_pos k7, hn]
  refine key _ _ _ _ ?_
  generalize ({ act0 with kind := a.kind, node := a.node, keep := a.keep } : ActM) = X
  unfold kp
  simp only [Bool.and_eq_true, decide_eq_true_iff]
  grind
 rw [if_neg k7, if_neg k7]
 rfl
end Go.Proofs.YtigmojilaadbhaaGreatDoor
