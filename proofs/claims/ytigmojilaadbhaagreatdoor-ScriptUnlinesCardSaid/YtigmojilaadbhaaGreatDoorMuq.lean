/-
  Texts of one claim, merged: 5 parts.
-/
import Derived.Test.YtigmojilaadbhaaGreatDoorMui
import Derived.Test.YtigmojilaadbhaaGreatDoorMuk
import Derived.Test.YtigmojilaadbhaaGreatDoorMuh
import Derived.Test.YtigmojilaadbhaaGreatDoorMum
import Derived.Test.YtigmojilaadbhaaGreatDoorMuo
import Derived.Test.YtigmojilaadbhaaGreatDoorMun
set_option maxHeartbeats 16000000
/- . -/
namespace Go.Proofs.YtigmojilaadbhaaGreatDoor
open Go Go.Eng Go.Pln Go.Lib
attribute [local irreducible] AWp AL DAL AOp
instance i_text : FnC Tryz.prog 43 := ⟨Tryz.f43, Tryz.func43, by kernel_rfl, by kernel_rfl⟩
instance i_join : FnC Tryz.prog 94 := ⟨Tryz.f94, Tryz.func94, by kernel_rfl, by kernel_rfl⟩
instance i_TyD_interface_ : TyD Tryz.prog 20 (.interface #[]) := ⟨Tryz.underlying20⟩
instance i_TyI_interface_ : TyI Tryz.prog 20 1 16 .nilIface := ⟨qaT (by kernel_rfl), rfl, rfl⟩
instance qhl : TyD Tryz.prog 145 (.slice 20) := ⟨Tryz.underlying145⟩
inductive WArg where
 | num (n : Int)
 | raw (v : Value) (b : Bytes)
 | txt (s : Bytes)
def argV : WArg → Value
 | .num n => .iface 3 (.int .i64 n)
 | .raw v _ => .iface 27 v
 | .txt s => .iface 9 (str s)
def argW : WArg → Bytes
 | .num n => itoa n
 | .raw _ b => wordM b
 | .txt s => s
def ArgR (h : Heap) : WArg → Prop
 | .num n => I64 n
 | .raw v b => RB h v b ∧ b.length ≤ 100000000
 | .txt _ => True
theorem ArgR.ext {h h' : Heap} (hx : Ext h h') : ∀ {x : WArg}, ArgR h x → ArgR h' x
 | .num _, r => r
 | .raw _ _, r => ⟨r.1.ext hx, r.2⟩
 | .txt _, r => r
abbrev strs (l : List Bytes) : List Value := l.map fun s => str s
theorem qe9 (l : List Bytes) (s : Bytes) : strs l ++ [str s] = strs (l ++ [s]) := by simp
theorem qbT {α β : Type} {f : α → β} {l : List α} {k : Nat} {x : α} (hx : l[k]? = some x) : (l.take (k + 1)).map f = (l.take k).map f ++ [f x] := by
 rw [List.take_add_one, hx]
 simp
theorem text_c (v : Value) (l : List WArg) (h : Heap) (t : Tabs h) (r : RS h v (l.map argV)) (ra : ∀ x ∈ l, ArgR h x) (hl : l.length ≤ 1000000) (hj : (joinW (l.map argW)).length ≤ 10000000000) :
  ACalls Tryz.prog 43 [v] h fun u h' => u = str (joinW (l.map argW)) ∧ h' = h := by
 refine ACalls.wf fun wf => ACalls.reset ?_
 refine ACalls.body Tryz.func43 rfl rfl ?_
 obtain ⟨va, vc, hv⟩ := RS.slice r
 have hml : (l.map argV).length = l.length := List.length_map _
 repeat (first | refine W.w ?_ | (refine zz rfl ?_; first | refine qac rfl ?_ | refine qaZ rfl ?_ | refine qag rfl ?_ | refine qal (v := v) rfl ?_ | refine qaS r rfl ?_))
 refine AWp.loop (α := Nat × Heap × Value) (fun d => [(3, d.2.2), (9, v), (10, .int .i64 ((l.map argV).length : Nat)), (11, .int .i64 (d.1 : Nat))]) (fun d => d.2.1) (fun d => d.1 ≤ l.length ∧ Ext h d.2.1 ∧ WF d.2.1 ∧ OS h.next d.2.1 9 d.2.2 (strs ((l.take d.1).map argW)) ∧ h.next ≤ d.2.1.next) (fun d => l.length - d.1) (0, h, .slice none 0 0) ⟨Nat.zero_le _, Ext.refl h, wf, OS.nil _ _ _, Nat.le_refl _⟩
  (Weak.same (EW.cons rfl (EW.cons rfl (EW.cons rfl (EW.cons rfl EW.nil))))) ?_
 rintro ⟨k, H, u⟩ ⟨hk, hxH, wfH, o, nH⟩
 replace hk : k ≤ l.length := hk
 replace hxH : Ext h H := hxH
 replace wfH : WF H := wfH
 replace o : OS h.next H 9 u (strs ((l.take k).map argW)) := o
 replace nH : h.next ≤ H.next := nH
 show AWp _ _ _ _ [(3, u), (9, v), (10, .int .i64 ((l.map argV).length : Nat)), (11, .int .i64 (k : Nat))] H
 by_cases hlt : k < l.length
 ·
  obtain ⟨x, hx⟩ : ∃ x, l[k]? = some x := ⟨_, List.getElem?_eq_getElem hlt⟩
  have hx2 : (l.map argV)[((k : Nat) : Int).toNat]? = some (argV x) := by simp [hx]
  have rx := (ra x (List.mem_of_getElem? hx)).ext hxH
  repeat (first | refine W.w ?_ | refine AWp.c8 rfl ?_ | refine zz rfl (qam rfl rfl rfl (by omega) ?_) | refine zz rfl (qbg (r.ext hxH) rfl rfl (by omega) hx2 ?_))
  intro p hp
  cases x with
  | num n =>
   have ci := qhz n H (t.ext hxH) rx.1 rx.2
   repeat (first | refine W.w ?_ | refine AWp.c8 rfl ?_ | (refine zz rfl ?_; first | refine qac rfl ?_ | refine qad rfl ?_ | refine qat hp rfl rfl ?_ | refine op_taY rfl rfl ?_ | refine qav rfl rfl ?_ | refine qab rfl rfl ci ?_ | refine qal (v := u) rfl ?_ | refine qal (v := argV (.num n)) rfl ?_ | refine qaq (v := argV (.num n)) rfl ?_))
   refine zz rfl (qaN [str (argW (.num n))] rfl rfl rfl rfl (by intro u hu; rw [List.mem_singleton.1 hu]; rfl) ?_)
   obtain ⟨H2, hQ, gr, xr, wr, _⟩ := aq wfH ⟨[str (argW (.num n))], 9, true⟩
   rw [hQ]
   have rr : RS H2 (.slice (some ⟨H.next, 0, some 1⟩) 1 1) [str (argW (.num n))] := RS.own gr rfl
   have o2 := o.ext xr
   have ln : h.next ≤ H2.next := by have := wr.lt gr; omega
   refine zz rfl (qa6 (z := .string ⟨#[]⟩) (B := h.next) (e := 9) rfl wr ln o2 rfl rfl rr.src rfl rfl (by show (strs _).length + 1 ≤ maxLen; rw [List.length_map]; simp only [maxLen, List.length_map, List.length_take]; omega) (by show ((strs _).length + 1) * 16 ≤ _; rw [List.length_map]; simp only [List.length_map, List.length_take]; omega) ?_)
   intro u' H3 o3 k3 wf3 n3
   rw [qe9, ← qbT hx] at o3
   have x3 := k3.ext o2 wf (Nat.le_refl _) (hxH.trans xr)
   repeat (first | refine W.w ?_ | (refine zz rfl ?_; first | refine qac rfl ?_ | refine qas rfl rfl (by omega) ?_ | refine qaq (by conv => lhs; whnf) ?_))
   exact ⟨(k + 1, H3, u'), ⟨hlt, x3, wf3, o3, by show h.next ≤ H3.next; omega⟩, by show l.length - (k + 1) < l.length - k; omega, Weak.same (EW.cons rfl (EW.cons rfl (EW.cons rfl (EW.cons rfl EW.nil))))⟩
  | raw w b =>
   have cw := word_c w b H rx.1 rx.2
   repeat (first | refine W.w ?_ | refine AWp.c8 rfl ?_ | refine AWp.c9 rfl ?_ | (refine zz rfl ?_; first | refine qat hp rfl rfl ?_ | refine op_taN (u := 27) rfl rfl rfl (Nat.ne_of_beq_eq_false rfl) ?_ | refine op_taY rfl rfl ?_ | refine qav rfl rfl ?_ | refine qab rfl rfl cw ?_ | refine qal (v := u) rfl ?_ | refine qal (v := argV (.raw w b)) rfl ?_ | refine qaq (v := argV (.raw w b)) rfl ?_ | refine qal (v := w) rfl ?_ | refine qaq (v := w) rfl ?_))
   refine zz rfl (qaN [str (argW (.raw w b))] rfl rfl rfl rfl (by intro u hu; rw [List.mem_singleton.1 hu]; rfl) ?_)
   obtain ⟨H2, hQ, gr, xr, wr, _⟩ := aq wfH ⟨[str (argW (.raw w b))], 9, true⟩
   rw [hQ]
   have rr : RS H2 (.slice (some ⟨H.next, 0, some 1⟩) 1 1) [str (argW (.raw w b))] := RS.own gr rfl
   have o2 := o.ext xr
   have ln : h.next ≤ H2.next := by have := wr.lt gr; omega
   refine zz rfl (qa6 (z := .string ⟨#[]⟩) (B := h.next) (e := 9) rfl wr ln o2 rfl rfl rr.src rfl rfl (by show (strs _).length + 1 ≤ maxLen; rw [List.length_map]; simp only [maxLen, List.length_map, List.length_take]; omega) (by show ((strs _).length + 1) * 16 ≤ _; rw [List.length_map]; simp only [List.length_map, List.length_take]; omega) ?_)
   intro u' H3 o3 k3 wf3 n3
   rw [qe9, ← qbT hx] at o3
   have x3 := k3.ext o2 wf (Nat.le_refl _) (hxH.trans xr)
   repeat (first | refine W.w ?_ | (refine zz rfl ?_; first | refine qac rfl ?_ | refine qas rfl rfl (by omega) ?_ | refine qaq (by conv => lhs; whnf) ?_))
   exact ⟨(k + 1, H3, u'), ⟨hlt, x3, wf3, o3, by show h.next ≤ H3.next; omega⟩, by show l.length - (k + 1) < l.length - k; omega, Weak.same (EW.cons rfl (EW.cons rfl (EW.cons rfl (EW.cons rfl EW.nil))))⟩
  | txt s =>
   repeat (first | refine W.w ?_ | refine AWp.c8 rfl ?_ | refine AWp.c9 rfl ?_ | (refine zz rfl ?_; first | refine qai rfl ?_ | refine qag rfl ?_ | refine qat hp rfl rfl ?_ | refine op_taN (u := 9) rfl rfl rfl (Nat.ne_of_beq_eq_false rfl) ?_ | refine op_taY rfl rfl ?_ | refine qav rfl rfl ?_ | refine qal (v := u) rfl ?_ | refine qal (v := argV (.txt s)) rfl ?_ | refine qaq (v := argV (.txt s)) rfl ?_))
   refine zz rfl (qaN [str (argW (.txt s))] rfl rfl rfl rfl (by intro u hu; rw [List.mem_singleton.1 hu]; rfl) ?_)
   obtain ⟨H2, hQ, gr, xr, wr, _⟩ := aq wfH ⟨[str (argW (.txt s))], 9, true⟩
   rw [hQ]
   have rr : RS H2 (.slice (some ⟨H.next, 0, some 1⟩) 1 1) [str (argW (.txt s))] := RS.own gr rfl
   have o2 := o.ext xr
   have ln : h.next ≤ H2.next := by have := wr.lt gr; omega
   refine zz rfl (qa6 (z := .string ⟨#[]⟩) (B := h.next) (e := 9) rfl wr ln o2 rfl rfl rr.src rfl rfl (by show (strs _).length + 1 ≤ maxLen; rw [List.length_map]; simp only [maxLen, List.length_map, List.length_take]; omega) (by show ((strs _).length + 1) * 16 ≤ _; rw [List.length_map]; simp only [List.length_map, List.length_take]; omega) ?_)
   intro u' H3 o3 k3 wf3 n3
   rw [qe9, ← qbT hx] at o3
   have x3 := k3.ext o2 wf (Nat.le_refl _) (hxH.trans xr)
   repeat (first | refine W.w ?_ | (refine zz rfl ?_; first | refine qac rfl ?_ | refine qas rfl rfl (by omega) ?_ | refine qaq (by conv => lhs; whnf) ?_))
   exact ⟨(k + 1, H3, u'), ⟨hlt, x3, wf3, o3, by show h.next ≤ H3.next; omega⟩, by show l.length - (k + 1) < l.length - k; omega, Weak.same (EW.cons rfl (EW.cons rfl (EW.cons rfl (EW.cons rfl EW.nil))))⟩
 ·
  obtain rfl : k = l.length := by omega
  rw [List.take_length] at o
  have cj := join_c u (l.map argW) H o.rs (by omega) (by rw [List.length_map]; omega)
  repeat (first | refine AL.nil ?_ | refine AWp.seq ?_ | refine AWp.r9 ?_ | refine AWp.c9 rfl ?_ | refine AWp.ret ?_ | refine AWp.exit ?_ | (refine zz rfl ?_; first | refine qag rfl ?_ | refine qak rfl rfl rfl (by omega) ?_ | refine qal (v := u) rfl ?_ | refine qab rfl rfl cj ?_))
  exact ⟨_, ResV.tmp rfl, rfl, hxH, rfl, rfl⟩
instance i_ask : FnC Tryz.prog 45 := ⟨Tryz.f45, Tryz.func45, by kernel_rfl, by kernel_rfl⟩
instance i_plan : FnC Tryz.prog 44 := ⟨Tryz.f44, Tryz.func44, by kernel_rfl, by kernel_rfl⟩
def ArgS : WArg → Prop
 | .num _ => True
 | .raw _ b => b.length ≤ 600000
 | .txt s => s.length ≤ 2000000
def ArgsOk (h : Heap) : List WArg → Prop
 | [] => True
 | x :: l => (ArgR h x ∧ ArgS x) ∧ ArgsOk h l
theorem qbS (b : Bytes) : (wordM b).length ≤ 3 * b.length + 1 := by
 unfold wordM
 split
 ·
  simp
 ·
  have := qcS b
  omega
theorem ArgS.len {h : Heap} : ∀ {x : WArg}, ArgR h x → ArgS x → (argW x).length ≤ 2000000
 | .num n, r, _ => by
  have := qbs r.1 r.2
  show (itoa n).length ≤ _
  omega
 | .raw v b, _, s => by
  have := qbS b
  have hs : b.length ≤ 600000 := s
  show (wordM b).length ≤ _
  omega
 | .txt _, _, s => s
theorem qbO (m : Nat) : ∀ (ws : List Bytes), (∀ w ∈ ws, w.length ≤ m) → (joinW ws).length ≤ ws.length * (m + 1)
 | [], _ => by simp [joinW]
 | [w], h => by
  have := h w (by simp)
  simp only [joinW, List.length_cons, List.length_nil]
  omega
 | w :: v :: ws, h => by
  have h1 := h w (by simp)
  have h2 := qbO m (v :: ws) fun x hx => h x (List.mem_cons_of_mem w hx)
  rw [joinW]
  simp only [List.length_append, List.length_cons] at h2 ⊢
  rw [Nat.add_mul (ws.length + 1) 1]
  omega
theorem ArgsOk.mem {h : Heap} : ∀ {l : List WArg}, ArgsOk h l → ∀ x ∈ l, ArgR h x ∧ ArgS x
 | _ :: _, r, _, .head _ => r.1
 | _ :: l, r, x, .tail _ hx => ArgsOk.mem (l := l) r.2 x hx
theorem qa2 (l : List WArg) : ∀ v ∈ l.map argV, oneB v = true := by
 intro u hu
 obtain ⟨x, _, rfl⟩ := List.mem_map.1 hu
 cases x <;> rfl
abbrev rowA (l : List WArg) : Blk := ⟨l.map argV, 20, true⟩
theorem qbu (l : List WArg) (H : Heap) (n : Nat) (hn : l.length = n) (wf : WF H) (t : Tabs H) (ra : ArgsOk H l) (hl : l.length ≤ 1000) :
  ACalls Tryz.prog 43 [.slice (some ⟨H.next, 0, some 1⟩) n n] (H.alloc (rowA l)) fun u h' => u = str (joinW (l.map argW)) ∧ h' = H.alloc (rowA l) := by
 have hx := wf.ext (rowA l)
 refine text_c _ l _ (t.ext hx) (RS.own (Heap.alloc_new _ _) ((List.length_map _).trans hn)) (fun x hx2 => (ra.mem x hx2).1.ext hx) (by omega) ?_
 have := qbO 2000000 (l.map argW) fun w hw => by
  obtain ⟨x, hx2, rfl⟩ := List.mem_map.1 hw
  exact ArgS.len (ra.mem x hx2).1 (ra.mem x hx2).2
 rw [List.length_map] at this
 have h2 : l.length * (2000000 + 1) ≤ 1000 * (2000000 + 1) := Nat.mul_le_mul_right _ hl
 omega
theorem qda {a : AskM} (h : mayAsk a = true) : a.key.length ≤ 24 ∧ a.to.length ≤ 24 ∧ a.value.length ≤ 40 ∧ a.was.length ≤ 40 ∧ 0 ≤ a.most ∧ a.most ≤ 32 ∧ 1 ≤ a.kind ∧ a.kind ≤ 5 := by
 unfold mayAsk at h
 split at h
 ·
  obtain ⟨_, h1, h2, h3, _, h5, h6⟩ := of_decide_eq_true h
  rw [h2, h3, h6]
  simp
  omega
 ·
  split at h
  ·
   obtain ⟨_, h1, h2, h3, _, h5, h6⟩ := of_decide_eq_true h
   rw [h2, h3]
   simp
   omega
  ·
   split at h
   ·
    obtain ⟨_, h1, h2, h3, _, h5, h6⟩ := of_decide_eq_true h
    rw [h5]
    simp
    omega
   ·
    split at h
    ·
     obtain ⟨h1, h2, h3, h4, h5, h6, h7⟩ := of_decide_eq_true h
     rw [h5, h6]
     simp
     omega
    ·
     cases h
theorem qcH {c : CmdM} (h : mayPlan c = true) : c.key.length ≤ 24 ∧ 0 ≤ c.group ∧ c.group ≤ 5 ∧ 6 ≤ c.kind ∧ c.kind ≤ 8 := by
 unfold mayPlan at h
 split at h
 ·
  obtain ⟨_, h1, h2⟩ := of_decide_eq_true h
  have : c.group = 0 := by rw [h2]; rfl
  omega
 ·
  split at h
  ·
   obtain ⟨h1, h2, h3, _⟩ := of_decide_eq_true h
   omega
  ·
   cases h
theorem askT_c (p : AskV) (a : AskM) (h : Heap) (t : Tabs h) (r : AskR h p a) (hm : mayAsk a = true) : ACalls Tryz.prog 45 [.agg (askC p a).toArray] h fun u h' => u = str (joinW (askW a)) ∧ h' = h := by
 obtain ⟨l1, l2, l3, l4, l5, l6, l7, l8⟩ := qda hm
 refine ACalls.wf fun wf => ACalls.reset ?_
 refine ACalls.body Tryz.func45 rfl rfl ?_
 repeat (first | refine W.w ?_ | refine zz rfl (qag rfl ?_) | refine zz rfl (qaV rfl (by intro e; cases e) ?_))
 generalize hH : h.alloc _ = H
 have hg : H.get h.next = some ⟨askC p a, 29, true⟩ := hH ▸ Heap.alloc_new _ _
 have hx : Ext h H := hH ▸ wf.ext _
 have wfH : WF H := hH ▸ wf.alloc _
 clear hH
 obtain ⟨q1, q2, q3, q4⟩ := r.ext hx
 by_cases k1 : a.kind = 1
 ·
  have he : askW a = [wGet, wordM a.key] := by unfold askW; rw [if_pos k1]
  have ct := qbu [.txt wGet, .raw p.k a.key] H 2 rfl wfH (t.ext hx) ⟨⟨trivial, Nat.le_of_ble_eq_true rfl⟩, ⟨⟨q1, by omega⟩, show a.key.length ≤ 600000 by omega⟩, trivial⟩ (by show 2 ≤ 1000; omega)
  repeat (first | refine W.w ?_ | refine AWp.c8 rfl ?_ | (refine zz rfl ?_; first | refine qaa rfl ?_ | refine qag rfl ?_ | refine qao rfl ?_ | refine qaf rfl rfl hg rfl ?_ | refine qba rfl rfl ?_ | refine qam rfl rfl rfl (by omega) ?_ | refine qaN (([.txt wGet, .raw p.k a.key] : List WArg).map argV) rfl rfl rfl rfl (qa2 _) ?_ | refine qab rfl rfl ct ?_))
  exact ⟨_, ResV.tmp rfl, rfl, hx.trans (wfH.ext _), by rw [he]; rfl, rfl⟩
 by_cases k2 : a.kind = 3
 ·
  have he : askW a = [wDelete, wordM a.key] := by unfold askW; rw [if_neg k1, if_pos k2]
  have ct := qbu [.txt wDelete, .raw p.k a.key] H 2 rfl wfH (t.ext hx) ⟨⟨trivial, Nat.le_of_ble_eq_true rfl⟩, ⟨⟨q1, by omega⟩, show a.key.length ≤ 600000 by omega⟩, trivial⟩ (by show 2 ≤ 1000; omega)
  repeat (first | refine W.w ?_ | refine AWp.c8 rfl ?_ | refine AWp.c9 rfl ?_ | (refine zz rfl ?_; first | refine qaa rfl ?_ | refine qag rfl ?_ | refine qao rfl ?_ | refine qaf rfl rfl hg rfl ?_ | refine qba rfl rfl ?_ | refine qam rfl rfl rfl (by omega) ?_ | refine qak rfl rfl rfl (by omega) ?_ | refine qaN (([.txt wDelete, .raw p.k a.key] : List WArg).map argV) rfl rfl rfl rfl (qa2 _) ?_ | refine qab rfl rfl ct ?_))
  exact ⟨_, ResV.tmp rfl, rfl, hx.trans (wfH.ext _), by rw [he]; rfl, rfl⟩
 by_cases k3 : a.kind = 2
 ·
  have he : askW a = [wPut, wordM a.key, wordM a.value] := by unfold askW; rw [if_neg k1, if_neg k2, if_pos k3]
  have ct := qbu [.txt wPut, .raw p.k a.key, .raw p.v a.value] H 3 rfl wfH (t.ext hx) ⟨⟨trivial, Nat.le_of_ble_eq_true rfl⟩, ⟨⟨q1, by omega⟩, show a.key.length ≤ 600000 by omega⟩, ⟨⟨q3, by omega⟩, show a.value.length ≤ 600000 by omega⟩, trivial⟩ (by show 3 ≤ 1000; omega)
  repeat (first | refine W.w ?_ | refine AWp.c8 rfl ?_ | refine AWp.c9 rfl ?_ | (refine zz rfl ?_; first | refine qaa rfl ?_ | refine qag rfl ?_ | refine qao rfl ?_ | refine qaf rfl rfl hg rfl ?_ | refine qba rfl rfl ?_ | refine qam rfl rfl rfl (by omega) ?_ | refine qak rfl rfl rfl (by omega) ?_ | refine qaN (([.txt wPut, .raw p.k a.key, .raw p.v a.value] : List WArg).map argV) rfl rfl rfl rfl (qa2 _) ?_ | refine qab rfl rfl ct ?_))
  exact ⟨_, ResV.tmp rfl, rfl, hx.trans (wfH.ext _), by rw [he]; rfl, rfl⟩
 by_cases k4 : a.kind = 5
 ·
  have he : askW a = [wScan, wordM a.key, wordM a.to, itoa a.most] := by unfold askW; rw [if_neg k1, if_neg k2, if_neg k3, if_pos k4]
  have ct := qbu [.txt wScan, .raw p.k a.key, .raw p.t a.to, .num a.most] H 4 rfl wfH (t.ext hx) ⟨⟨trivial, Nat.le_of_ble_eq_true rfl⟩, ⟨⟨q1, by omega⟩, show a.key.length ≤ 600000 by omega⟩, ⟨⟨q2, by omega⟩, show a.to.length ≤ 600000 by omega⟩, ⟨(show I64 a.most from ⟨by omega, by omega⟩), trivial⟩, trivial⟩ (by show 4 ≤ 1000; omega)
  repeat (first | refine W.w ?_ | refine AWp.c8 rfl ?_ | refine AWp.c9 rfl ?_ | (refine zz rfl ?_; first | refine qaa rfl ?_ | refine qag rfl ?_ | refine qao rfl ?_ | refine qaf rfl rfl hg rfl ?_ | refine qba rfl rfl ?_ | refine qam rfl rfl rfl (by omega) ?_ | refine qak rfl rfl rfl (by omega) ?_ | refine qaN (([.txt wScan, .raw p.k a.key, .raw p.t a.to, .num a.most] : List WArg).map argV) rfl rfl rfl rfl (qa2 _) ?_ | refine qab rfl rfl ct ?_))
  exact ⟨_, ResV.tmp rfl, rfl, hx.trans (wfH.ext _), by rw [he]; rfl, rfl⟩
 cases hn : a.none with
 | true =>
  rw [show askC p a = askC p { a with none := true } by rw [← hn]] at hg
  have he : askW a = [wFresh, wordM a.key, wordM a.value] := by unfold askW; rw [if_neg k1, if_neg k2, if_neg k3, if_neg k4, if_pos hn]
  have ct := qbu [.txt wFresh, .raw p.k a.key, .raw p.v a.value] H 3 rfl wfH (t.ext hx) ⟨⟨trivial, Nat.le_of_ble_eq_true rfl⟩, ⟨⟨q1, by omega⟩, show a.key.length ≤ 600000 by omega⟩, ⟨⟨q3, by omega⟩, show a.value.length ≤ 600000 by omega⟩, trivial⟩ (by show 3 ≤ 1000; omega)
  repeat (first | refine W.w ?_ | refine AWp.c8 rfl ?_ | refine AWp.c9 rfl ?_ | (refine zz rfl ?_; first | refine qaa rfl ?_ | refine qag rfl ?_ | refine qao rfl ?_ | refine qaf rfl rfl hg rfl ?_ | refine qba rfl rfl ?_ | refine qak rfl rfl rfl (by omega) ?_ | refine qaN (([.txt wFresh, .raw p.k a.key, .raw p.v a.value] : List WArg).map argV) rfl rfl rfl rfl (qa2 _) ?_ | refine qab rfl rfl ct ?_))
  exact ⟨_, ResV.tmp rfl, rfl, hx.trans (wfH.ext _), by rw [he]; rfl, rfl⟩
 | false =>
  rw [show askC p a = askC p { a with none := false } by rw [← hn]] at hg
  have he : askW a = [wSwap, wordM a.key, wordM a.value, wordM a.was] := by unfold askW; rw [if_neg k1, if_neg k2, if_neg k3, if_neg k4, hn]; rfl
  have ct := qbu [.txt wSwap, .raw p.k a.key, .raw p.v a.value, .raw p.w a.was] H 4 rfl wfH (t.ext hx) ⟨⟨trivial, Nat.le_of_ble_eq_true rfl⟩, ⟨⟨q1, by omega⟩, show a.key.length ≤ 600000 by omega⟩, ⟨⟨q3, by omega⟩, show a.value.length ≤ 600000 by omega⟩, ⟨⟨q4, by omega⟩, show a.was.length ≤ 600000 by omega⟩, trivial⟩ (by show 4 ≤ 1000; omega)
  repeat (first | refine W.w ?_ | refine AWp.c9 rfl ?_ | (refine zz rfl ?_; first | refine qaa rfl ?_ | refine qag rfl ?_ | refine qao rfl ?_ | refine qaf rfl rfl hg rfl ?_ | refine qba rfl rfl ?_ | refine qak rfl rfl rfl (by omega) ?_ | refine qaN (([.txt wSwap, .raw p.k a.key, .raw p.v a.value, .raw p.w a.was] : List WArg).map argV) rfl rfl rfl rfl (qa2 _) ?_ | refine qab rfl rfl ct ?_))
  exact ⟨_, ResV.tmp rfl, rfl, hx.trans (wfH.ext _), by rw [he]; rfl, rfl⟩
theorem planT_c (p : CmdV) (a : CmdM) (h : Heap) (t : Tabs h) (r : CmdR h p a) (hm : mayPlan a = true) : ACalls Tryz.prog 44 [.agg (cmdC p a).toArray] h fun u h' => u = str (joinW (planW a)) ∧ h' = h := by
 obtain ⟨l1, l2, l3, l4, l5⟩ := qcH hm
 refine ACalls.wf fun wf => ACalls.reset ?_
 refine ACalls.body Tryz.func44 rfl rfl ?_
 repeat (first | refine W.w ?_ | refine zz rfl (qag rfl ?_) | refine zz rfl (qaV rfl (by intro e; cases e) ?_))
 generalize hH : h.alloc _ = H
 have hg : H.get h.next = some ⟨cmdC p a, 37, true⟩ := hH ▸ Heap.alloc_new _ _
 have hx : Ext h H := hH ▸ wf.ext _
 have wfH : WF H := hH ▸ wf.alloc _
 clear hH
 have q1 := (r.ext hx).k
 by_cases k1 : a.kind = 6
 ·
  have he : planW a = [wSplit, wordM a.key] := by unfold planW; rw [if_pos k1]
  have ct := qbu [.txt wSplit, .raw p.k a.key] H 2 rfl wfH (t.ext hx) ⟨⟨trivial, Nat.le_of_ble_eq_true rfl⟩, ⟨⟨q1, by omega⟩, show a.key.length ≤ 600000 by omega⟩, trivial⟩ (by show 2 ≤ 1000; omega)
  repeat (first | refine W.w ?_ | refine AWp.c8 rfl ?_ | (refine zz rfl ?_; first | refine qaa rfl ?_ | refine qag rfl ?_ | refine qao rfl ?_ | refine qaf rfl rfl hg rfl ?_ | refine qba rfl rfl ?_ | refine qam rfl rfl rfl (by omega) ?_ | refine qaN (([.txt wSplit, .raw p.k a.key] : List WArg).map argV) rfl rfl rfl rfl (qa2 _) ?_ | refine qab rfl rfl ct ?_))
  exact ⟨_, ResV.tmp rfl, rfl, hx.trans (wfH.ext _), by rw [he]; rfl, rfl⟩
 by_cases k2 : a.kind = 7
 ·
  have he : planW a = [wUnion, wordM a.key] := by unfold planW; rw [if_neg k1, if_pos k2]
  have ct := qbu [.txt wUnion, .raw p.k a.key] H 2 rfl wfH (t.ext hx) ⟨⟨trivial, Nat.le_of_ble_eq_true rfl⟩, ⟨⟨q1, by omega⟩, show a.key.length ≤ 600000 by omega⟩, trivial⟩ (by show 2 ≤ 1000; omega)
  repeat (first | refine W.w ?_ | refine AWp.c8 rfl ?_ | refine AWp.c9 rfl ?_ | (refine zz rfl ?_; first | refine qaa rfl ?_ | refine qag rfl ?_ | refine qao rfl ?_ | refine qaf rfl rfl hg rfl ?_ | refine qba rfl rfl ?_ | refine qam rfl rfl rfl (by omega) ?_ | refine qak rfl rfl rfl (by omega) ?_ | refine qaN (([.txt wUnion, .raw p.k a.key] : List WArg).map argV) rfl rfl rfl rfl (qa2 _) ?_ | refine qab rfl rfl ct ?_))
  exact ⟨_, ResV.tmp rfl, rfl, hx.trans (wfH.ext _), by rw [he]; rfl, rfl⟩
 ·
  have he : planW a = [wMove, wordM a.key, itoa a.group] := by unfold planW; rw [if_neg k1, if_neg k2]
  have ct := qbu [.txt wMove, .raw p.k a.key, .num a.group] H 3 rfl wfH (t.ext hx) ⟨⟨trivial, Nat.le_of_ble_eq_true rfl⟩, ⟨⟨q1, by omega⟩, show a.key.length ≤ 600000 by omega⟩, ⟨(show I64 a.group from ⟨by omega, by omega⟩), trivial⟩, trivial⟩ (by show 3 ≤ 1000; omega)
  repeat (first | refine W.w ?_ | refine AWp.c9 rfl ?_ | (refine zz rfl ?_; first | refine qaa rfl ?_ | refine qag rfl ?_ | refine qao rfl ?_ | refine qaf rfl rfl hg rfl ?_ | refine qba rfl rfl ?_ | refine qak rfl rfl rfl (by omega) ?_ | refine qaN (([.txt wMove, .raw p.k a.key, .num a.group] : List WArg).map argV) rfl rfl rfl rfl (qa2 _) ?_ | refine qab rfl rfl ct ?_))
  exact ⟨_, ResV.tmp rfl, rfl, hx.trans (wfH.ext _), by rw [he]; rfl, rfl⟩
end Go.Proofs.YtigmojilaadbhaaGreatDoor
/- . -/
namespace Go.Proofs.YtigmojilaadbhaaGreatDoor
open Go Go.Eng Go.Pln Go.Lib
attribute [local irreducible] AWp AL DAL AOp XWp XL YDAL
instance i_kinds : FnC Tryz.prog 47 := ⟨Tryz.f47, Tryz.func47, by kernel_rfl, by kernel_rfl⟩
instance i_kinds1 : FnC Tryz.prog 95 := ⟨Tryz.f95, Tryz.func95, by kernel_rfl, by kernel_rfl⟩
instance i_name : FnC Tryz.prog 42 := ⟨Tryz.f42, Tryz.func42, by kernel_rfl, by kernel_rfl⟩
instance i_fields : FnC Tryz.prog 96 := ⟨Tryz.f96, Tryz.func96, by kernel_rfl, by kernel_rfl⟩
structure Kp (O : Nat → Prop) (G H : Heap) : Prop where
 c : ∀ j b, G.get j = some b → ¬ O j → H.get j = some b
 o : ∀ j b, G.obj j = some b → ¬ O j → H.obj j = some b
theorem Kp.refl (O : Nat → Prop) (G : Heap) : Kp O G G := ⟨fun _ _ e _ => e, fun _ _ e _ => e⟩
def kindsK : Bytes := [116, 105, 109, 101, 114, 32, 98, 101, 97, 116, 32, 104, 101, 97, 114, 32, 100, 114, 111, 112, 32, 100, 111, 117, 98, 108, 101, 32, 97, 112, 112, 108, 121, 32, 119, 111, 114, 107, 32, 100, 114, 105, 118, 101, 32, 112, 108, 97, 110, 32, 97, 115, 107, 32, 97, 103, 97, 105, 110, 32, 99, 114, 97, 115, 104, 32, 115, 116, 97, 114, 116]
theorem qdn : Lib.fields kindsK = kwords := by decide +kernel
theorem kwords_at (k : Nat) (hk : k < 13) : kwords[k]? = some (kword ((k : Int) + 1)) := by
 have h : ∀ i : Fin 13, kwords[i.val]? = some (kword ((i.val : Int) + 1)) := by decide +kernel
 exact h ⟨k, hk⟩
theorem qdf : kwords.length = 13 := by decide +kernel
def PreK (Y : Nat → Heap → Prop) (i : Nat × Heap) (H : Heap) (args : List Value) : Prop :=
 args = [.int .i64 ((i.1 : Nat) + 1), str (kword ((i.1 : Nat) + 1))] ∧ i.1 < 13 ∧ Y i.1 H ∧ i.2 = H ∧ WF H
def TK (O : Nat → Prop) (Y : Nat → Heap → Prop) (i : Nat × Heap) (H : Heap) : Prop := Y (i.1 + 1) H ∧ Kp O i.2 H
set_option maxRecDepth 4000 in
theorem qhG (C : Ctx Tryz.prog) (hq : C.Quiet) (y : Nat) (h : Heap) (t : Tabs h) (O : Nat → Prop) (hO : ∀ j, O j → j < h.next) (Y : Nat → Heap → Prop) (Z : Heap → Code → Prop) (hYs : ∀ k H H', Y k H → Ext H H' → H.next ≤ H'.next → Y k H')
  (hy : YS C y (PreK Y) (TK O Y) (fun _ H' j => Z H' j)) (h0 : Y 0 h) :
  XCalls C 95 [yieldV y] h none fun _ h' s' => (s' = none ∧ Y 13 h') ∨ ∃ j, s' = some j ∧ Z h' j := by
 refine XCalls.body Tryz.func95 rfl (Nat.le_of_ble_eq_true rfl) ?_ hq
 refine XWp.wf fun wf => ?_
 have cf := fields_c kindsK h t (by decide) (by rw [qdn, qdf]; omega) (by
  have hall : (kindsK.all fun b => decide (b.toNat < 128)) = true := by decide +kernel
  intro j b hb
  exact of_decide_eq_true (List.all_eq_true.1 hall b (List.mem_of_getElem? hb)))
 rw [qdn, qdf] at cf
 have hlen : (kwords.map fun l => Value.string (bstr l)).length = 13 := by rw [List.length_map, qdf]
 repeat (first | refine XWp.seq ?_ | refine XWp.region ?_ | refine XL.set rfl rfl rfl (qar (evs := [str kindsK]) rfl rfl (cf.mono ?_)))
 rintro _ H1 ⟨rfl, hH1⟩
 cases hH1.symm
 have g1 := Heap.alloc_new h ⟨kwords.map fun l => .string (bstr l), 9, true⟩
 have x1 := wf.ext ⟨kwords.map fun l => .string (bstr l), 9, true⟩
 have wf1 := wf.alloc ⟨kwords.map fun l => .string (bstr l), 9, true⟩
 have y1 := hYs 0 h _ h0 x1 (Nat.le_succ _)
 generalize h.alloc ⟨kwords.map fun l => .string (bstr l), 9, true⟩ = H1 at g1 x1 wf1 y1 ⊢
 have rs : ∀ H : Heap, H.get h.next = some ⟨kwords.map fun l => .string (bstr l), 9, true⟩ → RS H (.slice (some ⟨h.next, 0, none⟩) 13 13) (kwords.map fun l => .string (bstr l)) := fun H hg =>
  RS.of hg (.inl rfl) hlen (by rw [Nat.zero_add]; exact Nat.le_of_eq hlen.symm) (by rw [List.drop_zero]; exact List.take_of_length_le (Nat.le_of_eq hlen))
 repeat (first | refine XL.nil ?_ | refine XWp.block ?_ | refine XL.set rfl rfl rfl (qac rfl ?_) | refine XL.set rfl rfl rfl (qca rfl ?_))
 refine XWp.loop (α := Nat × Heap) (fun d => [(0, yieldV y), (4, .slice (some ⟨h.next, 0, none⟩) 13 13), (5, .int .i64 13), (6, .int .i64 (d.1 : Nat))]) (fun d => d.2) (fun d => d.1 ≤ 13 ∧ Y d.1 d.2 ∧ d.2.get h.next = some ⟨kwords.map fun l => .string (bstr l), 9, true⟩ ∧ WF d.2) (fun d => 13 - d.1) (0, H1) ⟨Nat.zero_le _, y1, g1, wf1⟩
  (Weak.same (EW.cons rfl (EW.cons rfl (EW.cons rfl (EW.cons rfl EW.nil))))) ?_
 rintro ⟨k, H⟩ ⟨hk, hY, hg, wfH⟩
 replace hk : k ≤ 13 := hk
 replace hY : Y k H := hY
 replace hg : H.get h.next = some ⟨kwords.map fun l => .string (bstr l), 9, true⟩ := hg
 replace wfH : WF H := wfH
 show XWp _ _ _ _ _ [(0, yieldV y), (4, .slice (some ⟨h.next, 0, none⟩) 13 13), (5, .int .i64 13), (6, .int .i64 (k : Nat))] H none
 by_cases hlt : k < 13
 ·
  have hs2 : (kwords.map fun l => Value.string (bstr l))[((k : Nat) : Int).toNat]? = some (str (kword ((k : Int) + 1))) := by
   show (kwords.map fun l => Value.string (bstr l))[k]? = _
   rw [List.getElem?_map, kwords_at k hlt]
   rfl
  repeat (first | refine XL.nil ?_ | refine XWp.seq ?_ | refine XWp.region ?_ | refine XWp.condT rfl ?_ | refine XWp.block ?_ | refine XWp.skip ?_ | refine XL.set rfl rfl rfl (qac rfl ?_) | refine XL.set rfl rfl rfl (qam rfl rfl rfl (by omega) ?_))
  refine XL.set rfl rfl rfl (qbg (rs H hg) rfl rfl (by omega) hs2 ?_)
  intro pp hpp
  repeat (first | refine XL.nil ?_ | refine XWp.seq ?_ | refine XWp.region ?_ | refine XL.set rfl rfl rfl (qac rfl ?_) | refine XL.set rfl rfl rfl (qai rfl ?_) | refine XL.set rfl rfl rfl (qa4 rfl ?_) | refine XL.set rfl rfl rfl (qad rfl ?_) | refine XL.set rfl rfl rfl (qag rfl ?_) | refine XL.set rfl rfl rfl (qat hpp rfl rfl ?_) | refine XL.set rfl rfl rfl (qas rfl rfl (by omega) ?_))
  refine XL.yield (l := y) rfl rfl rfl ?_
  refine YSpec.mono (hy (k, H) H [.int .i64 ((k : Nat) + 1), str (kword ((k : Nat) + 1))] ⟨rfl, hlt, hY, rfl, wfH⟩) ?_
  rintro v' H5 s' wf5 hn5 (⟨rfl, rfl, hY5, kp⟩ | ⟨rfl, j, rfl, hZ⟩)
  ·
   replace hY5 : Y (k + 1) H5 := hY5
   replace kp : Kp O H H5 := kp
   repeat (first | refine XL.nil ?_ | refine XWp.region ?_ | refine XWp.condF rfl ?_ | refine XWp.skip ?_ | refine XL.set rfl rfl rfl (qac rfl ?_) | refine XL.set rfl rfl rfl (qas rfl rfl (by omega) ?_) | refine XL.set rfl rfl rfl (qaL rfl ?_))
   refine ⟨rfl, (k + 1, H5), ⟨hlt, hY5, kp.c _ _ hg fun e => by have := hO _ e; omega, wf5⟩, by show 13 - (k + 1) < 13 - k; omega, Weak.same (EW.cons rfl (EW.cons rfl (EW.cons rfl (EW.cons rfl EW.nil))))⟩
  ·
   repeat (first | refine XL.nil ?_ | refine XWp.condT rfl ?_ | refine XWp.ret ?_ | refine XL.set rfl rfl rfl (qaL rfl ?_))
   exact ⟨_, ResV.none rfl, .inr ⟨j, rfl, hZ⟩⟩
 ·
  obtain rfl : k = 13 := by omega
  repeat (first | refine XL.nil ?_ | refine XWp.seq ?_ | refine XWp.region ?_ | refine XWp.condF rfl ?_ | refine XWp.exit ?_ | refine XL.set rfl rfl rfl (qak rfl rfl rfl (by omega) ?_))
  exact ⟨_, ResV.none rfl, .inl ⟨rfl, hY⟩⟩
theorem kinds_v (h : Heap) : ACalls Tryz.prog 47 [] h fun u h' => u = .func (.func 95) #[] #[] ∧ h' = h := by
 refine ACalls.body Tryz.func47 rfl rfl ?_
 repeat (first | refine W.w ?_ | refine zz rfl (qaY rfl ?_) | refine zz rfl (qaq (by conv => lhs; whnf) ?_))
 exact ⟨_, ResV.tmp rfl, rfl, rfl⟩
def nameM (k : Int) : Bytes := if 1 ≤ k ∧ k ≤ 13 then kword k else []
structure NmY (h : Heap) (k : Int) (i : Nat) (H : Heap) : Prop where
 ext : Ext h H
 box : H.get h.next = some ⟨[.int .i64 k], 25, true⟩
 cell : H.get (h.next + 1) = some ⟨[str []], 9, true⟩
 no : ∀ j, j < i → k ≠ (j : Nat) + 1
structure NmZ (h : Heap) (k : Int) (H : Heap) (c : Code) : Prop where
 ret : c = .ret
 ext : Ext h H
 cell : H.get (h.next + 1) = some ⟨[str (nameM k)], 9, true⟩
theorem name_c (k : Int) (h : Heap) (t : Tabs h) : ACalls Tryz.prog 42 [.int .i64 k] h fun u h' => u = str (nameM k) ∧ h' = h := by
 refine ACalls.wf fun wf => ACalls.reset ?_
 refine ACalls.bodyX Tryz.func42 rfl (Nat.le_of_ble_eq_true rfl) fun bb => ?_
 repeat (first | refine XWp.seq ?_ | refine XWp.region ?_ | refine XL.set rfl rfl rfl (qaV rfl (by intro e; cases e) ?_))
 generalize hH : h.alloc _ = H1
 have g1 : H1.get h.next = some ⟨[.int .i64 k], 25, true⟩ := hH ▸ Heap.alloc_new _ _
 have x1 : Ext h H1 := hH ▸ wf.ext _
 have wf1 : WF H1 := hH ▸ wf.alloc _
 have n1 : H1.next = h.next + 1 := hH ▸ rfl
 clear hH
 repeat (first | refine XL.nil ?_ | refine XWp.seq ?_ | refine XWp.region ?_ | refine XL.set rfl rfl rfl (qaw ?_))
 rw [n1]
 generalize hH : H1.alloc _ = H2
 have g2 : H2.get (h.next + 1) = some ⟨[str []], 9, true⟩ := by rw [← n1, ← hH]; exact Heap.alloc_new _ _
 have x2 : Ext H1 H2 := hH ▸ wf1.ext _
 have wf2 : WF H2 := hH ▸ wf1.alloc _
 clear hH
 have gb := x2.c _ _ g1
 have l2 := wf2.lt g2
 repeat (first | refine XL.nil ?_ | refine XWp.block ?_ | refine XL.set rfl rfl rfl (qab rfl rfl (kinds_v H2) ?_))
 refine XWp.rangeFunc (ι := Nat × Heap) (fi := []) (ca := []) (PreK (NmY h k)) (TK (fun j => j = h.next + 1) (NmY h k)) (fun _ H c => NmZ h k H c) (fun H => NmY h k 13 H) (fun H c => NmZ h k H c) rfl (fun k e => e) (fun _ _ l => l) rfl ?_ ?_ ?_ ?_ ?_
 ·
  rintro i H args ⟨rfl, _⟩; rfl
 ·
  intro C1 y hq ys
  exact qhG C1 hq y H2 (t.ext (x1.trans x2)) (fun j => j = h.next + 1) (by rintro j rfl; exact l2) _ _ (fun i H H' hY hx _ => ⟨hY.ext.trans hx, hx.c _ _ hY.box, hx.c _ _ hY.cell, hY.no⟩) ys ⟨x1.trans x2, gb, g2, fun j hj => by omega⟩
 ·
  rintro Ca Cb y ⟨i, H⟩ H' args ⟨rfl, hi, hY, rfl, wfH⟩
  replace hi : i < 13 := hi
  replace hY : NmY h k i H := hY
  replace wfH : WF H := wfH
  show XWp Ca _ _ _ _ (setPs _ [.int .i64 ((i : Nat) + 1), str (kword ((i : Nat) + 1))] _) H none
  by_cases hk : ((i : Nat) : Int) + 1 = k
  ·
   repeat (first | refine XL.nil ?_ | refine XWp.seq ?_ | refine XWp.region ?_ | refine XWp.condT rfl ?_ | refine XWp.block ?_ | refine XL.set rfl rfl rfl (qac rfl ?_) | refine XL.set rfl rfl rfl (qai rfl ?_) | refine XL.set rfl rfl rfl (qad rfl ?_) | refine XL.set rfl rfl rfl (qag rfl ?_) | refine XL.set rfl rfl rfl (qaf rfl rfl hY.box rfl ?_) | refine XL.set rfl rfl rfl (qam rfl rfl rfl hk ?_))
   refine XL.eff rfl rfl (qau (v := str (kword ((i : Nat) + 1))) rfl rfl rfl hY.cell rfl (Nat.zero_lt_one) ?_)
   repeat (first | refine XL.nil ?_ | refine XWp.ret ?_)
   refine ⟨rfl, wf.ext_set hY.ext (Nat.le_succ _) _, ?_⟩
   have hs : nameM k = kword ((i : Nat) + 1) := by unfold nameM; rw [if_pos (by omega), hk]
   rw [hs]
   exact Heap.set_at _ _ _
  ·
   repeat (first | refine XL.nil ?_ | refine XWp.seq ?_ | refine XWp.region ?_ | refine XWp.condF rfl ?_ | refine XWp.block ?_ | refine XWp.skip ?_ | refine XL.set rfl rfl rfl (qac rfl ?_) | refine XL.set rfl rfl rfl (qad rfl ?_) | refine XL.set rfl rfl rfl (qag rfl ?_) | refine XL.set rfl rfl rfl (qaf rfl rfl hY.box rfl ?_) | refine XL.set rfl rfl rfl (qak rfl rfl rfl hk ?_))
   refine ⟨⟨hY.ext, hY.box, hY.cell, fun j hj => ?_⟩, Kp.refl _ _⟩
   by_cases hji : j < i
   ·
    exact hY.no j hji
   ·
    obtain rfl : j = i := by
     have : j < i + 1 := hj
     omega
    exact fun e => hk e.symm
 ·
  rintro H hn hY
  refine XWp.wf fun wfH => ?_
  have hs : nameM k = [] := by
   unfold nameM
   refine if_neg fun e => ?_
   exact hY.no (k - 1).toNat (by omega) (by omega)
  repeat (first | refine XWp.seq ?_ | refine XWp.region ?_)
  refine XL.eff rfl rfl (qau (v := str []) rfl rfl rfl hY.cell rfl (Nat.zero_lt_one) ?_)
  repeat (first | refine XL.nil ?_ | refine XWp.ret ?_)
  exact ⟨_, ResV.cell rfl rfl rfl (Heap.set_at _ _ _) rfl, rfl, wf.ext_set hY.ext (Nat.le_succ _) _, congrArg str hs.symm, rfl⟩
 ·
  rintro H j hn ⟨rfl, hx, hc⟩
  repeat (first | refine XWp.ret ?_)
  exact ⟨_, ResV.cell rfl rfl rfl hc rfl, rfl, hx, rfl, rfl⟩
end Go.Proofs.YtigmojilaadbhaaGreatDoor
/- . -/
namespace Go.Proofs.YtigmojilaadbhaaGreatDoor
open Go Go.Eng Go.Pln Go.Lib
attribute [local irreducible] AWp AL DAL AOp TAL
def planOk (c : CmdM) : Bool := okC c && decide (namedC c = c) && decide (c.kind = 6 ∨ c.kind = 7 ∨ c.kind = 8)
theorem qeg (c : CmdM) : mayPlan c = planOk c := by
 rw [Bool.eq_iff_iff]
 unfold mayPlan planOk
 by_cases k1 : c.kind = 6 ∨ c.kind = 7
 ·
  rw [if_pos k1]
  have h1 : namedC c = { cmd0 with kind := c.kind, key := c.key } := by unfold namedC; grind
  have h2 : okC c = keyOk c.key := by unfold okC; grind
  rw [h1, h2, keyOk]
  simp only [Bool.and_eq_true, decide_eq_true_iff]
  grind
 ·
  rw [if_neg k1]
  by_cases k2 : c.kind = 8
  ·
   rw [if_pos k2]
   have h1 : namedC c = { cmd0 with kind := c.kind, key := c.key, group := c.group } := by unfold namedC; grind
   have h2 : okC c = decide (c.key.length ≤ 24 ∧ 1 ≤ c.group ∧ c.group < 5) := by unfold okC; grind
   rw [h1, h2]
   simp only [Bool.and_eq_true, decide_eq_true_iff]
   grind
  ·
   rw [if_neg k2]
   simp only [Bool.and_eq_true, decide_eq_true_iff]
   grind
def kp (l : List (Bytes × Int)) : Bool := keepOk l && decide (l.length ≤ 128)
def mayQ (nodes groups : Int) (a : ActM) : Prop := (1 ≤ a.kind ∧ a.kind ≤ 13) ∧ namedA a = a ∧ (a.kind = 9 → planOk a.cmd = true) ∧ (a.kind = 10 → mayAsk a.ask = true) ∧ (a.kind = 10 ∨ a.kind = 11 → 1 ≤ a.client ∧ a.client ≤ 4) ∧ (0 ≤ a.node ∧ a.node ≤ nodes - 1) ∧ (0 ≤ a.group ∧ a.group ≤ groups - 1) ∧ (0 ≤ a.n ∧ a.n ≤ 2147483647) ∧ kp a.keep = true
theorem qfg {nodes groups : Int} (hn : 1 ≤ nodes) (hg : 1 ≤ groups) (a : ActM) : mayAct nodes groups a = true ↔ mayQ nodes groups a := by
 have hk0 : kp [] = true := rfl
 have hkp : ∀ l, kp l = true ↔ l.length ≤ 128 ∧ keepOk l = true := fun l => by
  unfold kp
  rw [Bool.and_eq_true, decide_eq_true_iff]
  exact And.comm
 have e1 : ∀ X : ActM, a = X ↔ X = a := fun X => eq_comm
 unfold mayQ mayAct
 by_cases k1 : a.kind = 1 ∨ a.kind = 2 ∨ a.kind = 6 ∨ a.kind = 7
 ·
  have h1 : namedA a = { act0 with kind := a.kind, node := a.node, group := a.group } := by unfold namedA; grind
  rw [if_pos k1, h1, decide_eq_true_iff, e1]
  constructor
  ·
   rintro ⟨a1, a2, a3, a4, e⟩
   have q1 : a.n = 0 := by rw [← e]; rfl
   have q2 : a.keep = [] := by rw [← e]; rfl
   rw [q1, q2]
   exact ⟨by omega, e, by omega, by omega, by omega, by omega, by omega, by omega, hk0⟩
  ·
   rintro ⟨a1, e, a3, a4, a5, a6, a7, a8, a9⟩
   exact ⟨by omega, by omega, by omega, by omega, e⟩
 rw [if_neg k1]
 by_cases k2 : a.kind = 3 ∨ a.kind = 4 ∨ a.kind = 5
 ·
  have h1 : namedA a = { act0 with kind := a.kind, n := a.n } := by unfold namedA; grind
  rw [if_pos k2, h1, decide_eq_true_iff, e1]
  constructor
  ·
   rintro ⟨a1, a2, e⟩
   have q1 : a.node = 0 := by rw [← e]; rfl
   have q3 : a.group = 0 := by rw [← e]; rfl
   have q2 : a.keep = [] := by rw [← e]; rfl
   rw [q1, q2, q3]
   exact ⟨by omega, e, by omega, by omega, by omega, by omega, by omega, by omega, hk0⟩
  ·
   rintro ⟨a1, e, a3, a4, a5, a6, a7, a8, a9⟩
   exact ⟨by omega, by omega, e⟩
 rw [if_neg k2]
 by_cases k3 : a.kind = 8 ∨ a.kind = 13
 ·
  have h1 : namedA a = { act0 with kind := a.kind, node := a.node } := by unfold namedA; grind
  rw [if_pos k3, h1, decide_eq_true_iff, e1]
  constructor
  ·
   rintro ⟨a1, a2, e⟩
   have q1 : a.n = 0 := by rw [← e]; rfl
   have q3 : a.group = 0 := by rw [← e]; rfl
   have q2 : a.keep = [] := by rw [← e]; rfl
   rw [q1, q2, q3]
   exact ⟨by omega, e, by omega, by omega, by omega, by omega, by omega, by omega, hk0⟩
  ·
   rintro ⟨a1, e, a3, a4, a5, a6, a7, a8, a9⟩
   exact ⟨by omega, by omega, e⟩
 rw [if_neg k3]
 by_cases k4 : a.kind = 9
 ·
  have h1 : namedA a = { act0 with kind := a.kind, node := a.node, cmd := a.cmd } := by unfold namedA; grind
  rw [if_pos k4, h1, decide_eq_true_iff, e1]
  constructor
  ·
   rintro ⟨a1, a2, a3, e⟩
   have q1 : a.n = 0 := by rw [← e]; rfl
   have q3 : a.group = 0 := by rw [← e]; rfl
   have q2 : a.keep = [] := by rw [← e]; rfl
   rw [q1, q2, q3]
   exact ⟨by omega, e, fun _ => by rw [← qeg]; exact a3, by omega, by omega, by omega, by omega, by omega, hk0⟩
  ·
   rintro ⟨a1, e, a3, a4, a5, a6, a7, a8, a9⟩
   exact ⟨by omega, by omega, by rw [qeg]; exact a3 k4, e⟩
 rw [if_neg k4]
 by_cases k5 : a.kind = 10
 ·
  have h1 : namedA a = { act0 with kind := a.kind, node := a.node, group := a.group, client := a.client, ask := a.ask } := by unfold namedA; rw [if_pos k5]
  rw [if_pos k5, h1, decide_eq_true_iff, e1]
  constructor
  ·
   rintro ⟨a1, a2, a3, a4, a5, a6, a7, e⟩
   have q1 : a.n = 0 := by rw [← e]; rfl
   have q2 : a.keep = [] := by rw [← e]; rfl
   rw [q1, q2]
   exact ⟨by omega, e, by omega, fun _ => a7, by omega, by omega, by omega, by omega, hk0⟩
  ·
   rintro ⟨a1, e, a3, a4, a5, a6, a7, a8, a9⟩
   exact ⟨by omega, by omega, by omega, by omega, by omega, by omega, a4 k5, e⟩
 rw [if_neg k5]
 by_cases k6 : a.kind = 11
 ·
  have h1 : namedA a = { act0 with kind := a.kind, node := a.node, group := a.group, client := a.client } := by unfold namedA; grind
  rw [if_pos k6, h1, decide_eq_true_iff, e1]
  constructor
  ·
   rintro ⟨a1, a2, a3, a4, a5, a6, e⟩
   have q1 : a.n = 0 := by rw [← e]; rfl
   have q2 : a.keep = [] := by rw [← e]; rfl
   rw [q1, q2]
   exact ⟨by omega, e, by omega, by omega, by omega, by omega, by omega, by omega, hk0⟩
  ·
   rintro ⟨a1, e, a3, a4, a5, a6, a7, a8, a9⟩
   exact ⟨by omega, by omega, by omega, by omega, by omega, by omega, e⟩
 rw [if_neg k6]
 by_cases k7 : a.kind = 12
 ·
  have h1 : namedA a = { act0 with kind := a.kind, node := a.node, keep := a.keep } := by unfold namedA; grind
  rw [if_pos k7, h1, decide_eq_true_iff, e1]
  constructor
  ·
   rintro ⟨a1, a2, a3, a4, e⟩
   have q1 : a.n = 0 := by rw [← e]; rfl
   have q3 : a.group = 0 := by rw [← e]; rfl
   rw [q1, q3]
   exact ⟨by omega, e, by omega, by omega, by omega, by omega, by omega, by omega, (hkp _).2 ⟨a3, a4⟩⟩
  ·
   rintro ⟨a1, e, a3, a4, a5, a6, a7, a8, a9⟩
   exact ⟨by omega, by omega, ((hkp _).1 a9).1, ((hkp _).1 a9).2, e⟩
 rw [if_neg k7]
 constructor
 ·
  intro e; cases e
 ·
  rintro ⟨a1, _⟩
  exfalso
  omega
instance i_containsK : FnC Tryz.prog 88 := ⟨Tryz.f88, Tryz.func88, by kernel_rfl, by kernel_rfl⟩
instance i_indexK : FnC Tryz.prog 117 := ⟨Tryz.f117, Tryz.func117, by kernel_rfl, by kernel_rfl⟩
instance i_may : FnC Tryz.prog 40 := ⟨Tryz.f40, Tryz.func40, by kernel_rfl, by kernel_rfl⟩
instance i_mayAct : FnC Tryz.prog 16 := ⟨Tryz.f16, Tryz.func16, by kernel_rfl, by kernel_rfl⟩
instance qgy : TyD Tryz.prog 138 (.slice 30) := ⟨Tryz.underlying138⟩
theorem cmay_c (p : CmdV) (m : CmdM) (h : Heap) (r : CmdR h p m) : ACalls Tryz.prog 87 [.agg (cmdC p m).toArray] h fun u h' => u = .bool (okC m && decide (namedC m = m)) ∧ h' = h := by
 refine ACalls.wf fun wf => ACalls.reset ?_
 refine ACalls.body Tryz.func87 rfl rfl ?_
 repeat (first | refine W.w ?_ | refine zz rfl (qaa rfl ?_) | refine zz rfl (qaV rfl (by intro e; cases e) ?_))
 generalize hH : h.alloc _ = H
 have hg : H.get h.next = some ⟨cmdC p m, 37, true⟩ := hH ▸ Heap.alloc_new _ _
 have hx : Ext h H := hH ▸ wf.ext _
 have wfH : WF H := hH ▸ wf.alloc _
 clear hH
 have rH := r.ext hx
 repeat (first | refine zz rfl (qaj (sz := 20) rfl rfl hg (Nat.le_refl _) ?_))
 refine zz rfl (qar (evs := [.agg (cmdC p m).toArray]) rfl rfl ((cnamed_c p m H rH).wf_post.mono ?_))
 rintro _ H1 ⟨⟨q, rfl, rq, x1⟩, wf1, _⟩
 repeat (first | refine W.w ?_ | refine AL.eff rfl (qaE (vs := cmdC q (namedC m)) rfl rfl rfl rfl (qa5 rq) ?_) | (refine zz rfl ?_; first | refine qae rfl ?_ | refine qaH rfl ?_ | refine qaa rfl ?_ | refine qav rfl rfl ?_ | refine qaw ?_))
 obtain ⟨H2, hQ, g2, x2, _, _⟩ := aq wf1 ⟨cmdC q (namedC m), 37, true⟩
 rw [hQ]
 have hxx := hx.trans (x1.trans x2)
 have cs := qgn q p (namedC m) m H2 (rq.ext x2) (r.ext hxx)
 have hg2 := x2.c _ _ (x1.c _ _ hg)
 cases ho : okC m with
 | false =>
  repeat' (first | refine W.w ?_ | refine AL.skip rfl rfl ?_ | refine zz rfl (qaa rfl ?_) | refine zz rfl (qah (v := .bool _) rfl rfl ?_))
  exact ⟨_, ResV.tmp rfl, rfl, hxx, rfl, rfl⟩
 | true =>
  repeat (first | refine W.w ?_ | (refine zz rfl ?_; first | refine qaa rfl ?_ | refine qaj (sz := 20) rfl rfl g2 (Nat.le_refl _) ?_ | refine qaj (sz := 20) rfl rfl hg2 (Nat.le_refl _) ?_ | refine qab rfl rfl cs ?_ | refine qah (v := .bool _) rfl rfl ?_))
  exact ⟨_, ResV.tmp rfl, rfl, hxx, rfl, rfl⟩
abbrev kV (ks : List Int) : List Value := ks.map fun n => .int .i64 n
theorem indexK_c (v : Value) (ks : List Int) (k : Int) (h : Heap) (r : RS h v (kV ks)) (hl : ks.length ≤ 140737488351232) : ACalls Tryz.prog 117 [v, .int .i64 k] h fun u h' => ∃ z : Int, u = .int .i64 z ∧ decide (0 ≤ z) = decide (k ∈ ks) ∧ h' = h := by
 refine ACalls.body Tryz.func117 rfl rfl ?_
 obtain ⟨va, vc, hv⟩ := RS.slice r
 have hml : (kV ks).length = ks.length := List.length_map _
 repeat (first | refine W.w ?_ | (refine zz rfl ?_; first | refine qac rfl ?_ | refine qad rfl ?_ | refine qaS r rfl ?_ | refine qal (by conv => lhs; whnf) ?_))
 refine AWp.loop (α := Nat) (fun j => [(0, v), (1, .int .i64 k), (7, .int .i64 ((kV ks).length : Nat)), (8, .int .i64 (j : Nat))]) (fun _ => h) (fun j => j ≤ ks.length ∧ ¬ k ∈ ks.take j) (fun j => ks.length - j) 0 ⟨Nat.zero_le _, by simp⟩ (Weak.same (EW.cons rfl (EW.cons rfl (EW.cons rfl (EW.cons rfl EW.nil))))) ?_
 rintro j ⟨hj, ha⟩
 by_cases hlt : j < ks.length
 ·
  obtain ⟨c, hc⟩ : ∃ c, ks[j]? = some c := ⟨_, List.getElem?_eq_getElem hlt⟩
  have hc2 : (kV ks)[((j : Nat) : Int).toNat]? = some (.int .i64 c) := by simp [hc]
  repeat (first | refine W.w ?_ | refine AWp.c8 rfl ?_ | (refine zz rfl ?_; first | refine qac rfl ?_ | refine qad rfl ?_ | refine qam rfl rfl rfl (by omega) ?_ | refine qal (v := v) rfl ?_ | refine qbg r rfl rfl (by omega) hc2 ?_))
  intro p hp
  by_cases hm : k = c
  ·
   repeat (first | refine W.w ?_ | refine AWp.c8 rfl ?_ | (refine zz rfl ?_; first | refine qac rfl ?_ | refine qad rfl ?_ | refine qat hp rfl rfl ?_ | refine qam rfl rfl rfl hm ?_))
   refine ⟨_, ResV.tmp rfl, (j : Nat), rfl, ?_, rfl⟩
   rw [decide_eq_true (show (0 : Int) ≤ (j : Nat) by omega), decide_eq_true (show k ∈ ks by rw [hm]; exact List.mem_of_getElem? hc)]
  ·
   repeat (first | refine W.w ?_ | refine AWp.c9 rfl ?_ | (refine zz rfl ?_; first | refine qac rfl ?_ | refine qat hp rfl rfl ?_ | refine qak rfl rfl rfl hm ?_ | refine qas rfl rfl (by omega) ?_))
   refine ⟨j + 1, ⟨hlt, ?_⟩, by omega, Weak.same (EW.cons rfl (EW.cons rfl (EW.cons rfl (EW.cons rfl EW.nil))))⟩
   rw [List.take_add_one, hc]
   intro e
   rcases List.mem_append.1 e with e | e
   ·
    exact ha e
   ·
    exact hm (by simpa using e)
 ·
  obtain rfl : j = ks.length := by omega
  rw [List.take_length] at ha
  repeat (first | refine AL.nil ?_ | refine AWp.seq ?_ | refine AWp.r9 ?_ | refine AWp.c9 rfl ?_ | refine AWp.ret ?_ | refine AWp.exit ?_ | refine zz rfl (qad rfl ?_) | refine zz rfl (qak rfl rfl rfl (by omega) ?_))
  refine ⟨_, ResV.tmp rfl, -1, rfl, ?_, rfl⟩
  rw [decide_eq_false ha]
  rfl
theorem qgX (v : Value) (ks : List Int) (k : Int) (h : Heap) (r : RS h v (kV ks)) (hl : ks.length ≤ 140737488351232) : ACalls Tryz.prog 88 [v, .int .i64 k] h fun u h' => u = .bool (decide (k ∈ ks)) ∧ h' = h := by
 refine ACalls.body Tryz.func88 rfl rfl ?_
 repeat (first | refine W.w ?_ | (refine zz rfl ?_; first | refine qac rfl ?_ | refine qaa rfl ?_ | refine qal (v := v) rfl ?_))
 refine zz rfl (qar rfl rfl ((indexK_c v ks k h r hl).mono ?_))
 rintro _ H1 ⟨z, rfl, hz, hH1⟩
 cases hH1.symm
 by_cases h0 : 0 ≤ z
 ·
  repeat' (first | refine W.w ?_ | refine zz rfl (qaa rfl ?_) | refine zz rfl (qam rfl rfl rfl (by omega) ?_))
  exact ⟨_, ResV.tmp rfl, by rw [← hz, decide_eq_true h0]; rfl, rfl⟩
 ·
  repeat' (first | refine W.w ?_ | refine zz rfl (qaa rfl ?_) | refine zz rfl (qak rfl rfl rfl (by omega) ?_))
  exact ⟨_, ResV.tmp rfl, by rw [← hz, decide_eq_false h0]; rfl, rfl⟩
theorem Kd.plan_c (p : CmdV) (m : CmdM) (h : Heap) (r : CmdR h p m) : ACalls Tryz.prog 87 [.agg (cmdC p m).toArray] h fun u h' => u = .bool (okC m && decide (namedC m = m)) ∧ h' = h := cmay_c p m h r
theorem keepK_c (v : Value) (l : List (Bytes × Int)) (h : Heap) (r : RK h v l) : ACalls Tryz.prog 90 [v] h fun u h' => u = .bool (kp l) ∧ h' = h := mayKeep_c v l h r
instance (nodes groups : Int) (a : ActM) : Decidable (mayQ nodes groups a) := by unfold mayQ; infer_instance
theorem qgV {nodes groups : Int} (hn : 1 ≤ nodes) (hg : 1 ≤ groups) (a : ActM) : mayAct nodes groups a = decide (mayQ nodes groups a) := by
 rw [Bool.eq_iff_iff, decide_eq_true_iff]
 exact qfg hn hg a
theorem kinds_c (v : Value) (k : Int) (h : Heap) (r : RS h v (kV [6, 7, 8])) : ACalls Tryz.prog 88 [v, .int .i64 k] h fun u h' => u = .bool (decide (k = 6 ∨ k = 7 ∨ k = 8)) ∧ h' = h :=
 ACalls.val (congrArg Value.bool (by simp)) (qgX v [6, 7, 8] k h r (by simp))
theorem may_c (p : ActV) (a : ActM) (nodes groups : Int) (h : Heap) (r : ActR h p a) (hn : 1 ≤ nodes ∧ nodes ≤ 140737488351232) (hgr : 1 ≤ groups ∧ groups ≤ 140737488351232) :
  ACalls Tryz.prog 40 [.agg (actC p a).toArray, .int .i64 nodes, .int .i64 groups] h fun u h' => u = .bool (mayAct nodes groups a) ∧ h' = h := by
 refine ACalls.wf fun wf => ACalls.reset ?_
 refine ACalls.body Tryz.func40 rfl rfl ?_
 repeat (first | refine W.w ?_ | refine zz rfl (qaa rfl ?_) | refine zz rfl (qaV rfl (by intro e; cases e) ?_))
 generalize hH : h.alloc _ = H
 have hg : H.get h.next = some ⟨actC p a, 40, true⟩ := hH ▸ Heap.alloc_new _ _
 have hx : Ext h H := hH ▸ wf.ext _
 have wfH : WF H := hH ▸ wf.alloc _
 clear hH
 have rH := r.ext hx
 have xh := hx
 by_cases k0 : 1 ≤ a.kind ∧ a.kind ≤ 13
 ·
  obtain ⟨k1, k2⟩ := k0
  skip
  refine AWp.draw (σ := [(0, .R), (1, .R), (2, .R), (3, .R), (4, .R), (5, .R), (6, .R), (7, .R), (8, .R), (9, .R), (11, .R), (10, .X), (12, .R), (13, .R), (14, .R)]) mixed (by kernel_rfl) ?_
  repeat' (first | refine DAL.r rfl rfl rfl (fun h' hx hn => qae rfl ⟨rfl, rfl⟩) ?_ | refine DAL.r rfl rfl rfl (fun h' hx hn => qao rfl ⟨rfl, rfl⟩) ?_ | refine DAL.r rfl rfl rfl (fun h' hx hn => qaf rfl rfl (hx.c _ _ hg) rfl ⟨rfl, rfl⟩) ?_ | refine DAL.r rfl rfl rfl (fun h' hx hn => qaj (sz := 33) rfl rfl (hx.c _ _ hg) (Nat.le_refl _) ⟨rfl, rfl⟩) ?_ | refine DAL.r rfl rfl rfl (fun h' hx hn => qak rfl rfl rfl (by omega) ⟨rfl, rfl⟩) ?_ | refine DAL.r rfl rfl rfl (fun h' hx hn => qah (v := .bool _) rfl rfl ⟨rfl, rfl⟩) ?_)
  refine DAL.x rfl rfl rfl ?_
  refine qar (evs := [.agg (actC p a).toArray]) rfl rfl ((anamed_c p a H rH).wf_post.mono ?_)
  rintro _ H1 ⟨⟨q, rfl, rq, x1⟩, wf1, _⟩
  refine ⟨x1, ?_⟩
  have hg1 := x1.c _ _ hg
  have hx1 := hx.trans x1
  have r1 := r.ext hx1
  have cs := fun (h' : Heap) (hx : Ext H1 h') => sameAct_c q p (namedA a) a h' (rq.ext hx) (r1.ext hx)
  clear hg wfH rH x1 xh
  have hg := hg1
  clear hg1
  by_cases hs : namedA a = a
  ·
   rw [decide_eq_true hs] at cs
   repeat' (first | refine DAL.nil ?_ | refine DAL.r rfl rfl rfl (fun h' hx hn => qab rfl rfl (cs h' hx) ⟨rfl, rfl⟩) ?_ | refine DAL.r rfl rfl rfl (fun h' hx hn => qaL rfl ⟨rfl, rfl⟩) ?_ | refine DAL.r rfl rfl rfl (fun h' hx hn => qah (v := .bool _) rfl rfl ⟨rfl, rfl⟩) ?_)
   clear cs
   repeat (first | refine W.w ?_ | refine AWp.c9 rfl ?_ | refine zz rfl (qaZ rfl ?_) | refine zz rfl (qaN (kV [6, 7, 8]) rfl rfl rfl rfl (by intro u hu; obtain ⟨n, _, rfl⟩ := List.mem_map.1 hu; rfl) ?_))
   obtain ⟨H2, hQ, gr, xr, _, _⟩ := aq wf1 ⟨kV [6, 7, 8], 30, true⟩
   rw [hQ]
   have rr : RS H2 (.slice (some ⟨H1.next, 0, some 1⟩) 3 3) (kV [6, 7, 8]) := RS.own gr rfl
   have hg2 := xr.c _ _ hg
   have hx2 := hx1.trans xr
   have r2 := r.ext hx2
   clear hg hx1 r1 gr
   have hg := hg2
   clear hg2
   have cP := Kd.plan_c p.c a.cmd H2 r2.rc
   have cA := qhS p.q a.ask H2 r2.ra
   have cK := keepK_c p.k a.keep H2 r2.rk
   have cC := kinds_c _ a.cmd.kind H2 rr
   repeat' (first | refine W.w ?_ | refine AL.skip rfl rfl ?_ | (refine zz rfl ?_; first | refine qac rfl ?_ | refine qdD rfl ?_ | refine qae rfl ?_ | refine qaa rfl ?_ | refine qao rfl ?_ | refine qaf rfl rfl hg rfl ?_ | refine qaj (sz := 20) rfl rfl hg (Nat.le_of_ble_eq_true rfl) ?_ | refine qaj (sz := 7) rfl rfl hg (Nat.le_of_ble_eq_true rfl) ?_ | refine qaR rfl rfl cP (fun c => ?_) (fun c => ?_) | refine qaR rfl rfl cC (fun c => ?_) (fun c => ?_) | refine qaR rfl rfl cA (fun c => ?_) (fun c => ?_) | refine qaR rfl rfl cK (fun c => ?_) (fun c => ?_) | refine qaR rfl rfl (qcx _ _ _ H2) (fun c => ?_) (fun c => ?_) | refine qbU rfl rfl (by omega) ?_ | refine qam rfl rfl rfl (by omega) ?_ | refine qak rfl rfl rfl (by omega) ?_ | refine qaQ rfl rfl rfl (fun c => ?_) (fun c => ?_) | refine qah (v := .bool _) rfl rfl ?_))
   all_goals refine ⟨_, ResV.tmp rfl, rfl, hx2, congrArg Value.bool ?_, rfl⟩
   all_goals clear cP cA cK cC hx hx2 wf wf1 r r2 rq hg rr xr
   all_goals rw [qgV hn.1 hgr.1]
   all_goals first | (refine (decide_eq_true ?_).symm; unfold mayQ planOk; grind) | (refine (decide_eq_false ?_).symm; unfold mayQ planOk; grind)
  ·
   rw [decide_eq_false hs] at cs
   repeat' (first | refine DAL.nil ?_ | refine DAL.r rfl rfl rfl (fun h' hx hn => qab rfl rfl (cs h' hx) ⟨rfl, rfl⟩) ?_ | refine DAL.r rfl rfl rfl (fun h' hx hn => qaL rfl ⟨rfl, rfl⟩) ?_ | refine DAL.r rfl rfl rfl (fun h' hx hn => qah (v := .bool _) rfl rfl ⟨rfl, rfl⟩) ?_)
   repeat (first | refine W.w ?_ | refine AWp.c8 rfl ?_ | refine zz rfl (qaa rfl ?_))
   all_goals refine ⟨_, ResV.tmp rfl, rfl, hx1, congrArg Value.bool ?_, rfl⟩
   all_goals clear cs hx hx1 wf wf1 r r1 rq hg
   all_goals rw [qgV hn.1 hgr.1]
   all_goals first | (refine (decide_eq_true ?_).symm; unfold mayQ planOk; grind) | (refine (decide_eq_false ?_).symm; unfold mayQ planOk; grind)
 ·
  skip
  refine AWp.drawR mixed (by kernel_rfl) ?_
  repeat' (first | refine DAL.skip rfl rfl rfl ?_ | refine DAL.nil ?_ | refine DAL.r rfl rfl rfl (fun h' hx hn => qae rfl ⟨rfl, rfl⟩) ?_ | refine DAL.r rfl rfl rfl (fun h' hx hn => qao rfl ⟨rfl, rfl⟩) ?_ | refine DAL.r rfl rfl rfl (fun h' hx hn => qaf rfl rfl (hx.c _ _ hg) rfl ⟨rfl, rfl⟩) ?_ | refine DAL.r rfl rfl rfl (fun h' hx hn => qam rfl rfl rfl (by omega) ⟨rfl, rfl⟩) ?_ | refine DAL.rP rfl rfl rfl (fun h' hx hn => qaX rfl rfl rfl ⟨rfl, rfl⟩) (fun c => ?_) (fun c => ?_) | refine DAL.r rfl rfl rfl (fun h' hx hn => qah (v := .bool _) rfl rfl ⟨rfl, rfl⟩) ?_)
  repeat' (first | refine W.w ?_ | refine AWp.c8 rfl ?_ | refine zz rfl (qaa rfl ?_))
  all_goals refine ⟨_, ResV.tmp rfl, rfl, xh, congrArg Value.bool ?_, rfl⟩
  all_goals clear hx xh wf wfH r rH hg
  all_goals rw [qgV hn.1 hgr.1]
  all_goals first | (refine (decide_eq_true ?_).symm; unfold mayQ planOk; grind) | (refine (decide_eq_false ?_).symm; unfold mayQ planOk; grind)
theorem mayIn_c (x : SetM) (vg : Value) (p : ActV) (a : ActM) (h : Heap) (rg : RG h vg x.groups) (r : ActR h p a) : ACalls Tryz.prog 16 [.agg (setC vg x).toArray, .agg (actC p a).toArray] h fun u h' => u = .bool (mayIn x a) ∧ h' = h := by
 refine ACalls.wf fun wf => ACalls.reset ?_
 refine ACalls.body Tryz.func16 rfl rfl ?_
 repeat (first | refine W.w ?_ | refine zz rfl (qaa rfl ?_) | refine zz rfl (qaV rfl (by intro e; cases e) ?_))
 generalize hH1 : h.alloc _ = H0
 have hg0 : H0.get h.next = some ⟨setC vg x, 24, true⟩ := hH1 ▸ Heap.alloc_new _ _
 have hx0 : Ext h H0 := hH1 ▸ wf.ext _
 have wf0 : WF H0 := hH1 ▸ wf.alloc _
 skip
 generalize hH2 : H0.alloc _ = H
 have hg2 : H.get H0.next = some ⟨actC p a, 40, true⟩ := hH2 ▸ Heap.alloc_new _ _
 have hx1 : Ext H0 H := hH2 ▸ wf0.ext _
 have hg1 : H.get h.next = some ⟨setC vg x, 24, true⟩ := hx1.c _ _ hg0
 have hx : Ext h H := hx0.trans hx1
 clear hH1 hH2
 have cS := maySet_c x vg H (rg.ext hx)
 cases hs : maySet x with
 | false =>
  rw [hs] at cS
  repeat (first | refine W.w ?_ | refine AL.skip rfl rfl ?_ | (refine zz rfl ?_; first | refine qae rfl ?_ | refine qaa rfl ?_ | refine qaj (sz := 5) rfl rfl hg1 (Nat.le_refl _) ?_ | refine qab rfl rfl cS ?_ | refine qah (v := .bool _) rfl rfl ?_))
  exact ⟨_, ResV.tmp rfl, rfl, hx, by rw [mayIn, hs]; rfl, rfl⟩
 | true =>
  rw [hs] at cS
  obtain ⟨vs, g1, g2, _⟩ := rg.ext hx
  have hb := hs
  simp only [maySet, Bool.and_eq_true, sizesM, decide_eq_true_iff] at hb
  have cM := may_c p a x.nodes (vs.length : Nat) H (r.ext hx) (by omega) (by omega)
  rw [g2] at cM
  repeat (first | refine W.w ?_ | (refine zz rfl ?_; first | refine qae rfl ?_ | refine qaa rfl ?_ | refine qaj (sz := 5) rfl rfl hg1 (Nat.le_refl _) ?_ | refine qab rfl rfl cS ?_ | refine qaj (sz := 33) rfl rfl hg2 (Nat.le_refl _) ?_ | refine qao rfl ?_ | refine qaf rfl rfl hg1 rfl ?_ | refine qaS g1 rfl ?_ | refine qab (evs := [.agg (actC p a).toArray, .int .i64 x.nodes, .int .i64 (x.groups.length : Nat)]) rfl (by rw [← g2]; rfl) cM ?_ | refine qah (v := .bool _) rfl rfl ?_))
  exact ⟨_, ResV.tmp rfl, rfl, hx, by rw [mayIn, hs]; rfl, rfl⟩
end Go.Proofs.YtigmojilaadbhaaGreatDoor
