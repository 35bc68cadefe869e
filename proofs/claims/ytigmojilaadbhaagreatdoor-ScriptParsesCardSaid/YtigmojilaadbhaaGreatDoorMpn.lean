/-
  Texts of one claim, merged: 8 parts.
-/
import Derived.Test.YtigmojilaadbhaaGreatDoorMpg
import Derived.Test.YtigmojilaadbhaaGreatDoorMpl
import Derived.Test.YtigmojilaadbhaaGreatDoorMpj
import Derived.Test.YtigmojilaadbhaaGreatDoorMph
import Derived.Test.YtigmojilaadbhaaGreatDoorMpe
import Derived.Test.YtigmojilaadbhaaGreatDoorMpm
set_option maxHeartbeats 16000000
/- . -/
namespace Go.Pln
open Go Go.Lib
theorem qel {nodes : Int} : ∀ (k : Nat) (l : List Int) (p q n : Int), l[k]? = some n → (k = 0 → q = p) → (∀ j, k = j + 1 → l[j]? = some q) → riseM nodes p (l.take (k + 1)) = (riseM nodes p (l.take k) && decide (q < n ∧ n < nodes))
 | 0, m :: l, p, q, n, hn, h0, _ => by
  have e : m = n := by simpa using hn
  rw [e, h0 rfl]
  show (decide (p < n ∧ n < nodes) && true) = (true && _)
  simp
 | k + 1, m :: l, p, q, n, hn, _, h1 => by
  have a0 : k = 0 → q = m := fun e => by
   subst e
   have := h1 0 rfl
   simpa using this.symm
  have a1 : ∀ j, k = j + 1 → l[j]? = some q := fun j e => by
   have := h1 (j + 1) (by omega)
   simpa using this
  have ih := qel (nodes := nodes) k l m q n (by simpa using hn) a0 a1
  show (decide (p < m ∧ m < nodes) && riseM nodes m (l.take (k + 1))) = ((decide (p < m ∧ m < nodes) && riseM nodes m (l.take k)) && _)
  rw [ih, Bool.and_assoc]
theorem qiA {nodes : Int} : ∀ (k : Nat) (l : List Int) (p : Int), riseM nodes p l = true → riseM nodes p (l.take k) = true
 | 0, _, _, _ => rfl
 | _ + 1, [], _, _ => rfl
 | k + 1, m :: l, p, h => by
  unfold riseM at h
  rw [Ae] at h
  show (decide (p < m ∧ m < nodes) && riseM nodes m (l.take k)) = true
  rw [h.1, qiA k l m h.2]
  rfl
theorem qcw {nodes : Int} {k : Nat} {l : List Int} {p : Int} (h : riseM nodes p (l.take k) = false) : riseM nodes p l = false := by
 cases hr : riseM nodes p l with
 | false => rfl
 | true => rw [qiA k l p hr] at h; cases h
theorem qe6 {nodes : Int} {l : List Int} {n : Int} (hn : l[0]? = some n) : riseM nodes (-1) (l.take 1) = decide (0 ≤ n ∧ n < nodes) := by
 rw [qel 0 l (-1) (-1) n hn (fun _ => rfl) (fun j e => by omega)]
 show (true && _) = _
 rw [Cp]
 exact decide_eq_decide.2 ⟨fun ⟨h1, h2⟩ => ⟨by omega, h2⟩, fun ⟨h1, h2⟩ => ⟨by omega, h2⟩⟩
theorem qgL {nodes : Int} {k : Nat} {l : List Int} {q n : Int} (hg : riseM nodes (-1) (l.take (k + 1)) = true) (hq : l[k]? = some q) (hn : l[k + 1]? = some n) :
  riseM nodes (-1) (l.take (k + 2)) = decide ((0 ≤ n ∧ n < nodes) ∧ q < n) := by
 have h0 := qdv (by decide) hg q (Aw (i := k) (by rw [Bt (by omega)]; exact hq))
 have a1 : ∀ j, k + 1 = j + 1 → l[j]? = some q := fun j e => by
  obtain rfl : j = k := by omega
  exact hq
 rw [qel (k + 1) l (-1) q n hn (fun e => by omega) a1, hg, Cp]
 exact decide_eq_decide.2 ⟨fun ⟨h1, h2⟩ => ⟨⟨by omega, h2⟩, h1⟩, fun ⟨⟨h1, h2⟩, h3⟩ => ⟨h3, h2⟩⟩
end Go.Pln
/- . -/
namespace Go.Proofs.YtigmojilaadbhaaGreatDoor
open Go Go.Eng Go.Pln Go.Lib Go.Proofs.Tryz
attribute [local irreducible] AWp AL DAL AOp
abbrev iv64 (l : List Int) : List Value := l.map fun n => .int .i64 n
theorem qfN {l : List Int} {k : Nat} {n : Int} (hn : l[k]? = some n) {a : Int} (ha : a = (k : Nat)) : (iv64 l)[a.toNat]? = some (.int .i64 n) := by
 subst ha
 show (iv64 l)[k]? = _
 rw [Bm, hn]
 rfl
theorem qfq (nodes : Int) (v : Value) (l : List Int) (h : Heap) (r : RS h v (iv64 l)) (hn : 1 ≤ nodes ∧ nodes ≤ 5) (hl : l.length ≤ 140737488351232) : ACalls prog 73 [.int .i64 nodes, v] h fun u h' => u = .bool (mayGroup nodes l) ∧ h' = h := by
 refine aD func73 rfl rfl ?_
 have hlen : (iv64 l).length = l.length := by simp
 repeat (first | refine W.w ?_ | (refine zz rfl ?_; first | refine qac rfl ?_ | refine qaa rfl ?_ | refine qaz r rfl ?_ | refine qal (by conv => lhs; whnf) ?_))
 refine bB (α := Nat) (fun k => [(0, .int .i64 nodes), (1, v), (7, v), (8, .int .i64 ((iv64 l).length : Nat)), (9, .int .i64 (k : Nat))]) (fun _ => h) (fun k => k ≤ l.length ∧ riseM nodes (-1) (l.take k) = true) (fun k => l.length - k) 0 ⟨Ao _, rfl⟩ (aI (aA rfl (aA rfl (aA rfl (aA rfl (aA rfl aN)))))) ?_
 rintro k ⟨hk, hg⟩
 by_cases hlt : k < l.length
 ·
  obtain ⟨n, hn1⟩ := gX (l := l) (k := k) hlt
  have hx := qfN hn1 (a := (k : Nat)) rfl
  repeat (first | refine W.w ?_ | refine aE rfl ?_ | (refine zz rfl ?_; first | refine qac rfl ?_ | refine qak rfl rfl rfl (by rw [hlen]; omega) ?_ | refine qba r rfl rfl (by omega) hx ?_))
  intro p hp
  cases k with
  | zero =>
   have hf := qe6 (nodes := nodes) hn1
   by_cases c1 : 0 ≤ n ∧ n ≤ nodes - 1
   ·
    repeat (first | refine W.w ?_ | refine aK rfl rfl ?_ | refine aG rfl ?_ | (refine zz rfl ?_; first | refine qac rfl ?_ | refine qae rfl ?_ | refine qad rfl ?_ | refine qar hp rfl rfl ?_ | refine qab rfl rfl (qbq h c1) ?_ | refine qai rfl rfl rfl (by omega) ?_ | refine qag (v := .bool _) rfl rfl ?_ | refine qau rfl rfl (by omega) ?_ | refine qbC rfl rfl (by omega) ?_ | refine qaF rfl ?_))
    exact ⟨0 + 1, ⟨hlt, hf.trans (Al (by omega))⟩, by omega, aI (aA rfl (aA rfl (aA rfl (aA rfl (aA rfl aN)))))⟩
   ·
    repeat (first | refine W.w ?_ | refine aK rfl rfl ?_ | refine aE rfl ?_ | (refine zz rfl ?_; first | refine qac rfl ?_ | refine qae rfl ?_ | refine qad rfl ?_ | refine qaa rfl ?_ | refine qar hp rfl rfl ?_ | refine qab rfl rfl (qcc h c1) ?_ | refine qag (v := .bool _) rfl rfl ?_ | refine qbC rfl rfl (by omega) ?_ | refine qaF rfl ?_))
    refine ⟨_, aC rfl, ?_, rfl⟩
    rw [Pln.mayGroup, qcw (hf.trans (Af (by omega)))]
    rfl
  | succ k =>
   obtain ⟨q, hq⟩ := gX (l := l) (k := k) (by omega)
   have hf := qgL hg hq hn1
   have hx2 := qfN hq (a := ((k + 1 : Nat) : Int) - 1) (by omega)
   by_cases c1 : 0 ≤ n ∧ n ≤ nodes - 1
   ·
    by_cases c2 : q < n
    ·
     repeat (first | refine W.w ?_ | (refine zz rfl ?_; first | refine qac rfl ?_ | refine qae rfl ?_ | refine qad rfl ?_ | refine qar hp rfl rfl ?_ | refine qab rfl rfl (qbq h c1) ?_ | refine qak rfl rfl rfl (by omega) ?_ | refine qba r rfl rfl (by omega) hx2 ?_ | refine qbC rfl rfl (by omega) ?_ | refine qaF rfl ?_ | refine qal (by conv => lhs; whnf) ?_))
     intro p2 hp2
     repeat (first | refine W.w ?_ | refine aG rfl ?_ | (refine zz rfl ?_; first | refine qac rfl ?_ | refine qar hp2 rfl rfl ?_ | refine qai rfl rfl rfl (by omega) ?_ | refine qag (v := .bool _) rfl rfl ?_ | refine qau rfl rfl (by omega) ?_))
     exact ⟨k + 1 + 1, ⟨hlt, hf.trans (Al (by omega))⟩, by omega, aI (aA rfl (aA rfl (aA rfl (aA rfl (aA rfl aN)))))⟩
    ·
     repeat (first | refine W.w ?_ | (refine zz rfl ?_; first | refine qac rfl ?_ | refine qae rfl ?_ | refine qad rfl ?_ | refine qar hp rfl rfl ?_ | refine qab rfl rfl (qbq h c1) ?_ | refine qak rfl rfl rfl (by omega) ?_ | refine qba r rfl rfl (by omega) hx2 ?_ | refine qbC rfl rfl (by omega) ?_ | refine qaF rfl ?_ | refine qal (by conv => lhs; whnf) ?_))
     intro p2 hp2
     repeat (first | refine W.w ?_ | refine aE rfl ?_ | (refine zz rfl ?_; first | refine qac rfl ?_ | refine qaa rfl ?_ | refine qar hp2 rfl rfl ?_ | refine qak rfl rfl rfl (by omega) ?_ | refine qag (v := .bool _) rfl rfl ?_))
     refine ⟨_, aC rfl, ?_, rfl⟩
     rw [Pln.mayGroup, qcw (hf.trans (Af (by omega)))]
     rfl
   ·
    repeat (first | refine W.w ?_ | refine aK rfl rfl ?_ | refine aE rfl ?_ | (refine zz rfl ?_; first | refine qac rfl ?_ | refine qae rfl ?_ | refine qad rfl ?_ | refine qaa rfl ?_ | refine qar hp rfl rfl ?_ | refine qab rfl rfl (qcc h c1) ?_ | refine qag (v := .bool _) rfl rfl ?_ | refine qbC rfl rfl (by omega) ?_ | refine qaF rfl ?_))
    refine ⟨_, aC rfl, ?_, rfl⟩
    rw [Pln.mayGroup, qcw (hf.trans (Af (by omega)))]
    rfl
 ·
  obtain rfl : k = l.length := by omega
  rw [Au] at hg
  have cw := qcD ((iv64 l).length : Nat) 1 3 h
  repeat (first | refine aW ?_ | refine aR ?_ | refine aY ?_ | refine aG rfl ?_ | refine aM ?_ | refine aP ?_ | (refine zz rfl ?_; first | refine qaa rfl ?_ | refine qai rfl rfl rfl (by rw [hlen]; omega) ?_ | refine qaz r rfl ?_ | refine qab rfl rfl cw ?_ | refine qal (by conv => lhs; whnf) ?_))
  refine ⟨_, aC rfl, ?_, rfl⟩
  show Value.bool _ = _
  rw [Pln.mayGroup, hg, Cp, hlen]
  exact congrArg Value.bool (decide_eq_decide.2 ⟨fun e => by omega, fun e => by omega⟩)
theorem qcQ (x : SetM) (vg : Value) (v : Value) (l : List Int) (h : Heap) (r : RS h v (iv64 l)) (hl : l.length ≤ 140737488351232) : ACalls prog 77 [.agg (setC vg x).toArray, v] h fun u h' => u = .bool (mayGroup x.nodes l) ∧ h' = h := by
 refine aL fun wf => aO ?_
 refine aD func77 rfl rfl ?_
 have hlen : (iv64 l).length = l.length := by simp
 repeat (first | refine W.w ?_ | (refine zz rfl ?_; first | refine qad rfl ?_ | refine qaa rfl ?_ | refine qaS rfl (by intro e; cases e) ?_))
 generalize hH : h.alloc _ = H
 have hgt : H.get h.next = some ⟨setC vg x, 24, true⟩ := hH ▸ aB _ _
 have hx0 : Ext h H := hH ▸ wf.ext _
 replace r := r.ext hx0
 refine bB (α := Nat) (fun k => [(1, v), (2, ptr h.next), (5, .int .i64 (k : Nat))]) (fun _ => H) (fun k => k ≤ l.length ∧ k ≤ 4 ∧ riseM x.nodes (-1) (l.take k) = true) (fun k => l.length - k) 0 ⟨Ao _, Ao _, rfl⟩ (aI (aA rfl (aA rfl (aA rfl aN)))) ?_
 rintro k ⟨hk, hk4, hg⟩
 have fin : ∀ b : Bool, b = mayGroup x.nodes l → scalar (.bool b) = true ∧ Ext h H ∧ (Value.bool b = .bool (mayGroup x.nodes l) ∧ h = h) := fun b e => ⟨rfl, hx0, by rw [e], rfl⟩
 by_cases hlt : k < l.length
 ·
  by_cases hlt4 : k < 4
  ·
   obtain ⟨n, hn1⟩ := gX (l := l) (k := k) hlt
   have hu := qfN hn1 (a := (k : Nat)) rfl
   repeat (first | refine W.w ?_ | refine aE rfl ?_ | (refine zz rfl ?_; first | refine qac rfl ?_ | refine qae rfl ?_ | refine qaz r rfl ?_ | refine qak rfl rfl rfl (by rw [hlen]; omega) ?_ | refine qak rfl rfl rfl (by omega) ?_ | refine qag (v := .bool _) rfl rfl ?_ | refine qal (by conv => lhs; whnf) ?_))
   refine bJ (σ := [(0, .R), (1, .R), (2, .R), (3, .R), (4, .R), (5, .R), (6, .R), (7, .R), (8, .R), (9, .R), (10, .R), (11, .R), (12, .R), (13, .R), (14, .R), (15, .R), (16, .R), (17, .R), (18, .R), (19, .R), (20, .R), (21, .R), (22, .R), (23, .R), (24, .R), (25, .R), (26, .R), (27, .R), (28, .R), (29, .R)]) mixed (by kernel_rfl) ?_
   cases k with
   | zero =>
    have hf := qe6 (nodes := x.nodes) hn1
    by_cases c0 : n < 0
    ·
     repeat (first | refine dr rfl rfl (fun _ hx _ => qac rfl ⟨rfl, rfl⟩) ?_ | refine dr rfl rfl (fun _ hx _ => qae rfl ⟨rfl, rfl⟩) ?_ | refine dr rfl rfl (fun _ hx _ => qas (r.ext hx) rfl rfl (by omega) hu fun _ => ⟨rfl, rfl⟩) ?_ | refine dr rfl rfl (fun _ hx _ => qar (bL (r.ext hx) hu) rfl rfl ⟨rfl, rfl⟩) ?_ | refine dr rfl rfl (fun _ hx _ => qak rfl rfl rfl (by omega) ⟨rfl, rfl⟩) ?_ | refine dr rfl rfl (fun _ hx _ => qag (v := .bool _) rfl rfl ⟨rfl, rfl⟩) ?_ | refine dr rfl rfl (fun _ hx _ => qal (by conv => lhs; whnf) ⟨rfl, rfl⟩) ?_ | refine bX rfl rfl rfl ?_)
     refine aX ?_
     repeat (first | refine W.w ?_ | refine aE rfl ?_ | refine zz rfl (qaa rfl ?_))
     refine ⟨_, aC rfl, fin false ?_⟩
     rw [Pln.mayGroup, qcw (hf.trans (Af (by omega)))]
     rfl
    ·
     by_cases c1 : n < x.nodes
     ·
      repeat (first | refine dr rfl rfl (fun _ hx _ => qac rfl ⟨rfl, rfl⟩) ?_ | refine dr rfl rfl (fun _ hx _ => qae rfl ⟨rfl, rfl⟩) ?_ | refine dr rfl rfl (fun _ hx _ => qas (r.ext hx) rfl rfl (by omega) hu fun _ => ⟨rfl, rfl⟩) ?_ | refine dr rfl rfl (fun _ hx _ => qar (bL (r.ext hx) hu) rfl rfl ⟨rfl, rfl⟩) ?_ | refine dr rfl rfl (fun _ hx _ => qan rfl ⟨rfl, rfl⟩) ?_ | refine dr rfl rfl (fun _ hx _ => qaf rfl rfl (hx.c _ _ hgt) rfl ⟨rfl, rfl⟩) ?_ | refine dr rfl rfl (fun _ hx _ => qai rfl rfl rfl (by omega) ⟨rfl, rfl⟩) ?_ | refine dr rfl rfl (fun _ hx _ => qag (v := .bool _) rfl rfl ⟨rfl, rfl⟩) ?_ | refine dr rfl rfl (fun _ hx _ => qal (by conv => lhs; whnf) ⟨rfl, rfl⟩) ?_ | refine bX rfl rfl rfl ?_)
      refine aX ?_
      repeat (first | refine W.w ?_ | refine aG rfl ?_ | (refine zz rfl ?_; first | refine qac rfl ?_ | refine qad rfl ?_ | refine qau rfl rfl (by omega) ?_))
      exact ⟨0 + 1, ⟨hlt, by omega, hf.trans (Al (by omega))⟩, by omega, aI (aA rfl (aA rfl (aA rfl aN)))⟩
     ·
      repeat (first | refine dr rfl rfl (fun _ hx _ => qac rfl ⟨rfl, rfl⟩) ?_ | refine dr rfl rfl (fun _ hx _ => qae rfl ⟨rfl, rfl⟩) ?_ | refine dr rfl rfl (fun _ hx _ => qas (r.ext hx) rfl rfl (by omega) hu fun _ => ⟨rfl, rfl⟩) ?_ | refine dr rfl rfl (fun _ hx _ => qar (bL (r.ext hx) hu) rfl rfl ⟨rfl, rfl⟩) ?_ | refine dr rfl rfl (fun _ hx _ => qan rfl ⟨rfl, rfl⟩) ?_ | refine dr rfl rfl (fun _ hx _ => qaf rfl rfl (hx.c _ _ hgt) rfl ⟨rfl, rfl⟩) ?_ | refine dr rfl rfl (fun _ hx _ => qak rfl rfl rfl (by omega) ⟨rfl, rfl⟩) ?_ | refine dr rfl rfl (fun _ hx _ => qai rfl rfl rfl (by omega) ⟨rfl, rfl⟩) ?_ | refine dr rfl rfl (fun _ hx _ => qag (v := .bool _) rfl rfl ⟨rfl, rfl⟩) ?_ | refine dr rfl rfl (fun _ hx _ => qal (by conv => lhs; whnf) ⟨rfl, rfl⟩) ?_ | refine bX rfl rfl rfl ?_)
      refine aX ?_
      repeat (first | refine W.w ?_ | refine aE rfl ?_ | refine zz rfl (qaa rfl ?_))
      refine ⟨_, aC rfl, fin false ?_⟩
      rw [Pln.mayGroup, qcw (hf.trans (Af (by omega)))]
      rfl
   | succ k =>
    obtain ⟨q, hq⟩ := gX (l := l) (k := k) (by omega)
    have hf := qgL hg hq hn1
    have hq2 := qfN hq (a := ((k + 1 : Nat) : Int) - 1) (by omega)
    by_cases c0 : n < 0
    ·
     repeat (first | refine dr rfl rfl (fun _ hx _ => qac rfl ⟨rfl, rfl⟩) ?_ | refine dr rfl rfl (fun _ hx _ => qae rfl ⟨rfl, rfl⟩) ?_ | refine dr rfl rfl (fun _ hx _ => qas (r.ext hx) rfl rfl (by omega) hu fun _ => ⟨rfl, rfl⟩) ?_ | refine dr rfl rfl (fun _ hx _ => qar (bL (r.ext hx) hu) rfl rfl ⟨rfl, rfl⟩) ?_ | refine dr rfl rfl (fun _ hx _ => qak rfl rfl rfl (by omega) ⟨rfl, rfl⟩) ?_ | refine dr rfl rfl (fun _ hx _ => qag (v := .bool _) rfl rfl ⟨rfl, rfl⟩) ?_ | refine dr rfl rfl (fun _ hx _ => qal (by conv => lhs; whnf) ⟨rfl, rfl⟩) ?_ | refine bX rfl rfl rfl ?_)
     refine aX ?_
     repeat (first | refine W.w ?_ | refine aE rfl ?_ | refine zz rfl (qaa rfl ?_))
     refine ⟨_, aC rfl, fin false ?_⟩
     rw [Pln.mayGroup, qcw (hf.trans (Af (by omega)))]
     rfl
    ·
     by_cases c1 : n < x.nodes
     ·
      by_cases c2 : q < n
      ·
       repeat (first | refine dr rfl rfl (fun _ hx _ => qac rfl ⟨rfl, rfl⟩) ?_ | refine dr rfl rfl (fun _ hx _ => qae rfl ⟨rfl, rfl⟩) ?_ | refine dr rfl rfl (fun _ hx _ => qas (r.ext hx) rfl rfl (by omega) hu fun _ => ⟨rfl, rfl⟩) ?_ | refine dr rfl rfl (fun _ hx _ => qar (bL (r.ext hx) hu) rfl rfl ⟨rfl, rfl⟩) ?_ | refine dr rfl rfl (fun _ hx _ => qas (r.ext hx) rfl rfl (by omega) hq2 fun _ => ⟨rfl, rfl⟩) ?_ | refine dr rfl rfl (fun _ hx _ => qar (bL (r.ext hx) hq2) rfl rfl ⟨rfl, rfl⟩) ?_ | refine dr rfl rfl (fun _ hx _ => qan rfl ⟨rfl, rfl⟩) ?_ | refine dr rfl rfl (fun _ hx _ => qaf rfl rfl (hx.c _ _ hgt) rfl ⟨rfl, rfl⟩) ?_ | refine dr rfl rfl (fun _ hx _ => qak rfl rfl rfl (by omega) ⟨rfl, rfl⟩) ?_ | refine dr rfl rfl (fun _ hx _ => qai rfl rfl rfl (by omega) ⟨rfl, rfl⟩) ?_ | refine dr rfl rfl (fun _ hx _ => qag (v := .bool _) rfl rfl ⟨rfl, rfl⟩) ?_ | refine dr rfl rfl (fun _ hx _ => qbC rfl rfl (by omega) ⟨rfl, rfl⟩) ?_ | refine dr rfl rfl (fun _ hx _ => qal (by conv => lhs; whnf) ⟨rfl, rfl⟩) ?_)
       refine aX ?_
       repeat (first | refine W.w ?_ | refine aG rfl ?_ | (refine zz rfl ?_; first | refine qac rfl ?_ | refine qad rfl ?_ | refine qau rfl rfl (by omega) ?_))
       exact ⟨k + 1 + 1, ⟨hlt, by omega, hf.trans (Al (by omega))⟩, by omega, aI (aA rfl (aA rfl (aA rfl aN)))⟩
      ·
       repeat (first | refine dr rfl rfl (fun _ hx _ => qac rfl ⟨rfl, rfl⟩) ?_ | refine dr rfl rfl (fun _ hx _ => qae rfl ⟨rfl, rfl⟩) ?_ | refine dr rfl rfl (fun _ hx _ => qas (r.ext hx) rfl rfl (by omega) hu fun _ => ⟨rfl, rfl⟩) ?_ | refine dr rfl rfl (fun _ hx _ => qar (bL (r.ext hx) hu) rfl rfl ⟨rfl, rfl⟩) ?_ | refine dr rfl rfl (fun _ hx _ => qas (r.ext hx) rfl rfl (by omega) hq2 fun _ => ⟨rfl, rfl⟩) ?_ | refine dr rfl rfl (fun _ hx _ => qar (bL (r.ext hx) hq2) rfl rfl ⟨rfl, rfl⟩) ?_ | refine dr rfl rfl (fun _ hx _ => qan rfl ⟨rfl, rfl⟩) ?_ | refine dr rfl rfl (fun _ hx _ => qaf rfl rfl (hx.c _ _ hgt) rfl ⟨rfl, rfl⟩) ?_ | refine dr rfl rfl (fun _ hx _ => qak rfl rfl rfl (by omega) ⟨rfl, rfl⟩) ?_ | refine dr rfl rfl (fun _ hx _ => qai rfl rfl rfl (by omega) ⟨rfl, rfl⟩) ?_ | refine dr rfl rfl (fun _ hx _ => qag (v := .bool _) rfl rfl ⟨rfl, rfl⟩) ?_ | refine dr rfl rfl (fun _ hx _ => qbC rfl rfl (by omega) ⟨rfl, rfl⟩) ?_ | refine dr rfl rfl (fun _ hx _ => qal (by conv => lhs; whnf) ⟨rfl, rfl⟩) ?_)
       refine aX ?_
       repeat (first | refine W.w ?_ | refine aE rfl ?_ | refine zz rfl (qaa rfl ?_))
       refine ⟨_, aC rfl, fin false ?_⟩
       rw [Pln.mayGroup, qcw (hf.trans (Af (by omega)))]
       rfl
     ·
      repeat (first | refine dr rfl rfl (fun _ hx _ => qac rfl ⟨rfl, rfl⟩) ?_ | refine dr rfl rfl (fun _ hx _ => qae rfl ⟨rfl, rfl⟩) ?_ | refine dr rfl rfl (fun _ hx _ => qas (r.ext hx) rfl rfl (by omega) hu fun _ => ⟨rfl, rfl⟩) ?_ | refine dr rfl rfl (fun _ hx _ => qar (bL (r.ext hx) hu) rfl rfl ⟨rfl, rfl⟩) ?_ | refine dr rfl rfl (fun _ hx _ => qan rfl ⟨rfl, rfl⟩) ?_ | refine dr rfl rfl (fun _ hx _ => qaf rfl rfl (hx.c _ _ hgt) rfl ⟨rfl, rfl⟩) ?_ | refine dr rfl rfl (fun _ hx _ => qak rfl rfl rfl (by omega) ⟨rfl, rfl⟩) ?_ | refine dr rfl rfl (fun _ hx _ => qai rfl rfl rfl (by omega) ⟨rfl, rfl⟩) ?_ | refine dr rfl rfl (fun _ hx _ => qag (v := .bool _) rfl rfl ⟨rfl, rfl⟩) ?_ | refine dr rfl rfl (fun _ hx _ => qal (by conv => lhs; whnf) ⟨rfl, rfl⟩) ?_ | refine bX rfl rfl rfl ?_)
      refine aX ?_
      repeat (first | refine W.w ?_ | refine aE rfl ?_ | refine zz rfl (qaa rfl ?_))
      refine ⟨_, aC rfl, fin false ?_⟩
      rw [Pln.mayGroup, qcw (hf.trans (Af (by omega)))]
      rfl
  ·
   repeat (first | refine aW ?_ | refine aR ?_ | refine aY ?_ | refine aG rfl ?_ | refine aM ?_ | refine aP ?_ | refine zz rfl (qai rfl rfl rfl (by first | omega | (rw [hlen]; omega)) ?_) | (refine zz rfl ?_; first | refine qac rfl ?_ | refine qae rfl ?_ | refine qaa rfl ?_ | refine qaz r rfl ?_ | refine qak rfl rfl rfl (by rw [hlen]; omega) ?_ | refine qag (v := .bool _) rfl rfl ?_ | refine qal (by conv => lhs; whnf) ?_))
   refine ⟨_, aC rfl, fin false ?_⟩
   rw [Pln.mayGroup, Af (show ¬ (1 ≤ l.length ∧ l.length ≤ 3) by omega), Bool.and_false]
 ·
  obtain rfl : k = l.length := by omega
  rw [Au] at hg
  by_cases c1 : 1 ≤ l.length
  ·
   by_cases c2 : l.length ≤ 3
   ·
    repeat (first | refine aW ?_ | refine aK rfl rfl ?_ | refine aR ?_ | refine aY ?_ | refine aG rfl ?_ | refine aM ?_ | refine aP ?_ | (refine zz rfl ?_; first | refine qac rfl ?_ | refine qae rfl ?_ | refine qaa rfl ?_ | refine qaz r rfl ?_ | refine qai rfl rfl rfl (by rw [hlen]; omega) ?_ | refine qak rfl rfl rfl (by rw [hlen]; omega) ?_ | refine qag (v := .bool _) rfl rfl ?_ | refine qal (by conv => lhs; whnf) ?_))
    refine ⟨_, aC rfl, fin true ?_⟩
    rw [Pln.mayGroup, hg, Al ⟨c1, c2⟩]
    rfl
   ·
    repeat (first | refine aW ?_ | refine aK rfl rfl ?_ | refine aR ?_ | refine aY ?_ | refine aG rfl ?_ | refine aM ?_ | refine aP ?_ | (refine zz rfl ?_; first | refine qac rfl ?_ | refine qae rfl ?_ | refine qaa rfl ?_ | refine qaz r rfl ?_ | refine qai rfl rfl rfl (by rw [hlen]; omega) ?_ | refine qak rfl rfl rfl (by rw [hlen]; omega) ?_ | refine qag (v := .bool _) rfl rfl ?_ | refine qal (by conv => lhs; whnf) ?_))
    refine ⟨_, aC rfl, fin false ?_⟩
    rw [Pln.mayGroup, hg, Af fun e => c2 e.2]
    rfl
  ·
   repeat (first | refine aW ?_ | refine aK rfl rfl ?_ | refine aR ?_ | refine aY ?_ | refine aG rfl ?_ | refine aM ?_ | refine aP ?_ | (refine zz rfl ?_; first | refine qac rfl ?_ | refine qae rfl ?_ | refine qaa rfl ?_ | refine qaz r rfl ?_ | refine qai rfl rfl rfl (by rw [hlen]; omega) ?_ | refine qag (v := .bool _) rfl rfl ?_ | refine qal (by conv => lhs; whnf) ?_))
   refine ⟨_, aC rfl, fin false ?_⟩
   rw [Pln.mayGroup, hg, Af fun e => c1 e.1]
   rfl
theorem qfG (x : SetM) (vg : Value) (h : Heap) : ACalls prog 78 [.agg (setC vg x).toArray] h fun u h' => u = .bool (sizesM x) ∧ h' = h := by
 refine aL fun wf => aO ?_
 refine aD func78 rfl rfl ?_
 repeat (first | refine W.w ?_ | refine zz rfl (qaa rfl ?_) | refine zz rfl (qaS rfl (by intro e; cases e) ?_))
 generalize hH : h.alloc _ = H
 have hg : H.get h.next = some ⟨setC vg x, 24, true⟩ := hH ▸ aB _ _
 have hx : Ext h H := hH ▸ wf.ext _
 by_cases c0 : 1 ≤ x.nodes
 ·
  by_cases c1 : x.nodes ≤ 5
  ·
   by_cases c2 : 1024 ≤ x.disk
   ·
    by_cases c3 : x.disk ≤ 1048576
    ·
     by_cases c4 : 64 ≤ x.memory
     ·
      by_cases c5 : x.memory ≤ 4096
      ·
       by_cases c6 : 256 ≤ x.level
       ·
        by_cases c7 : x.level ≤ 65536
        ·
         repeat (first | refine W.w ?_ | (refine zz rfl ?_; first | refine qae rfl ?_ | refine qaa rfl ?_ | refine qan rfl ?_ | refine qaf rfl rfl hg rfl ?_ | refine qak rfl rfl rfl (by omega) ?_ | refine qag (v := .bool _) rfl rfl ?_))
         exact ⟨_, aC rfl, rfl, hx, by rw [sizesM, Al (by omega)]; rfl, rfl⟩
        ·
         repeat (first | refine W.w ?_ | (refine zz rfl ?_; first | refine qae rfl ?_ | refine qaa rfl ?_ | refine qan rfl ?_ | refine qaf rfl rfl hg rfl ?_ | refine qak rfl rfl rfl (by omega) ?_ | refine qai rfl rfl rfl (by omega) ?_ | refine qag (v := .bool _) rfl rfl ?_))
         exact ⟨_, aC rfl, rfl, hx, by rw [sizesM, Af (by omega)]; rfl, rfl⟩
       ·
        repeat (first | refine W.w ?_ | refine aK rfl rfl ?_ | (refine zz rfl ?_; first | refine qae rfl ?_ | refine qaa rfl ?_ | refine qan rfl ?_ | refine qaf rfl rfl hg rfl ?_ | refine qak rfl rfl rfl (by omega) ?_ | refine qai rfl rfl rfl (by omega) ?_ | refine qag (v := .bool _) rfl rfl ?_))
        exact ⟨_, aC rfl, rfl, hx, by rw [sizesM, Af (by omega)]; rfl, rfl⟩
      ·
       repeat (first | refine W.w ?_ | refine aK rfl rfl ?_ | (refine zz rfl ?_; first | refine qae rfl ?_ | refine qaa rfl ?_ | refine qan rfl ?_ | refine qaf rfl rfl hg rfl ?_ | refine qak rfl rfl rfl (by omega) ?_ | refine qai rfl rfl rfl (by omega) ?_ | refine qag (v := .bool _) rfl rfl ?_))
       exact ⟨_, aC rfl, rfl, hx, by rw [sizesM, Af (by omega)]; rfl, rfl⟩
     ·
      repeat (first | refine W.w ?_ | refine aK rfl rfl ?_ | (refine zz rfl ?_; first | refine qae rfl ?_ | refine qaa rfl ?_ | refine qan rfl ?_ | refine qaf rfl rfl hg rfl ?_ | refine qak rfl rfl rfl (by omega) ?_ | refine qai rfl rfl rfl (by omega) ?_ | refine qag (v := .bool _) rfl rfl ?_))
      exact ⟨_, aC rfl, rfl, hx, by rw [sizesM, Af (by omega)]; rfl, rfl⟩
    ·
     repeat (first | refine W.w ?_ | refine aK rfl rfl ?_ | (refine zz rfl ?_; first | refine qae rfl ?_ | refine qaa rfl ?_ | refine qan rfl ?_ | refine qaf rfl rfl hg rfl ?_ | refine qak rfl rfl rfl (by omega) ?_ | refine qai rfl rfl rfl (by omega) ?_ | refine qag (v := .bool _) rfl rfl ?_))
     exact ⟨_, aC rfl, rfl, hx, by rw [sizesM, Af (by omega)]; rfl, rfl⟩
   ·
    repeat (first | refine W.w ?_ | refine aK rfl rfl ?_ | (refine zz rfl ?_; first | refine qae rfl ?_ | refine qaa rfl ?_ | refine qan rfl ?_ | refine qaf rfl rfl hg rfl ?_ | refine qak rfl rfl rfl (by omega) ?_ | refine qai rfl rfl rfl (by omega) ?_ | refine qag (v := .bool _) rfl rfl ?_))
    exact ⟨_, aC rfl, rfl, hx, by rw [sizesM, Af (by omega)]; rfl, rfl⟩
  ·
   repeat (first | refine W.w ?_ | refine aK rfl rfl ?_ | (refine zz rfl ?_; first | refine qae rfl ?_ | refine qaa rfl ?_ | refine qan rfl ?_ | refine qaf rfl rfl hg rfl ?_ | refine qak rfl rfl rfl (by omega) ?_ | refine qai rfl rfl rfl (by omega) ?_ | refine qag (v := .bool _) rfl rfl ?_))
   exact ⟨_, aC rfl, rfl, hx, by rw [sizesM, Af (by omega)]; rfl, rfl⟩
 ·
  repeat (first | refine W.w ?_ | refine aK rfl rfl ?_ | (refine zz rfl ?_; first | refine qae rfl ?_ | refine qaa rfl ?_ | refine qan rfl ?_ | refine qaf rfl rfl hg rfl ?_ | refine qai rfl rfl rfl (by omega) ?_ | refine qag (v := .bool _) rfl rfl ?_))
  exact ⟨_, aC rfl, rfl, hx, by rw [sizesM, Af (by omega)]; rfl, rfl⟩
instance qdm : FnC prog 72 := ⟨Tryz.f72, func72, by kernel_rfl, by kernel_rfl⟩
instance qcd : FnC prog 76 := ⟨Tryz.f76, func76, by kernel_rfl, by kernel_rfl⟩
instance qcm : FnC prog 114 := ⟨Tryz.f114, func114, by kernel_rfl, by kernel_rfl⟩
instance qcP : FnC prog 77 := ⟨Tryz.f77, func77, by kernel_rfl, by kernel_rfl⟩
def RG (h : Heap) (vg : Value) (gs : List (List Int)) : Prop :=
 ∃ vs, RS h vg vs ∧ vs.length = gs.length ∧ gs.length ≤ 140737488351232 ∧ ∀ (k : Nat) v g, vs[k]? = some v → gs[k]? = some g → RS h v (iv64 g) ∧ g.length ≤ 140737488351232
theorem RG.ext {h h' : Heap} {vg : Value} {gs : List (List Int)} (r : RG h vg gs) (hx : Ext h h') : RG h' vg gs := by
 obtain ⟨vs, h1, h2, h3, h4⟩ := r
 exact ⟨vs, h1.ext hx, h2, h3, fun k v g hv hg => ⟨(h4 k v g hv hg).1.ext hx, (h4 k v g hv hg).2⟩⟩
theorem bad_c (b : Nat) (vg : Value) (x : SetM) (v : Value) (l : List Int) (h : Heap) (hb : h.get b = some ⟨setC vg x, 24, true⟩) (hn : 1 ≤ x.nodes ∧ x.nodes ≤ 5) (r : RS h v (iv64 l)) (hl : l.length ≤ 140737488351232) :
  ACalls prog 72 [v, ptr b] h fun u h' => u = .bool (!mayGroup x.nodes l) ∧ h' = h := by
 refine aD func72 rfl rfl ?_
 repeat (first | refine W.w ?_ | (refine zz rfl ?_; first | refine qaa rfl ?_ | refine qan rfl ?_ | refine qaf rfl rfl hb rfl ?_ | refine qab rfl rfl (qfq x.nodes v l h r hn hl) ?_ | refine qaF rfl ?_ | refine qal (by conv => lhs; whnf) ?_))
 exact ⟨_, aC rfl, rfl, rfl⟩
abbrev badV (b : Nat) : Value := .func (.func 72) #[] #[ptr b]
theorem qc5 {α : Type} {p : α → Bool} {l : List α} {k : Nat} {x : α} (hx : l[k]? = some x) : (l.take (k + 1)).all p = ((l.take k).all p && p x) := by
 rw [Bf, hx, Dn]
 simp
theorem qey {α : Type} {p : α → Bool} {l : List α} {k : Nat} {x : α} (hx : l[k]? = some x) (hp : p x = false) : l.all p = false := by
 cases ha : l.all p with
 | false => rfl
 | true =>
  have := Ai.1 ha x (Aw hx)
  rw [hp] at this
  cases this
theorem index_f (b : Nat) (vg : Value) (x : SetM) (gs : List (List Int)) (h : Heap) (hb : h.get b = some ⟨setC vg x, 24, true⟩) (hn : 1 ≤ x.nodes ∧ x.nodes ≤ 5) (r : RG h vg gs) :
  ACalls prog 114 [vg, badV b] h fun u h' => ∃ z : Int, u = .int .i64 z ∧ decide (0 ≤ z) = !gs.all (mayGroup x.nodes) ∧ h' = h := by
 refine aD func114 rfl rfl ?_
 obtain ⟨vs, r1, r2, r3, r4⟩ := r
 repeat (first | refine W.w ?_ | (refine zz rfl ?_; first | refine qac rfl ?_ | refine qad rfl ?_ | refine qaz r1 rfl ?_ | refine qal (by conv => lhs; whnf) ?_))
 refine bB (α := Nat) (fun k => [(0, vg), (1, badV b), (7, .int .i64 (vs.length : Nat)), (8, .int .i64 (k : Nat))]) (fun _ => h) (fun k => k ≤ gs.length ∧ (gs.take k).all (mayGroup x.nodes) = true) (fun k => gs.length - k) 0 ⟨Ao _, rfl⟩ (aI (aA rfl (aA rfl (aA rfl (aA rfl aN))))) ?_
 rintro k ⟨hk, ha⟩
 by_cases hlt : k < gs.length
 ·
  obtain ⟨g, hg⟩ := gX (l := gs) (k := k) hlt
  obtain ⟨v, hv⟩ := gX (l := vs) (k := k) (by omega)
  obtain ⟨q1, q2⟩ := r4 k v g hv hg
  have hst := qc5 (p := mayGroup x.nodes) hg
  rw [ha, Cp] at hst
  have cb := bad_c b vg x v g h hb hn q1 q2
  repeat (first | refine W.w ?_ | refine aE rfl ?_ | (refine zz rfl ?_; first | refine qac rfl ?_ | refine qbl rfl ?_ | refine qad rfl ?_ | refine qak rfl rfl rfl (by omega) ?_ | refine qba r1 rfl rfl (by omega) (show vs[((k : Nat) : Int).toNat]? = some v from hv) ?_ | refine qal (by conv => lhs; whnf) ?_))
  intro p hp
  cases hm : mayGroup x.nodes g with
  | true =>
   rw [hm] at cb hst
   repeat (first | refine W.w ?_ | refine aG rfl ?_ | (refine zz rfl ?_; first | refine qac rfl ?_ | refine qar hp rfl rfl ?_ | refine qab rfl rfl cb ?_ | refine qau rfl rfl (by omega) ?_))
   exact ⟨k + 1, ⟨hlt, hst⟩, by omega, aI (aA rfl (aA rfl (aA rfl (aA rfl aN))))⟩
  | false =>
   rw [hm] at cb
   repeat (first | refine W.w ?_ | refine aE rfl ?_ | (refine zz rfl ?_; first | refine qac rfl ?_ | refine qad rfl ?_ | refine qar hp rfl rfl ?_ | refine qab rfl rfl cb ?_))
   refine ⟨_, aC rfl, (k : Nat), rfl, ?_, rfl⟩
   rw [qey hg hm]
   exact Al (by omega)
 ·
  obtain rfl : k = gs.length := by omega
  rw [Au] at ha
  repeat (first | refine aW ?_ | refine aR ?_ | refine aY ?_ | refine aG rfl ?_ | refine aM ?_ | refine aP ?_ | refine zz rfl (qad rfl ?_) | refine zz rfl (qai rfl rfl rfl (by omega) ?_))
  refine ⟨_, aC rfl, -1, rfl, ?_, rfl⟩
  rw [ha]
  rfl
theorem contains_f (b : Nat) (vg : Value) (x : SetM) (gs : List (List Int)) (h : Heap) (hb : h.get b = some ⟨setC vg x, 24, true⟩) (hn : 1 ≤ x.nodes ∧ x.nodes ≤ 5) (r : RG h vg gs) :
  ACalls prog 76 [vg, badV b] h fun u h' => u = .bool (!gs.all (mayGroup x.nodes)) ∧ h' = h := by
 refine aD func76 rfl rfl ?_
 repeat (first | refine W.w ?_ | (refine zz rfl ?_; first | refine qbl rfl ?_ | refine qaa rfl ?_ | refine qal (by conv => lhs; whnf) ?_))
 refine zz rfl (qat rfl rfl ((index_f b vg x gs h hb hn r).mono ?_))
 rintro _ H1 ⟨z, rfl, hz, hH1⟩
 cases hH1.symm
 by_cases h0 : 0 ≤ z
 ·
  repeat (first | refine W.w ?_ | refine zz rfl (qaa rfl ?_) | refine zz rfl (qak rfl rfl rfl (by omega) ?_))
  exact ⟨_, aC rfl, by rw [← hz, Al h0]; rfl, rfl⟩
 ·
  repeat (first | refine W.w ?_ | refine zz rfl (qaa rfl ?_) | refine zz rfl (qai rfl rfl rfl (by omega) ?_))
  exact ⟨_, aC rfl, by rw [← hz, Af h0]; rfl, rfl⟩
instance qdL : FnC prog 31 := ⟨Tryz.f31, func31, by kernel_rfl, by kernel_rfl⟩
theorem maySet_c (x : SetM) (vg : Value) (h : Heap) (r : RG h vg x.groups) : ACalls prog 31 [.agg (setC vg x).toArray] h fun u h' => u = .bool (maySet x) ∧ h' = h := by
 refine aL fun wf => aO ?_
 refine aD func31 rfl rfl ?_
 repeat (first | refine W.w ?_ | refine zz rfl (qaa rfl ?_) | refine zz rfl (qaS rfl (by intro e; cases e) ?_))
 generalize hH : h.alloc _ = H
 have hg : H.get h.next = some ⟨setC vg x, 24, true⟩ := hH ▸ aB _ _
 have hx : Ext h H := hH ▸ wf.ext _
 have rH := r.ext hx
 obtain ⟨vs, r1, r2, r3, _⟩ := rH
 have hv : vg ≠ undef := (cV r1).2
 have cs := sizes_c x vg hv H
 have cw := qcD (vs.length : Nat) 2 5 H
 cases hs : sizesM x with
 | false =>
  rw [hs] at cs
  repeat (first | refine W.w ?_ | refine aK rfl rfl ?_ | (refine zz rfl ?_; first | refine qae rfl ?_ | refine qaa rfl ?_ | refine qbj rfl ?_ | refine qa2 rfl rfl ?_ | refine qam (sz := 5) rfl rfl hg (Aa _) ?_ | refine qab rfl rfl cs ?_ | refine qag (v := .bool _) rfl rfl ?_))
  exact ⟨_, aC rfl, rfl, hx, by rw [maySet, hs]; rfl, rfl⟩
 | true =>
  rw [hs] at cs
  have hn : 1 ≤ x.nodes ∧ x.nodes ≤ 5 := by
   have := of_decide_eq_true hs
   omega
  have cc := contains_f h.next vg x x.groups H hg hn (r.ext hx)
  by_cases h1 : 2 ≤ x.groups.length ∧ x.groups.length ≤ 5
  ·
   rw [Al (show (2 : Int) ≤ (vs.length : Nat) ∧ ((vs.length : Nat) : Int) ≤ 5 by omega)] at cw
   cases ha : x.groups.all (mayGroup x.nodes) with
   | true =>
    rw [ha] at cc
    repeat (first | refine W.w ?_ | (refine zz rfl ?_; first | refine qae rfl ?_ | refine qbl rfl ?_ | refine qaa rfl ?_ | refine qbj rfl ?_ | refine qa2 rfl rfl ?_ | refine qam (sz := 5) rfl rfl hg (Aa _) ?_ | refine qab rfl rfl cs ?_ | refine qan rfl ?_ | refine qaf rfl rfl hg rfl ?_ | refine qaz r1 rfl ?_ | refine qab rfl rfl cw ?_ | refine qab rfl rfl cc ?_ | refine qag (v := .bool _) rfl rfl ?_ | refine qaF rfl ?_))
    exact ⟨_, aC rfl, rfl, hx, by rw [maySet, hs, ha, Al h1]; rfl, rfl⟩
   | false =>
    rw [ha] at cc
    repeat (first | refine W.w ?_ | (refine zz rfl ?_; first | refine qae rfl ?_ | refine qbl rfl ?_ | refine qaa rfl ?_ | refine qbj rfl ?_ | refine qa2 rfl rfl ?_ | refine qam (sz := 5) rfl rfl hg (Aa _) ?_ | refine qab rfl rfl cs ?_ | refine qan rfl ?_ | refine qaf rfl rfl hg rfl ?_ | refine qaz r1 rfl ?_ | refine qab rfl rfl cw ?_ | refine qab rfl rfl cc ?_ | refine qag (v := .bool _) rfl rfl ?_ | refine qaF rfl ?_))
    exact ⟨_, aC rfl, rfl, hx, by rw [maySet, hs, ha, Al h1]; rfl, rfl⟩
  ·
   rw [Af (show ¬ ((2 : Int) ≤ (vs.length : Nat) ∧ ((vs.length : Nat) : Int) ≤ 5) by omega)] at cw
   repeat (first | refine W.w ?_ | refine aK rfl rfl ?_ | (refine zz rfl ?_; first | refine qae rfl ?_ | refine qaa rfl ?_ | refine qbj rfl ?_ | refine qa2 rfl rfl ?_ | refine qam (sz := 5) rfl rfl hg (Aa _) ?_ | refine qab rfl rfl cs ?_ | refine qan rfl ?_ | refine qaf rfl rfl hg rfl ?_ | refine qaz r1 rfl ?_ | refine qab rfl rfl cw ?_ | refine qag (v := .bool _) rfl rfl ?_))
   exact ⟨_, aC rfl, rfl, hx, by rw [maySet, hs, Af h1]; rfl, rfl⟩
instance i_mayName1 : FnC prog 153 := ⟨Tryz.f153, func153, by kernel_rfl, by kernel_rfl⟩
instance i_indexB : FnC prog 172 := ⟨Tryz.f172, func172, by kernel_rfl, by kernel_rfl⟩
instance i_containsB : FnC prog 154 := ⟨Tryz.f154, func154, by kernel_rfl, by kernel_rfl⟩
instance i_mayName : FnC prog 120 := ⟨Tryz.f120, func120, by kernel_rfl, by kernel_rfl⟩
abbrev nameC (c : UInt8) : Bool := decide (33 ≤ c.toNat ∧ c.toNat ≤ 126)
theorem badC_c (c : UInt8) (h : Heap) : ACalls prog 153 [.int .u8 (c.toNat : Int)] h fun u h' => u = .bool (!nameC c) ∧ h' = h := by
 refine aD func153 rfl rfl ?_
 repeat' (first | refine W.w ?_ | refine aK rfl rfl ?_ | (refine zz rfl ?_; first | refine qac rfl ?_ | refine qae rfl ?_ | refine qaa rfl ?_ | refine qaT rfl rfl rfl (fun c => ?_) (fun c => ?_) | refine qag (v := .bool _) rfl rfl ?_))
 all_goals refine ⟨_, aC rfl, congrArg Value.bool ?_, rfl⟩
 all_goals grind
abbrev badCV : Value := .func (.func 153) #[] #[]
theorem qb4 {l : Bytes} {k : Nat} {c : UInt8} (hc : l[k]? = some c) {a : Int} (ha : a = (k : Nat)) : (bv l)[a.toNat]? = some (.int .u8 (c.toNat : Int)) := by
 subst ha
 exact qgJ l k c hc
theorem indexB_c (v : Value) (l : Bytes) (h : Heap) (r : RB h v l) (hl : l.length ≤ 140737488351232) : ACalls prog 172 [v, badCV] h fun u h' => ∃ z : Int, u = .int .i64 z ∧ decide (0 ≤ z) = !l.all nameC ∧ h' = h := by
 refine aD func172 rfl rfl ?_
 obtain ⟨va, vc, hv⟩ := bC r
 repeat (first | refine W.w ?_ | (refine zz rfl ?_; first | refine qac rfl ?_ | refine qad rfl ?_ | refine qaJ r rfl ?_ | refine qal (by conv => lhs; whnf) ?_))
 refine bB (α := Nat) (fun k => [(0, v), (1, badCV), (7, .int .i64 (l.length : Nat)), (8, .int .i64 (k : Nat))]) (fun _ => h) (fun k => k ≤ l.length ∧ (l.take k).all nameC = true) (fun k => l.length - k) 0 ⟨Ao _, rfl⟩ (aI (aA rfl (aA rfl (aA rfl (aA rfl aN))))) ?_
 rintro k ⟨hk, ha⟩
 by_cases hlt : k < l.length
 ·
  obtain ⟨c, hc⟩ := gX (l := l) (k := k) hlt
  have hst := qc5 (p := nameC) hc
  rw [ha, Cp] at hst
  have cb := badC_c c h
  repeat (first | refine W.w ?_ | refine aE rfl ?_ | (refine zz rfl ?_; first | refine qac rfl ?_ | refine qbl rfl ?_ | refine qad rfl ?_ | refine qak rfl rfl rfl (by omega) ?_ | refine qal (v := v) rfl ?_ | refine qba r rfl rfl (by omega) (qb4 hc rfl) ?_))
  intro p hp
  cases hm : nameC c with
  | true =>
   rw [hm] at cb hst
   repeat (first | refine W.w ?_ | refine aG rfl ?_ | (refine zz rfl ?_; first | refine qac rfl ?_ | refine qar hp rfl rfl ?_ | refine qab rfl rfl cb ?_ | refine qau rfl rfl (by omega) ?_))
   exact ⟨k + 1, ⟨hlt, hst⟩, by omega, aI (aA rfl (aA rfl (aA rfl (aA rfl aN))))⟩
  | false =>
   rw [hm] at cb
   repeat (first | refine W.w ?_ | refine aE rfl ?_ | (refine zz rfl ?_; first | refine qac rfl ?_ | refine qad rfl ?_ | refine qar hp rfl rfl ?_ | refine qab rfl rfl cb ?_))
   refine ⟨_, aC rfl, (k : Nat), rfl, ?_, rfl⟩
   rw [qey hc hm]
   exact Al (by omega)
 ·
  obtain rfl : k = l.length := by omega
  rw [Au] at ha
  repeat (first | refine aW ?_ | refine aR ?_ | refine aY ?_ | refine aG rfl ?_ | refine aM ?_ | refine aP ?_ | refine zz rfl (qad rfl ?_) | refine zz rfl (qai rfl rfl rfl (by omega) ?_))
  refine ⟨_, aC rfl, -1, rfl, ?_, rfl⟩
  rw [ha]
  rfl
theorem qht (v : Value) (l : Bytes) (h : Heap) (r : RB h v l) (hl : l.length ≤ 140737488351232) : ACalls prog 154 [v, badCV] h fun u h' => u = .bool (!l.all nameC) ∧ h' = h := by
 refine aD func154 rfl rfl ?_
 repeat (first | refine W.w ?_ | (refine zz rfl ?_; first | refine qbl rfl ?_ | refine qaa rfl ?_ | refine qal (v := v) rfl ?_))
 refine zz rfl (qat rfl rfl ((indexB_c v l h r hl).mono ?_))
 rintro _ H1 ⟨z, rfl, hz, hH1⟩
 cases hH1.symm
 by_cases h0 : 0 ≤ z
 ·
  repeat' (first | refine W.w ?_ | refine zz rfl (qaa rfl ?_) | refine zz rfl (qak rfl rfl rfl (by omega) ?_))
  exact ⟨_, aC rfl, by rw [← hz, Al h0]; rfl, rfl⟩
 ·
  repeat' (first | refine W.w ?_ | refine zz rfl (qaa rfl ?_) | refine zz rfl (qai rfl rfl rfl (by omega) ?_))
  exact ⟨_, aC rfl, by rw [← hz, Af h0]; rfl, rfl⟩
theorem mayName_c (s : Bytes) (h : Heap) : ACalls prog 120 [str s] h fun u h' => u = .bool (nameOk s) ∧ h' = h := by
 refine aL fun wf => aO ?_
 refine aD func120 rfl rfl ?_
 by_cases hl : 1 ≤ s.length ∧ s.length ≤ 32
 ·
  have gp := aB h ⟨bv s, 5, true⟩
  have xp := wf.ext ⟨bv s, 5, true⟩
  have rb : RB (h.alloc ⟨bv s, 5, true⟩) (.slice (some ⟨h.next, 0, some 1⟩) s.length (s.length + 1)) s := bK gp (qaE s)
  have cc := qht _ s _ rb (by omega)
  repeat (first | refine W.w ?_ | (refine zz rfl ?_; first | refine qae rfl ?_ | refine qaj rfl ?_ | refine qbl rfl ?_ | refine qaa rfl ?_ | refine qbj rfl ?_ | refine qaG rfl ?_ | refine qab rfl rfl (qbq h (n := (s.length : Nat)) (by omega)) ?_ | refine qiu rfl (by simp only [maxLen]; omega) ?_ | refine qab rfl rfl cc ?_ | refine qag (v := .bool _) rfl rfl ?_ | refine qaF rfl ?_))
  refine ⟨_, aC rfl, rfl, xp, congrArg Value.bool ?_, rfl⟩
  rw [nameOk, Al hl]
  cases s.all nameC <;> rfl
 ·
  repeat (first | refine W.w ?_ | refine aK rfl rfl ?_ | (refine zz rfl ?_; first | refine qae rfl ?_ | refine qaj rfl ?_ | refine qaa rfl ?_ | refine qbj rfl ?_ | refine qaG rfl ?_ | refine qab rfl rfl (qcc h (n := (s.length : Nat)) (by omega)) ?_ | refine qag (v := .bool _) rfl rfl ?_))
  refine ⟨_, aC rfl, rfl, aU h, ?_, rfl⟩
  rw [nameOk, Af hl]
  rfl
instance i_mayKeep : FnC prog 90 := ⟨Tryz.f90, func90, by kernel_rfl, by kernel_rfl⟩
instance qdi : TyD prog 179 (.map 9 180) := ⟨underlying179⟩
instance qgf : TyD prog 180 (.struct #[fd "is" 4 0 "hectare/script" 0]) := ⟨underlying180⟩
instance qgK : TyI prog 180 1 1 (.agg #[.bool false]) := ⟨qaV (by kernel_rfl), rfl, rfl⟩
instance qgd : StD prog 180 [(0, 1)] := ⟨_, underlying180, by kernel_rfl⟩
def KAt (p : List (Bytes × Int)) (x : Bytes × Int) : Prop := nameOk x.1 = true ∧ (0 ≤ x.2 ∧ x.2 ≤ 2147483647) ∧ ∀ y ∈ p, y.1 ≠ x.1
theorem qfu : ∀ (l : List (Bytes × Int)) (x : Bytes × Int), keepOk (l ++ [x]) = true ↔ keepOk l = true ∧ KAt l x
 | [], x => by
  simp only [Ct, keepOk, List.any_nil, KAt, Ae, Aq]
  simp
 | y :: l, x => by
  have ih := qfu l x
  simp only [Bw, keepOk, Ae, ih, List.any_append, Aq, KAt, Ak]
  simp only [List.any_cons, List.any_nil, Bool.or_false, Bool.not_eq_true', Bool.or_eq_false_iff, beq_eq_false_iff_ne]
  constructor
  ·
   rintro ⟨⟨⟨h1, h2⟩, h3, h4⟩, h5, h6, h7, h8⟩
   refine ⟨⟨⟨⟨h1, h2⟩, h3⟩, h5⟩, h6, h7, ?_⟩
   rintro z (rfl | hz)
   ·
    exact fun e => h4 e.symm
   ·
    exact h8 z hz
  ·
   rintro ⟨⟨⟨⟨h1, h2⟩, h3⟩, h5⟩, h6, h7, h8⟩
   exact ⟨⟨⟨h1, h2⟩, h3, fun e => h8 y (.inl rfl) e.symm⟩, h5, h6, h7, fun z hz => h8 z (.inr hz)⟩
theorem qem {l : List (Bytes × Int)} {k : Nat} {x : Bytes × Int} (hx : l[k]? = some x) (h : keepOk (l.take k) = true) : keepOk (l.take (k + 1)) = true ↔ KAt (l.take k) x := by
 rw [Bf, hx]
 exact (qfu _ _).trans ⟨fun e => e.2, fun e => ⟨h, e⟩⟩
theorem qfa : ∀ (n : Nat) (l : List (Bytes × Int)), keepOk l = true → keepOk (l.take n) = true
 | 0, _, _ => rfl
 | _ + 1, [], _ => rfl
 | n + 1, x :: l, h => by
  simp only [keepOk, Ae] at h
  simp only [Dg, keepOk, Ae]
  refine ⟨⟨h.1.1, ?_⟩, qfa n l h.2⟩
  have h2 := h.1.2
  simp only [Bool.not_eq_true', List.any_eq_false] at h2 ⊢
  exact fun y hy => h2 y (Cg hy)
theorem qcX {l : List (Bytes × Int)} {k : Nat} (h : ¬ keepOk (l.take k) = true) : keepOk l = false := by
 cases hb : keepOk l with
 | false => rfl
 | true => exact absurd (qfa k l hb) h
def Seen (kv : KV) (p : List (Bytes × Int)) : Prop := ∀ s : Bytes, (∃ y ∈ p, y.1 = s) ∧ getS kv s = some (.agg #[.bool true]) ∨ (∀ y ∈ p, y.1 ≠ s) ∧ getS kv s = none
theorem qbA {α : Type} (s t : List UInt8) (v : α) (c : Nat) : ∀ l : List (List UInt8 × α × Nat), getS (putS l s v c) t = if s = t then some v else getS l t
 | [] => by
  unfold putS getS
  by_cases h : s = t
  ·
   simp [h]
  ·
   simp [h]
 | e :: l => by
  have ih := qbA s t v c l
  unfold putS
  by_cases he : e.1 == s
  ·
   rw [Ah he]
   have he' : e.1 = s := by simpa using he
   unfold getS
   by_cases h : s = t
   ·
    simp [he', h]
   ·
    have h2 : ¬ e.1 = t := fun x => h (he'.symm.trans x)
    simp [h, h2]
  ·
   rw [Ac he]
   unfold getS at ih ⊢
   by_cases h : e.1 = t
   ·
    have hst : ¬ s = t := fun x => he (by simp [h, x])
    simp [h, hst]
   ·
    simp only [List.find?_cons, beq_eq_false_iff_ne.2 h]
    exact ih
theorem Seen.put {kv : KV} {p : List (Bytes × Int)} (s : Seen kv p) (x : Bytes × Int) (c : Nat) : Seen (putS kv x.1 (.agg #[.bool true]) c) (p ++ [x]) := by
 intro t
 rw [qbA]
 by_cases h : x.1 = t
 ·
  rw [Ah h]
  exact .inl ⟨⟨x, by simp, h⟩, rfl⟩
 ·
  rw [Ac h]
  rcases s t with ⟨⟨y, h1, h2⟩, h3⟩ | ⟨h1, h2⟩
  ·
   exact .inl ⟨⟨y, by simp [h1], h2⟩, h3⟩
  ·
   refine .inr ⟨fun y hy => ?_, h2⟩
   rcases Bh.1 hy with hy | hy
   ·
    exact h1 y hy
   ·
    rw [Ax.1 hy]; exact h
abbrev keptB (x : Bytes × Int) : Blk := ⟨keptR x, 79, true⟩
theorem mayKeep_c (v : Value) (l : List (Bytes × Int)) (h : Heap) (r : RK h v l) : ACalls prog 90 [v] h fun u h' => u = .bool (keepOk l && decide (l.length ≤ 128)) ∧ h' = h := by
 refine aL fun wf => aO ?_
 refine aD func90 rfl rfl ?_
 have r1 := r.rn
 have hlen := r.len
 have hml : (l.map keptR).length = l.length := Ap _
 obtain ⟨va, vc, hv⟩ := r1.slice
 repeat (first | refine W.w ?_ | (refine zz rfl ?_; first | refine qaa rfl ?_ | refine qdq ?_ | refine qal (by conv => lhs; whnf) ?_ | refine qao (by conv => lhs; whnf) ?_))
 have go := Heap.allocO_new h (.map (ents []) 0)
 have xo := wf.extO (.map (ents []) 0)
 have wo := wf.allocO (.map (ents []) 0)
 generalize h.allocO (.map (ents []) 0) = H0 at go xo wo ⊢
 repeat (first | refine W.w ?_ | refine zz rfl (qac rfl ?_) | refine zz rfl (qaA (r1.ext xo) rfl ?_))
 refine bB (α := Nat × Heap × KV × Nat) (fun d => [(0, v), (3, .map (some h.next)), (7, v), (8, .int .i64 ((l.map keptR).length : Nat)), (9, .int .i64 (d.1 : Nat))]) (fun d => d.2.1)
  (fun d => d.1 ≤ l.length ∧ keepOk (l.take d.1) = true ∧ Ext h d.2.1 ∧ WF d.2.1 ∧ d.2.1.obj h.next = some (.map (ents d.2.2.1) d.2.2.2) ∧ Seen d.2.2.1 (l.take d.1)) (fun d => l.length - d.1) (0, H0, [], 0)
  ⟨Ao _, rfl, xo, wo, go, fun s => .inr ⟨fun y hy => by simp at hy, rfl⟩⟩ (aI (aA rfl (aA rfl (aA rfl (aA rfl (aA rfl aN)))))) ?_
 rintro ⟨k, H, kv, ck⟩ ⟨hk, hok, hx, wfH, hm, hs⟩
 replace hk : k ≤ l.length := hk
 replace hok : keepOk (l.take k) = true := hok
 replace hx : Ext h H := hx
 replace wfH : WF H := wfH
 replace hm : H.obj h.next = some (.map (ents kv) ck) := hm
 replace hs : Seen kv (l.take k) := hs
 show AWp _ _ _ _ [(0, v), (3, .map (some h.next)), (7, v), (8, .int .i64 ((l.map keptR).length : Nat)), (9, .int .i64 (k : Nat))] H
 by_cases hlt : k < l.length
 ·
  obtain ⟨x, hxa⟩ := gX (l := l) (k := k) hlt
  have hx2 : (l.map keptR)[((k : Nat) : Int).toNat]? = some (keptR x) := by simp [hxa]
  have px := (r1.ext hx).elt hx2
  have hst := qem hxa hok
  repeat (first | refine W.w ?_ | refine aE rfl ?_ | refine aJ rfl (qaL (vs := keptR x) rfl rfl rfl rfl rfl ?_) | (refine zz rfl ?_; first | refine qak rfl rfl rfl (by omega) ?_ | refine qaD (r1.ext hx) rfl rfl (by omega) hx2 ?_ | refine qaW px rfl rfl rfl ?_ | refine qax ?_ | refine qal (by conv => lhs; whnf) ?_))
  have hg := aB H (keptB x)
  have x1 := wfH.ext (keptB x)
  have wf1 := wfH.alloc (keptB x)
  have hm1 := x1.o _ _ hm
  have hxx := hx.trans x1
  generalize H.alloc (keptB x) = H1 at hg x1 wf1 hm1 hxx ⊢
  have cn := mayName_c x.1 H1
  have cw := qcD x.2 0 2147483647 H1
  rcases hs x.1 with ⟨⟨y, hy1, hy2⟩, hgs⟩ | ⟨hno, hgs⟩
  ·
   have hcn : ¬ KAt (l.take k) x := fun e => e.2.2 y hy1 hy2
   repeat (first | refine W.w ?_ | refine aK rfl rfl ?_ | refine aE rfl ?_ | (refine zz rfl ?_; first | refine qae rfl ?_ | refine qaa rfl ?_ | refine qan rfl ?_ | refine qaf rfl rfl hg rfl ?_ | refine qbx (u := .agg #[.bool true]) rfl rfl hm1 (by simp [plainV, scalar]) (by rw [hgs]; rfl) ?_ | refine qdY (fld := fd "is" 4 0 "hectare/script" 0) (d := .bool) (v := .bool true) rfl rfl rfl rfl ?_ | refine qag (v := .bool _) rfl rfl ?_))
   refine ⟨_, aC rfl, rfl, hxx, congrArg Value.bool ?_, rfl⟩
   rw [qcX (k := k + 1) (fun e => hcn (hst.1 e))]
   rfl
  ·
   cases hn : nameOk x.1 with
   | false =>
    rw [hn] at cn
    have hcn : ¬ KAt (l.take k) x := fun e => by rw [e.1] at hn; cases hn
    repeat (first | refine W.w ?_ | refine aK rfl rfl ?_ | refine aE rfl ?_ | (refine zz rfl ?_; first | refine qae rfl ?_ | refine qaa rfl ?_ | refine qan rfl ?_ | refine qaf rfl rfl hg rfl ?_ | refine qbx (u := .agg #[.bool false]) rfl rfl hm1 (by simp [plainV, scalar]) (by rw [hgs]; rfl) ?_ | refine qdY (fld := fd "is" 4 0 "hectare/script" 0) (d := .bool) (v := .bool false) rfl rfl rfl rfl ?_ | refine qab rfl rfl cn ?_ | refine qag (v := .bool _) rfl rfl ?_ | refine qaF rfl ?_))
    refine ⟨_, aC rfl, rfl, hxx, congrArg Value.bool ?_, rfl⟩
    rw [qcX (k := k + 1) (fun e => hcn (hst.1 e))]
    rfl
   | true =>
    rw [hn] at cn
    by_cases hw : 0 ≤ x.2 ∧ x.2 ≤ 2147483647
    ·
     rw [Al hw] at cw
     repeat (first | refine W.w ?_ | refine aG rfl ?_ | refine aJ rfl (qgV (u := .agg #[.bool true]) (l := kv) rfl rfl rfl hm1 ?_) | (refine zz rfl ?_; first | refine qac rfl ?_ | refine qae rfl ?_ | refine qan rfl ?_ | refine qaf rfl rfl hg rfl ?_ | refine qal (v := .map (some h.next)) rfl ?_ | refine qbx (u := .agg #[.bool false]) rfl rfl hm1 (by simp [plainV, scalar]) (by rw [hgs]; rfl) ?_ | refine qdY (fld := fd "is" 4 0 "hectare/script" 0) (d := .bool) (v := .bool false) rfl rfl rfl rfl ?_ | refine qab rfl rfl cn ?_ | refine qab rfl rfl cw ?_ | refine qag (v := .bool _) rfl rfl ?_ | refine qay (out := [.bool true]) rfl rfl ?_ | refine qau rfl rfl (by omega) ?_ | refine qaF rfl ?_))
     refine ⟨(k + 1, H1.setO h.next (.map (ents (putS kv x.1 (.agg #[.bool true]) ck)) (if hasS kv x.1 then ck else ck + 1)), putS kv x.1 (.agg #[.bool true]) ck, if hasS kv x.1 then ck else ck + 1), ⟨hlt, hst.2 ⟨hn, hw, hno⟩, wf.ext_setO hxx (Aa _) _, wf1.setO (wf1.ltO hm1) _, bZ _ _ _, ?_⟩, by show l.length - (k + 1) < l.length - k; omega, aI (aA rfl (aA rfl (aA rfl (aA rfl (aA rfl aN)))))⟩
     show Seen _ (l.take (k + 1))
     rw [Bf, hxa]
     exact hs.put x ck
    ·
     rw [Af hw] at cw
     have hcn : ¬ KAt (l.take k) x := fun e => hw e.2.1
     repeat (first | refine W.w ?_ | refine aE rfl ?_ | (refine zz rfl ?_; first | refine qae rfl ?_ | refine qaa rfl ?_ | refine qan rfl ?_ | refine qaf rfl rfl hg rfl ?_ | refine qbx (u := .agg #[.bool false]) rfl rfl hm1 (by simp [plainV, scalar]) (by rw [hgs]; rfl) ?_ | refine qdY (fld := fd "is" 4 0 "hectare/script" 0) (d := .bool) (v := .bool false) rfl rfl rfl rfl ?_ | refine qab rfl rfl cn ?_ | refine qab rfl rfl cw ?_ | refine qag (v := .bool _) rfl rfl ?_ | refine qaF rfl ?_))
     refine ⟨_, aC rfl, rfl, hxx, congrArg Value.bool ?_, rfl⟩
     rw [qcX (k := k + 1) (fun e => hcn (hst.1 e))]
     rfl
 ·
  obtain rfl : k = l.length := by omega
  rw [Au] at hok
  by_cases h8 : l.length ≤ 128
  ·
   repeat (first | refine aW ?_ | refine aR ?_ | refine aY ?_ | refine aG rfl ?_ | refine aM ?_ | refine aP ?_ | (refine zz rfl ?_; first | refine qaa rfl ?_ | refine qai rfl rfl rfl (by omega) ?_ | refine qaA (r1.ext hx) rfl ?_ | refine qak rfl rfl rfl (by omega) ?_ | refine qal (by conv => lhs; whnf) ?_))
   exact ⟨_, aC rfl, rfl, hx, by rw [hok, Al h8]; rfl, rfl⟩
  ·
   repeat (first | refine aW ?_ | refine aR ?_ | refine aY ?_ | refine aG rfl ?_ | refine aM ?_ | refine aP ?_ | (refine zz rfl ?_; first | refine qaa rfl ?_ | refine qai rfl rfl rfl (by omega) ?_ | refine qaA (r1.ext hx) rfl ?_ | refine qal (by conv => lhs; whnf) ?_))
   exact ⟨_, aC rfl, rfl, hx, by rw [hok, Af h8]; rfl, rfl⟩
end Go.Proofs.YtigmojilaadbhaaGreatDoor
/- . -/
namespace Go.Proofs.YtigmojilaadbhaaGreatDoor
open Go Go.Eng Go.Pln Go.Lib Go.Proofs.Tryz
attribute [local irreducible] AWp AL DAL AOp TAL
instance i_plans : FnC prog 98 := ⟨Tryz.f98, func98, by kernel_rfl, by kernel_rfl⟩
instance i_asks : FnC prog 100 := ⟨Tryz.f100, func100, by kernel_rfl, by kernel_rfl⟩
instance i_keep : FnC prog 99 := ⟨Tryz.f99, func99, by kernel_rfl, by kernel_rfl⟩
instance qeY : TyD prog 150 (.func #[] #[37] false) := ⟨underlying150⟩
instance qeW : TyI prog 150 1 8 .nilFunc := ⟨qaV (by kernel_rfl), rfl, rfl⟩
instance qcI : TyD prog 151 (.map 9 150) := ⟨underlying151⟩
instance qgi : TyD prog 154 (.func #[] #[29] false) := ⟨underlying154⟩
instance qg4 : TyI prog 154 1 8 .nilFunc := ⟨qaV (by kernel_rfl), rfl, rfl⟩
instance qdk : TyD prog 155 (.map 9 154) := ⟨underlying155⟩
abbrev fnB (f b : Nat) : Value := .func (.func f) #[] #[ptr b]
def planF (b : Nat) (w : Bytes) : Option Value := if w = wSplit then some (fnB 130 b) else if w = wUnion then some (fnB 132 b) else if w = wMove then some (fnB 133 b) else none
def askF (b : Nat) (w : Bytes) : Option Value := if w = wGet then some (fnB 134 b) else if w = wDelete then some (fnB 135 b) else if w = wPut then some (fnB 136 b)
 else if w = wSwap then some (fnB 137 b) else if w = wFresh then some (fnB 138 b) else if w = wScan then some (fnB 139 b) else none
structure FMap (h h' : Heap) (i m b : Nat) (F : Bytes → Option Value) : Prop where
 ext : Ext h h'
 box : h'.get b = some (pB i)
 map : ∃ kv ck, h'.obj m = some (.map (ents kv) ck) ∧ ∀ w, getS kv w = F w
 nb : h.next ≤ b
theorem plan_get (b : Nat) (w : Bytes) : getS (putS (putS (putS ([] : KV) wSplit (fnB 130 b) 0) wUnion (fnB 132 b) 1) wMove (fnB 133 b) 2) w = planF b w := by
 rw [qbA, qbA, qbA]
 unfold planF
 by_cases h0 : w = wSplit
 ·
  subst h0
  rfl
 by_cases h1 : w = wUnion
 ·
  subst h1
  rfl
 by_cases h2 : w = wMove
 ·
  subst h2
  rfl
 rw [Ac (fun e => h2 e.symm), Ac (fun e => h1 e.symm), Ac (fun e => h0 e.symm), Ac h0, Ac h1, Ac h2]
 rfl
theorem rplans_c (i : Nat) (h : Heap) : ACalls prog 98 [ptr i] h fun u h' => ∃ m b, u = .map (some m) ∧ FMap h h' i m b (planF b) := by
 refine aL fun wf => ?_
 refine aD func98 rfl rfl ?_
 repeat (first | refine W.w ?_ | refine zz rfl (qaS rfl (by intro e; cases e) ?_) | refine zz rfl (qao (by conv => lhs; whnf) ?_))
 generalize hH : h.alloc _ = H
 have g : H.get h.next = some (pB i) := hH ▸ aB _ _
 have x : Ext h H := hH ▸ wf.ext _
 have wfH : WF H := hH ▸ wf.alloc _
 have nH : h.next ≤ H.next := hH ▸ Ci _
 clear hH
 repeat (first | refine zz rfl (qdq ?_))
 have hm0 := Heap.allocO_new H (.map (ents []) 0)
 have x0 := x.trans (wfH.extO (.map (ents []) 0))
 have g0 := (wfH.extO (.map (ents []) 0)).c _ _ g
 generalize H.allocO (.map (ents []) 0) = H0 at hm0 x0 g0 ⊢
 have nm : h.next ≤ H.next := nH
 generalize H.next = m at hm0 nm ⊢
 repeat (first | refine zz rfl (qa2 rfl rfl ?_))
 refine aJ rfl (qbB (s := wSplit) rfl rfl rfl hm0 ?_)
 refine aS (h := H0.setO m (.map (ents (putS ([] : KV) wSplit (fnB 130 h.next) 0)) 1)) rfl ?_
 have hm1 := bZ H0 m (.map (ents (putS ([] : KV) wSplit (fnB 130 h.next) 0)) 1)
 have x1 : Ext h (H0.setO m (.map (ents (putS ([] : KV) wSplit (fnB 130 h.next) 0)) 1)) := wf.ext_setO x0 nm _
 have g1 : (H0.setO m (.map (ents (putS ([] : KV) wSplit (fnB 130 h.next) 0)) 1)).get h.next = some (pB i) := g0
 generalize H0.setO m (.map (ents (putS ([] : KV) wSplit (fnB 130 h.next) 0)) 1) = H1 at hm1 x1 g1 ⊢
 repeat (first | refine zz rfl (qa2 rfl rfl ?_))
 refine aJ rfl (qbB (s := wUnion) rfl rfl rfl hm1 ?_)
 refine aS (h := H1.setO m (.map (ents (putS (putS ([] : KV) wSplit (fnB 130 h.next) 0) wUnion (fnB 132 h.next) 1)) 2)) rfl ?_
 have hm2 := bZ H1 m (.map (ents (putS (putS ([] : KV) wSplit (fnB 130 h.next) 0) wUnion (fnB 132 h.next) 1)) 2)
 have x2 : Ext h (H1.setO m (.map (ents (putS (putS ([] : KV) wSplit (fnB 130 h.next) 0) wUnion (fnB 132 h.next) 1)) 2)) := wf.ext_setO x1 nm _
 have g2 : (H1.setO m (.map (ents (putS (putS ([] : KV) wSplit (fnB 130 h.next) 0) wUnion (fnB 132 h.next) 1)) 2)).get h.next = some (pB i) := g1
 generalize H1.setO m (.map (ents (putS (putS ([] : KV) wSplit (fnB 130 h.next) 0) wUnion (fnB 132 h.next) 1)) 2) = H2 at hm2 x2 g2 ⊢
 repeat (first | refine zz rfl (qa2 rfl rfl ?_))
 refine aJ rfl (qbB (s := wMove) rfl rfl rfl hm2 ?_)
 refine aS (h := H2.setO m (.map (ents (putS (putS (putS ([] : KV) wSplit (fnB 130 h.next) 0) wUnion (fnB 132 h.next) 1) wMove (fnB 133 h.next) 2)) 3)) rfl ?_
 have hm3 := bZ H2 m (.map (ents (putS (putS (putS ([] : KV) wSplit (fnB 130 h.next) 0) wUnion (fnB 132 h.next) 1) wMove (fnB 133 h.next) 2)) 3)
 have x3 : Ext h (H2.setO m (.map (ents (putS (putS (putS ([] : KV) wSplit (fnB 130 h.next) 0) wUnion (fnB 132 h.next) 1) wMove (fnB 133 h.next) 2)) 3)) := wf.ext_setO x2 nm _
 have g3 : (H2.setO m (.map (ents (putS (putS (putS ([] : KV) wSplit (fnB 130 h.next) 0) wUnion (fnB 132 h.next) 1) wMove (fnB 133 h.next) 2)) 3)).get h.next = some (pB i) := g2
 generalize H2.setO m (.map (ents (putS (putS (putS ([] : KV) wSplit (fnB 130 h.next) 0) wUnion (fnB 132 h.next) 1) wMove (fnB 133 h.next) 2)) 3) = H3 at hm3 x3 g3 ⊢
 repeat (first | refine W.w ?_ | refine zz rfl (qal (v := .map (some m)) rfl ?_) | refine zz rfl (qao (v := .map (some m)) rfl ?_))
 exact ⟨_, aC rfl, m, h.next, rfl, x3, g3, ⟨_, _, hm3, plan_get h.next⟩, Aa _⟩
theorem ask_get (b : Nat) (w : Bytes) : getS (putS (putS (putS (putS (putS (putS ([] : KV) wGet (fnB 134 b) 0) wDelete (fnB 135 b) 1) wPut (fnB 136 b) 2) wSwap (fnB 137 b) 3) wFresh (fnB 138 b) 4) wScan (fnB 139 b) 5) w = askF b w := by
 rw [qbA, qbA, qbA, qbA, qbA, qbA]
 unfold askF
 by_cases h0 : w = wGet
 ·
  subst h0
  rfl
 by_cases h1 : w = wDelete
 ·
  subst h1
  rfl
 by_cases h2 : w = wPut
 ·
  subst h2
  rfl
 by_cases h3 : w = wSwap
 ·
  subst h3
  rfl
 by_cases h4 : w = wFresh
 ·
  subst h4
  rfl
 by_cases h5 : w = wScan
 ·
  subst h5
  rfl
 rw [Ac (fun e => h5 e.symm), Ac (fun e => h4 e.symm), Ac (fun e => h3 e.symm), Ac (fun e => h2 e.symm), Ac (fun e => h1 e.symm), Ac (fun e => h0 e.symm), Ac h0, Ac h1, Ac h2, Ac h3, Ac h4, Ac h5]
 rfl
theorem rasks_c (i : Nat) (h : Heap) : ACalls prog 100 [ptr i] h fun u h' => ∃ m b, u = .map (some m) ∧ FMap h h' i m b (askF b) := by
 refine aL fun wf => ?_
 refine aD func100 rfl rfl ?_
 repeat (first | refine W.w ?_ | refine zz rfl (qaS rfl (by intro e; cases e) ?_) | refine zz rfl (qao (by conv => lhs; whnf) ?_))
 generalize hH : h.alloc _ = H
 have g : H.get h.next = some (pB i) := hH ▸ aB _ _
 have x : Ext h H := hH ▸ wf.ext _
 have wfH : WF H := hH ▸ wf.alloc _
 have nH : h.next ≤ H.next := hH ▸ Ci _
 clear hH
 repeat (first | refine zz rfl (qdq ?_))
 have hm0 := Heap.allocO_new H (.map (ents []) 0)
 have x0 := x.trans (wfH.extO (.map (ents []) 0))
 have g0 := (wfH.extO (.map (ents []) 0)).c _ _ g
 generalize H.allocO (.map (ents []) 0) = H0 at hm0 x0 g0 ⊢
 have nm : h.next ≤ H.next := nH
 generalize H.next = m at hm0 nm ⊢
 repeat (first | refine zz rfl (qa2 rfl rfl ?_))
 refine aJ rfl (qbB (s := wGet) rfl rfl rfl hm0 ?_)
 refine aS (h := H0.setO m (.map (ents (putS ([] : KV) wGet (fnB 134 h.next) 0)) 1)) rfl ?_
 have hm1 := bZ H0 m (.map (ents (putS ([] : KV) wGet (fnB 134 h.next) 0)) 1)
 have x1 : Ext h (H0.setO m (.map (ents (putS ([] : KV) wGet (fnB 134 h.next) 0)) 1)) := wf.ext_setO x0 nm _
 have g1 : (H0.setO m (.map (ents (putS ([] : KV) wGet (fnB 134 h.next) 0)) 1)).get h.next = some (pB i) := g0
 generalize H0.setO m (.map (ents (putS ([] : KV) wGet (fnB 134 h.next) 0)) 1) = H1 at hm1 x1 g1 ⊢
 repeat (first | refine zz rfl (qa2 rfl rfl ?_))
 refine aJ rfl (qbB (s := wDelete) rfl rfl rfl hm1 ?_)
 refine aS (h := H1.setO m (.map (ents (putS (putS ([] : KV) wGet (fnB 134 h.next) 0) wDelete (fnB 135 h.next) 1)) 2)) rfl ?_
 have hm2 := bZ H1 m (.map (ents (putS (putS ([] : KV) wGet (fnB 134 h.next) 0) wDelete (fnB 135 h.next) 1)) 2)
 have x2 : Ext h (H1.setO m (.map (ents (putS (putS ([] : KV) wGet (fnB 134 h.next) 0) wDelete (fnB 135 h.next) 1)) 2)) := wf.ext_setO x1 nm _
 have g2 : (H1.setO m (.map (ents (putS (putS ([] : KV) wGet (fnB 134 h.next) 0) wDelete (fnB 135 h.next) 1)) 2)).get h.next = some (pB i) := g1
 generalize H1.setO m (.map (ents (putS (putS ([] : KV) wGet (fnB 134 h.next) 0) wDelete (fnB 135 h.next) 1)) 2) = H2 at hm2 x2 g2 ⊢
 repeat (first | refine zz rfl (qa2 rfl rfl ?_))
 refine aJ rfl (qbB (s := wPut) rfl rfl rfl hm2 ?_)
 refine aS (h := H2.setO m (.map (ents (putS (putS (putS ([] : KV) wGet (fnB 134 h.next) 0) wDelete (fnB 135 h.next) 1) wPut (fnB 136 h.next) 2)) 3)) rfl ?_
 have hm3 := bZ H2 m (.map (ents (putS (putS (putS ([] : KV) wGet (fnB 134 h.next) 0) wDelete (fnB 135 h.next) 1) wPut (fnB 136 h.next) 2)) 3)
 have x3 : Ext h (H2.setO m (.map (ents (putS (putS (putS ([] : KV) wGet (fnB 134 h.next) 0) wDelete (fnB 135 h.next) 1) wPut (fnB 136 h.next) 2)) 3)) := wf.ext_setO x2 nm _
 have g3 : (H2.setO m (.map (ents (putS (putS (putS ([] : KV) wGet (fnB 134 h.next) 0) wDelete (fnB 135 h.next) 1) wPut (fnB 136 h.next) 2)) 3)).get h.next = some (pB i) := g2
 generalize H2.setO m (.map (ents (putS (putS (putS ([] : KV) wGet (fnB 134 h.next) 0) wDelete (fnB 135 h.next) 1) wPut (fnB 136 h.next) 2)) 3) = H3 at hm3 x3 g3 ⊢
 repeat (first | refine zz rfl (qa2 rfl rfl ?_))
 refine aJ rfl (qbB (s := wSwap) rfl rfl rfl hm3 ?_)
 refine aS (h := H3.setO m (.map (ents (putS (putS (putS (putS ([] : KV) wGet (fnB 134 h.next) 0) wDelete (fnB 135 h.next) 1) wPut (fnB 136 h.next) 2) wSwap (fnB 137 h.next) 3)) 4)) rfl ?_
 have hm4 := bZ H3 m (.map (ents (putS (putS (putS (putS ([] : KV) wGet (fnB 134 h.next) 0) wDelete (fnB 135 h.next) 1) wPut (fnB 136 h.next) 2) wSwap (fnB 137 h.next) 3)) 4)
 have x4 : Ext h (H3.setO m (.map (ents (putS (putS (putS (putS ([] : KV) wGet (fnB 134 h.next) 0) wDelete (fnB 135 h.next) 1) wPut (fnB 136 h.next) 2) wSwap (fnB 137 h.next) 3)) 4)) := wf.ext_setO x3 nm _
 have g4 : (H3.setO m (.map (ents (putS (putS (putS (putS ([] : KV) wGet (fnB 134 h.next) 0) wDelete (fnB 135 h.next) 1) wPut (fnB 136 h.next) 2) wSwap (fnB 137 h.next) 3)) 4)).get h.next = some (pB i) := g3
 generalize H3.setO m (.map (ents (putS (putS (putS (putS ([] : KV) wGet (fnB 134 h.next) 0) wDelete (fnB 135 h.next) 1) wPut (fnB 136 h.next) 2) wSwap (fnB 137 h.next) 3)) 4) = H4 at hm4 x4 g4 ⊢
 repeat (first | refine zz rfl (qa2 rfl rfl ?_))
 refine aJ rfl (qbB (s := wFresh) rfl rfl rfl hm4 ?_)
 refine aS (h := H4.setO m (.map (ents (putS (putS (putS (putS (putS ([] : KV) wGet (fnB 134 h.next) 0) wDelete (fnB 135 h.next) 1) wPut (fnB 136 h.next) 2) wSwap (fnB 137 h.next) 3) wFresh (fnB 138 h.next) 4)) 5)) rfl ?_
 have hm5 := bZ H4 m (.map (ents (putS (putS (putS (putS (putS ([] : KV) wGet (fnB 134 h.next) 0) wDelete (fnB 135 h.next) 1) wPut (fnB 136 h.next) 2) wSwap (fnB 137 h.next) 3) wFresh (fnB 138 h.next) 4)) 5)
 have x5 : Ext h (H4.setO m (.map (ents (putS (putS (putS (putS (putS ([] : KV) wGet (fnB 134 h.next) 0) wDelete (fnB 135 h.next) 1) wPut (fnB 136 h.next) 2) wSwap (fnB 137 h.next) 3) wFresh (fnB 138 h.next) 4)) 5)) := wf.ext_setO x4 nm _
 have g5 : (H4.setO m (.map (ents (putS (putS (putS (putS (putS ([] : KV) wGet (fnB 134 h.next) 0) wDelete (fnB 135 h.next) 1) wPut (fnB 136 h.next) 2) wSwap (fnB 137 h.next) 3) wFresh (fnB 138 h.next) 4)) 5)).get h.next = some (pB i) := g4
 generalize H4.setO m (.map (ents (putS (putS (putS (putS (putS ([] : KV) wGet (fnB 134 h.next) 0) wDelete (fnB 135 h.next) 1) wPut (fnB 136 h.next) 2) wSwap (fnB 137 h.next) 3) wFresh (fnB 138 h.next) 4)) 5) = H5 at hm5 x5 g5 ⊢
 repeat (first | refine zz rfl (qa2 rfl rfl ?_))
 refine aJ rfl (qbB (s := wScan) rfl rfl rfl hm5 ?_)
 refine aS (h := H5.setO m (.map (ents (putS (putS (putS (putS (putS (putS ([] : KV) wGet (fnB 134 h.next) 0) wDelete (fnB 135 h.next) 1) wPut (fnB 136 h.next) 2) wSwap (fnB 137 h.next) 3) wFresh (fnB 138 h.next) 4) wScan (fnB 139 h.next) 5)) 6)) rfl ?_
 have hm6 := bZ H5 m (.map (ents (putS (putS (putS (putS (putS (putS ([] : KV) wGet (fnB 134 h.next) 0) wDelete (fnB 135 h.next) 1) wPut (fnB 136 h.next) 2) wSwap (fnB 137 h.next) 3) wFresh (fnB 138 h.next) 4) wScan (fnB 139 h.next) 5)) 6)
 have x6 : Ext h (H5.setO m (.map (ents (putS (putS (putS (putS (putS (putS ([] : KV) wGet (fnB 134 h.next) 0) wDelete (fnB 135 h.next) 1) wPut (fnB 136 h.next) 2) wSwap (fnB 137 h.next) 3) wFresh (fnB 138 h.next) 4) wScan (fnB 139 h.next) 5)) 6)) := wf.ext_setO x5 nm _
 have g6 : (H5.setO m (.map (ents (putS (putS (putS (putS (putS (putS ([] : KV) wGet (fnB 134 h.next) 0) wDelete (fnB 135 h.next) 1) wPut (fnB 136 h.next) 2) wSwap (fnB 137 h.next) 3) wFresh (fnB 138 h.next) 4) wScan (fnB 139 h.next) 5)) 6)).get h.next = some (pB i) := g5
 generalize H5.setO m (.map (ents (putS (putS (putS (putS (putS (putS ([] : KV) wGet (fnB 134 h.next) 0) wDelete (fnB 135 h.next) 1) wPut (fnB 136 h.next) 2) wSwap (fnB 137 h.next) 3) wFresh (fnB 138 h.next) 4) wScan (fnB 139 h.next) 5)) 6) = H6 at hm6 x6 g6 ⊢
 repeat (first | refine W.w ?_ | refine zz rfl (qal (v := .map (some m)) rfl ?_) | refine zz rfl (qao (v := .map (some m)) rfl ?_))
 exact ⟨_, aC rfl, m, h.next, rfl, x6, g6, ⟨_, _, hm6, ask_get h.next⟩, Aa _⟩
end Go.Proofs.YtigmojilaadbhaaGreatDoor
