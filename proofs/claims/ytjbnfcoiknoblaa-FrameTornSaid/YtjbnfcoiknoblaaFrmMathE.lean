/-
  Frames, in plain words: frames behind each other, cut anywhere; one bit turned.
-/
import Derived.Test.YtjbnfcoiknoblaaFrmMathD
import Derived.Test.YtjbnfcoiknoblaaCrcGuard
namespace Go.Frm
open Go Go.Eng Go.Crc

def OkP (p : List UInt8) : Prop := 1 ≤ p.length ∧ p.length ≤ 1048576
def framesB (ps : List (List UInt8)) : List UInt8 := (ps.map frameB).flatten
theorem framesB_append (a b : List (List UInt8)) : framesB (a ++ b) = framesB a ++ framesB b := by simp [framesB]
theorem framesB_cons (p : List UInt8) (ps : List (List UInt8)) : framesB (p :: ps) = frameB p ++ framesB ps := by simp [framesB]
theorem framesB_push (ps : List (List UInt8)) (p : List UInt8) : framesB (ps ++ [p]) = framesB ps ++ frameB p := by simp [framesB]
theorem come_frames : ∀ (ps : List (List UInt8)) (_ : ∀ p ∈ ps, OkP p) (q : List UInt8) (done : List (Nat × List UInt8)) (r : List UInt8), Come (q ++ (framesB ps ++ r)) done q.length →
    ∃ done', Come (q ++ (framesB ps ++ r)) done' (q.length + (framesB ps).length) ∧ done'.length = done.length + ps.length
  | [], _, q, done, r, c => ⟨done, by simpa [framesB] using c, rfl⟩
  | p :: ps, hok, q, done, r, c => by
    have hp := hok p (by simp)
    have e : q ++ (framesB (p :: ps) ++ r) = (q ++ frameB p) ++ (framesB ps ++ r) := by rw [framesB_cons, List.append_assoc, List.append_assoc]
    have e2 : q ++ (framesB (p :: ps) ++ r) = q ++ (frameB p ++ (framesB ps ++ r)) := by rw [framesB_cons, List.append_assoc]
    have hf : first ((q ++ (framesB (p :: ps) ++ r)).drop q.length) = some p.length := by
      rw [e2]
      exact first_at q p _ _ rfl hp.1 hp.2
    have c2 := c.next hf
    have hl : (q ++ frameB p).length = q.length + 8 + p.length := by rw [List.length_append, frameB_length]; omega
    rw [e, ← hl] at c2
    obtain ⟨done', c3, h3⟩ := come_frames ps (fun x hx => hok x (by simp [hx])) (q ++ frameB p) _ r c2
    refine ⟨done', ?_, ?_⟩
    · rw [e]
      have hl2 : q.length + (framesB (p :: ps)).length = (q ++ frameB p).length + (framesB ps).length := by rw [framesB_cons, List.length_append, List.length_append]; omega
      rw [hl2]
      exact c3
    · rw [h3, List.length_append]
      simp only [List.length_cons, List.length_nil]
      omega
theorem whole_stop (ps : List (List UInt8)) (hok : ∀ p ∈ ps, OkP p) (r : List UInt8) (hr : first r = none) : (fr (framesB ps ++ r) 0).length = ps.length ∧ endW (framesB ps ++ r) = (framesB ps).length := by
  obtain ⟨done, c, hl⟩ := come_frames ps hok [] [] r (by simpa using Come.start _)
  simp only [List.nil_append, List.length_nil, Nat.zero_add] at c hl
  have hd : (framesB ps ++ r).drop (framesB ps).length = r := List.drop_left
  obtain ⟨e1, e2⟩ := c.stop (by rw [hd]; exact hr)
  exact ⟨by rw [e1]; exact hl, e2⟩
theorem first_nil : first ([] : List UInt8) = none := first_short (by simp)
theorem whole_all (ps : List (List UInt8)) (hok : ∀ p ∈ ps, OkP p) : (fr (framesB ps) 0).length = ps.length ∧ endW (framesB ps) = (framesB ps).length := by
  have := whole_stop ps hok [] first_nil
  rwa [List.append_nil] at this
/-- Where each frame ends. -/
def endsOf (ps : List (List UInt8)) : List Nat := (List.range ps.length).map fun i => (framesB (ps.take (i + 1))).length
theorem endsOf_length (ps : List (List UInt8)) : (endsOf ps).length = ps.length := by simp [endsOf]
theorem endsOf_push (ps : List (List UInt8)) (p : List UInt8) : endsOf (ps ++ [p]) = endsOf ps ++ [(framesB (ps ++ [p])).length] := by
  unfold endsOf
  rw [List.length_append, List.length_singleton, List.range_succ, List.map_append]
  congr 1
  · refine List.map_congr_left fun i hi => ?_
    rw [List.take_append_of_le_length (by have := List.mem_range.1 hi; omega)]
  · simp only [List.map_cons, List.map_nil]
    rw [List.take_of_length_le (by simp)]
theorem endsOf_get {ps : List (List UInt8)} {k : Nat} (hk : k < ps.length) : (endsOf ps)[k]? = some (framesB (ps.take (k + 1))).length := by
  unfold endsOf
  rw [List.getElem?_map, List.getElem?_range hk]
  rfl
theorem split_at {ps : List (List UInt8)} {k : Nat} (hk : k < ps.length) : ∃ p, p ∈ ps ∧ ps = ps.take k ++ p :: ps.drop (k + 1) ∧ framesB ps = framesB (ps.take k) ++ (frameB p ++ framesB (ps.drop (k + 1))) ∧ (framesB (ps.take (k + 1))).length = (framesB (ps.take k)).length + (8 + p.length) := by
  have e : ps = ps.take k ++ ps[k] :: ps.drop (k + 1) := by
    rw [← List.drop_eq_getElem_cons hk, List.take_append_drop]
  refine ⟨ps[k], List.getElem_mem hk, e, ?_, ?_⟩
  · conv => lhs; rw [e]
    rw [framesB_append, framesB_cons]
  · rw [List.take_succ_eq_append_getElem hk, framesB_push, List.length_append, frameB_length]
theorem frame_torn_be {p : List UInt8} {j : Nat} (h2 : p.length ≤ 1048576) (h8 : 8 ≤ j) : be ((frameB p).take j) = p.length := by
  have e : (frameB p).take j = wordB (BitVec.ofNat 32 p.length) ++ ((wordB (sum (wordB (BitVec.ofNat 32 p.length) ++ p)) ++ p).take (j - 4)) := by
    have := frame_app p []
    rw [List.append_nil, List.append_nil] at this
    rw [this, List.take_append, wordB_length, List.take_of_length_le (by rw [wordB_length]; omega)]
  rw [e, be_wordB, BitVec.toNat_ofNat]
  omega
theorem first_torn {p : List UInt8} {j : Nat} (h2 : p.length ≤ 1048576) (hj : j < 8 + p.length) : first ((frameB p).take j) = none := by
  have hl : ((frameB p).take j).length = j := by rw [List.length_take, frameB_length]; omega
  by_cases h8 : j < 8
  · exact first_short (by omega)
  · refine first_no_room ?_
    rw [frame_torn_be h2 (by omega), hl]
    omega
theorem odd_torn (ps : List (List UInt8)) (hok : ∀ p ∈ ps, OkP p) {p : List UInt8} (hp : OkP p) {j : Nat} (hj : j < 8 + p.length) : odd (framesB ps ++ (frameB p).take j) = false := by
  have hw := (whole_stop ps hok _ (first_torn hp.2 hj)).2
  have hd : (framesB ps ++ (frameB p).take j).drop (endW (framesB ps ++ (frameB p).take j)) = (frameB p).take j := by rw [hw]; exact List.drop_left
  have hl : ((frameB p).take j).length = j := by rw [List.length_take, frameB_length]; omega
  by_cases h8 : j < 8
  · exact odd_short (by rw [hd]; omega)
  · rw [odd_long (by rw [hd]; omega), hd, frame_torn_be hp.2 (by omega), hl]
    have h1 : mayN p.length = true := decide_eq_true ⟨hp.1, hp.2⟩
    rw [h1, decide_eq_false (by omega)]
    rfl
theorem xor_ne (x : UInt8) {s : Nat} (hs : s < 8) : x ^^^ UInt8.ofNat (1 <<< s) ≠ x := by
  intro h
  have h1 : x ^^^ (x ^^^ UInt8.ofNat (1 <<< s)) = x ^^^ x := by rw [h]
  rw [← UInt8.xor_assoc, UInt8.xor_self, UInt8.zero_xor] at h1
  match s, hs with
  | 0, _ | 1, _ | 2, _ | 3, _ | 4, _ | 5, _ | 6, _ | 7, _ => revert h1; decide
theorem set_ne {l : List UInt8} {j : Nat} {x y : UInt8} (hx : l[j]? = some x) (hy : y ≠ x) : l.set j y ≠ l := by
  intro h
  have h1 : (l.set j y)[j]? = some y := by
    rw [List.getElem?_set_self (List.getElem?_eq_some_iff.1 hx).1]
  rw [h, hx] at h1
  exact hy (Option.some.inj h1).symm
theorem sum_flip1 {l : List UInt8} {k : Nat} (hk : k < 8 * l.length) : sum (Crc.flip l k) ≠ sum l := by
  intro h
  have := (sum_flips [k] l (by intro x hx; rw [List.mem_singleton.1 hx]; exact hk)).1 h
  exact imgs_odd l.length [k] rfl this
/-- One bit turned behind a frame's length. -/
theorem first_flip {p r : List UInt8} (hp : OkP p) {j s : Nat} {x : UInt8} (h4 : 4 ≤ j) (hj : j < 8 + p.length) (hs : s < 8) (hx : (frameB p)[j]? = some x) :
    first ((frameB p).set j (x ^^^ UInt8.ofNat (1 <<< s)) ++ r) = none ∧ be ((frameB p).set j (x ^^^ UInt8.ofNat (1 <<< s)) ++ r) = p.length := by
  obtain ⟨y, hy⟩ : ∃ y, y = x ^^^ UInt8.ofNat (1 <<< s) := ⟨_, rfl⟩
  have hyx : y ≠ x := by rw [hy]; exact xor_ne x hs
  obtain ⟨N, hN⟩ : ∃ N, N = BitVec.ofNat 32 p.length := ⟨_, rfl⟩
  have hNn : N.toNat = p.length := by have := hp.2; rw [hN, BitVec.toNat_ofNat]; omega
  obtain ⟨S, hS⟩ : ∃ S, S = sum (wordB N ++ p) := ⟨_, rfl⟩
  have hfr : frameB p = wordB N ++ (wordB S ++ p) := by rw [hS, hN]; unfold frameB; rw [List.append_assoc]
  rw [← hy]
  rw [hfr] at hx ⊢
  have e1 : (wordB N ++ (wordB S ++ p)).set j y = wordB N ++ (wordB S ++ p).set (j - 4) y := by
    rw [List.set_append_right _ _ (by rw [wordB_length]; omega), wordB_length]
  rw [List.getElem?_append_right (by rw [wordB_length]; omega), wordB_length] at hx
  rw [e1, List.append_assoc]
  have hb : be (wordB N ++ ((wordB S ++ p).set (j - 4) y ++ r)) = p.length := by rw [be_wordB, hNn]
  refine ⟨first_no_sum ?_, hb⟩
  unfold sumOf
  rw [hb, take_word, drop_word]
  have hd8 : (wordB N ++ ((wordB S ++ p).set (j - 4) y ++ r)).drop 8 = ((wordB S ++ p).set (j - 4) y ++ r).drop 4 := by
    rw [show 8 = 4 + 4 from rfl, ← List.drop_drop, drop_word]
  rw [hd8]
  by_cases h8 : j < 8
  · rw [List.set_append_left _ _ (by rw [wordB_length]; omega), List.append_assoc]
    have h4l : ((wordB S).set (j - 4) y).length = 4 := by rw [List.length_set, wordB_length]
    rw [List.drop_left' h4l, List.take_left, ← hS]
    intro e
    have hw := (word_eq (W1 := S) (L := (wordB S).set (j - 4) y ++ (p ++ r)) (by rw [List.length_append, h4l]; omega)).2 e
    rw [List.take_left' h4l] at hw
    rw [List.getElem?_append_left (by rw [wordB_length]; omega)] at hx
    exact set_ne hx hyx hw.symm
  · rw [List.set_append_right _ _ (by rw [wordB_length]; omega), wordB_length, List.append_assoc, drop_word, be_wordB]
    rw [List.getElem?_append_right (by rw [wordB_length]; omega), wordB_length] at hx
    have hk : j - 4 - 4 < p.length := (List.getElem?_eq_some_iff.1 hx).1
    have hfl : wordB N ++ p.set (j - 4 - 4) y = Crc.flip (wordB N ++ p) (8 * (j - 4) + s) := by
      unfold Crc.flip
      have q1 : (8 * (j - 4) + s) / 8 = j - 4 := by omega
      have q2 : (8 * (j - 4) + s) % 8 = s := by omega
      rw [q1, q2, List.getElem?_append_right (by rw [wordB_length]; omega), wordB_length, hx]
      show _ = (wordB N ++ p).set (j - 4) (x ^^^ UInt8.ofNat (1 <<< s))
      rw [← hy, List.set_append_right _ _ (by rw [wordB_length]; omega), wordB_length]
    have hlp : (p.set (j - 4 - 4) y).length = p.length := List.length_set
    rw [← hlp, List.take_left, hfl]
    intro e
    refine sum_flip1 (l := wordB N ++ p) (k := 8 * (j - 4) + s) (by rw [List.length_append, wordB_length]; omega) ?_
    rw [← hS]
    exact BitVec.eq_of_toNat_eq e
theorem odd_flip (ps : List (List UInt8)) (hok : ∀ p ∈ ps, OkP p) {p r : List UInt8} (hp : OkP p) {j s : Nat} {x : UInt8} (h4 : 4 ≤ j) (hj : j < 8 + p.length) (hs : s < 8) (hx : (frameB p)[j]? = some x) :
    odd (framesB ps ++ ((frameB p).set j (x ^^^ UInt8.ofNat (1 <<< s)) ++ r)) = true := by
  obtain ⟨hf, hb⟩ := first_flip (r := r) hp h4 hj hs hx
  have hw := (whole_stop ps hok _ hf).2
  have hd : (framesB ps ++ ((frameB p).set j (x ^^^ UInt8.ofNat (1 <<< s)) ++ r)).drop (endW (framesB ps ++ ((frameB p).set j (x ^^^ UInt8.ofNat (1 <<< s)) ++ r))) = (frameB p).set j (x ^^^ UInt8.ofNat (1 <<< s)) ++ r := by rw [hw]; exact List.drop_left
  have hl : ((frameB p).set j (x ^^^ UInt8.ofNat (1 <<< s)) ++ r).length = 8 + p.length + r.length := by rw [List.length_append, List.length_set, frameB_length]
  rw [odd_long (by rw [hd]; omega), hd, hb, hl, decide_eq_true (by omega), Bool.or_true]
end Go.Frm
