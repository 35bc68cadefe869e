/-
  What the polynomial guards: parity, order, bursts.
-/
import Derived.Test.YtjbnfcoiknoblaaCrcTurn
namespace Go.Crc
open Go Go.Eng

def parN : Nat → W → Bool
  | 0, _ => false
  | n + 1, r => r.getLsbD n ^^ parN n r
def par (r : W) : Bool := parN 32 r
theorem parN_xor : ∀ n (a b : W), parN n (a ^^^ b) = (parN n a ^^ parN n b)
  | 0, _, _ => rfl
  | n + 1, a, b => by
    simp only [parN, BitVec.getLsbD_xor, parN_xor n a b]
    cases a.getLsbD n <;> cases b.getLsbD n <;> cases parN n a <;> cases parN n b <;> rfl
theorem parN_shr : ∀ n (r : W), parN n (r >>> 1) = (parN (n + 1) r ^^ r.getLsbD 0)
  | 0, r => by simp [parN]
  | n + 1, r => by
    show ((r >>> 1).getLsbD n ^^ parN n (r >>> 1)) = ((r.getLsbD (n + 1) ^^ parN (n + 1) r) ^^ r.getLsbD 0)
    rw [parN_shr n r, BitVec.getLsbD_ushiftRight, Nat.add_comm 1 n]
    cases r.getLsbD (n + 1) <;> cases parN (n + 1) r <;> cases r.getLsbD 0 <;> rfl
theorem par_poly : par poly = true := by decide
theorem par_zero : par 0#32 = false := by decide
theorem par_fall (r : W) : par (fall r) = par r := by
  unfold fall par
  rw [parN_xor, parN_shr, parN, BitVec.getLsbD_of_ge r 32 (by omega)]
  have h1 : parN 32 poly = true := par_poly
  have h2 : parN 32 (0#32 : W) = false := par_zero
  cases r.getLsbD 0 <;> simp [h1, h2]
theorem par_it : ∀ n r, par (it fall n r) = par r
  | 0, _ => rfl
  | n + 1, r => by
    show par (it fall n (fall r)) = _
    rw [par_it n, par_fall]
theorem par_img (n : Nat) : par (img n) = true := by
  unfold img
  rw [par_it]
  decide
theorem par_imgs (n : Nat) : ∀ ks, par (imgs n ks) = decide (ks.length % 2 = 1)
  | [] => by rw [imgs, List.foldr_nil, par_zero]; rfl
  | k :: ks => by
    show par (img (8 * n - k) ^^^ imgs n ks) = _
    unfold par at *
    rw [parN_xor]
    have h1 : parN 32 (img (8 * n - k)) = true := par_img _
    have h2 : parN 32 (imgs n ks) = decide (ks.length % 2 = 1) := par_imgs n ks
    rw [h1, h2, List.length_cons]
    rcases Nat.mod_two_eq_zero_or_one ks.length with h | h
    · have : (ks.length + 1) % 2 = 1 := by omega
      simp [h, this]
    · have : (ks.length + 1) % 2 = 0 := by omega
      simp [h, this]
theorem imgs_odd (n : Nat) (ks : List Nat) (h : ks.length % 2 = 1) : imgs n ks ≠ 0#32 := by
  intro e
  have := par_imgs n ks
  rw [e, par_zero, h] at this
  simp at this

/-- Nothing falls to nought but nought. -/
theorem fall_zero (z : W) (h : fall z = 0#32) : z = 0#32 := by
  have h31 : z.getLsbD 0 = false := by
    have := congrArg (fun x : W => x.getLsbD 31) h
    simp only [fall, BitVec.getLsbD_xor, BitVec.getLsbD_ushiftRight] at this
    rw [BitVec.getLsbD_of_ge z (1 + 31) (by omega)] at this
    cases hz : z.getLsbD 0 with
    | false => rfl
    | true =>
      rw [hz] at this
      simp [poly] at this
  rw [fall_even z h31] at h
  apply BitVec.eq_of_getLsbD_eq
  intro i hi
  cases i with
  | zero => rw [h31]; rfl
  | succ i =>
    have := congrArg (fun x : W => x.getLsbD i) h
    simp only [BitVec.getLsbD_ushiftRight, Nat.add_comm 1 i] at this
    rw [this]
    simp
theorem it_zero : ∀ n z, it fall n z = 0#32 → z = 0#32
  | 0, _, h => h
  | n + 1, z, h => fall_zero z (it_zero n (fall z) h)
theorem it_inj (n : Nat) (a b : W) (h : it fall n a = it fall n b) : a = b := by
  have h1 : it fall n (a ^^^ b) = 0#32 := by rw [lin_fall.it n a b, h]; simp
  have := it_zero n _ h1
  have h2 : a ^^^ b ^^^ b = 0#32 ^^^ b := by rw [this]
  simpa [BitVec.xor_assoc] using h2

def fallN (r : Nat) : Nat := (r / 2) ^^^ (if r % 2 = 1 then 2197175160 else 0)
theorem fallN_eq (r : W) : (fall r).toNat = fallN r.toNat := by
  unfold fall fallN
  rw [BitVec.toNat_xor, BitVec.toNat_ushiftRight, Nat.shiftRight_eq_div_pow, low_bit]
  by_cases h : r.toNat % 2 = 1
  · simp [h, poly]
  · simp [h]
/-- So many steps ahead, unless 1 is met: then 0. -/
def chk : Nat → Nat → Nat
  | 0, r => r
  | n + 1, r => if fallN r = 1 then 0 else chk n (fallN r)
theorem chk_zero (n : Nat) : chk n 0 = 0 := by
  induction n with
  | zero => rfl
  | succ n ih => simp [chk, fallN, ih]
theorem chk_ok : ∀ n (r : W), chk n r.toNat ≠ 0 → (∀ d, 0 < d → d ≤ n → it fall d r ≠ 1#32) ∧ (it fall n r).toNat = chk n r.toNat
  | 0, r, _ => ⟨fun d h1 h2 => by omega, rfl⟩
  | n + 1, r, h => by
    simp only [chk] at h ⊢
    rw [← fallN_eq] at h ⊢
    split at h
    · exact absurd rfl h
    · rename_i hne
      rw [if_neg hne]
      obtain ⟨q1, q2⟩ := chk_ok n (fall r) h
      refine ⟨fun d h1 h2 => ?_, q2⟩
      cases d with
      | zero => omega
      | succ d =>
        show it fall d (fall r) ≠ 1#32
        cases d with
        | zero =>
          intro e
          exact hne (by rw [show fall r = 1#32 from e]; rfl)
        | succ d => exact q1 (d + 1) (by omega) (by omega)
/-- So many steps, and 1 is not met. -/
def Clear (n : Nat) (r r' : W) : Prop := (∀ d, 0 < d → d ≤ n → it fall d r ≠ 1#32) ∧ it fall n r = r'
theorem Clear.of {n a b : Nat} {r r' : W} (h : Nat.beq (chk n a) b = true) (hb : Nat.beq b 0 = false) (ha : r.toNat = a) (hb' : r'.toNat = b) : Clear n r r' := by
  have h1 : chk n a = b := Nat.eq_of_beq_eq_true h
  subst ha
  obtain ⟨q1, q2⟩ := chk_ok n r (by
    rw [h1]
    intro e
    rw [e] at hb
    cases hb)
  exact ⟨q1, BitVec.eq_of_toNat_eq (by rw [q2, h1, hb'])⟩
theorem Clear.add {m n : Nat} {a b c : W} (p : Clear m a b) (q : Clear n b c) : Clear (m + n) a c := by
  refine ⟨fun d h1 h2 => ?_, by rw [it_add, p.2, q.2]⟩
  by_cases hd : d ≤ m
  · exact p.1 d h1 hd
  · rw [show d = m + (d - m) from by omega, it_add, p.2]
    exact q.1 (d - m) (by omega) (by omega)
theorem leg0 : Clear 4800 1#32 2477127472#32 := .of (a := 1) (b := 2477127472) (by decide +kernel) (by decide) (by decide) (by decide)
theorem leg1 : Clear 4800 2477127472#32 4001502135#32 := .of (a := 2477127472) (b := 4001502135) (by decide +kernel) (by decide) (by decide) (by decide)
theorem leg2 : Clear 4800 4001502135#32 3050293800#32 := .of (a := 4001502135) (b := 3050293800) (by decide +kernel) (by decide) (by decide) (by decide)
theorem leg3 : Clear 4800 3050293800#32 474475824#32 := .of (a := 3050293800) (b := 474475824) (by decide +kernel) (by decide) (by decide) (by decide)
theorem leg4 : Clear 4800 474475824#32 3597962882#32 := .of (a := 474475824) (b := 3597962882) (by decide +kernel) (by decide) (by decide) (by decide)
theorem leg5 : Clear 4800 3597962882#32 688836174#32 := .of (a := 3597962882) (b := 688836174) (by decide +kernel) (by decide) (by decide) (by decide)
theorem leg6 : Clear 4800 688836174#32 2482204203#32 := .of (a := 688836174) (b := 2482204203) (by decide +kernel) (by decide) (by decide) (by decide)
theorem leg7 : Clear 4800 2482204203#32 2228415450#32 := .of (a := 2482204203) (b := 2228415450) (by decide +kernel) (by decide) (by decide) (by decide)
theorem leg8 : Clear 4800 2228415450#32 20658262#32 := .of (a := 2228415450) (b := 20658262) (by decide +kernel) (by decide) (by decide) (by decide)
theorem leg9 : Clear 4800 20658262#32 3007152406#32 := .of (a := 20658262) (b := 3007152406) (by decide +kernel) (by decide) (by decide) (by decide)
theorem leg10 : Clear 4800 3007152406#32 2422026831#32 := .of (a := 3007152406) (b := 2422026831) (by decide +kernel) (by decide) (by decide) (by decide)
theorem leg11 : Clear 4800 2422026831#32 2224791620#32 := .of (a := 2422026831) (b := 2224791620) (by decide +kernel) (by decide) (by decide) (by decide)
theorem leg12 : Clear 4800 2224791620#32 1743697189#32 := .of (a := 2224791620) (b := 1743697189) (by decide +kernel) (by decide) (by decide) (by decide)
theorem leg13 : Clear 4800 1743697189#32 3436039708#32 := .of (a := 1743697189) (b := 3436039708) (by decide +kernel) (by decide) (by decide) (by decide)
theorem leg14 : Clear 4800 3436039708#32 3950353958#32 := .of (a := 3436039708) (b := 3950353958) (by decide +kernel) (by decide) (by decide) (by decide)
theorem img_one (d : Nat) (h0 : 0 < d) (h1 : d ≤ 72000) : img d ≠ 1#32 := ((((((((((((((leg0.add leg1).add leg2).add leg3).add leg4).add leg5).add leg6).add leg7).add leg8).add leg9).add leg10).add leg11).add leg12).add leg13).add leg14).1 d h0 h1
theorem img_inj (a b : Nat) (ha : a ≤ 72000) (hb : b ≤ 72000) (h : img a = img b) : a = b := by
  have key : ∀ x y : Nat, x ≤ 72000 → y ≤ 72000 → x < y → img x ≠ img y := by
    intro x y _ hy hlt e
    refine img_one (y - x) (by omega) (by omega) ?_
    have h1 : img y = it fall x (img (y - x)) := by
      unfold img
      rw [← it_add]
      congr 1
      omega
    rw [h1] at e
    exact (it_inj x _ _ e).symm
  rcases Nat.lt_trichotomy a b with h1 | h1 | h1
  · exact absurd h (key a b ha hb h1)
  · exact h1
  · exact absurd h.symm (key b a hb ha h1)
end Go.Crc
