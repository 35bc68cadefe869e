/-
  Filters: their bits, in plain words.
-/
import Derived.Test.YtdfehmmhlplhlaaCrcTurn
namespace Go.Blm
open Go Go.Eng Go.Crc

/-- A key's bits. -/
def bit5 (key : List UInt8) (m i : Nat) : Nat := ((sum key).toNat + i * (more (sum key) [1] ||| 1#32).toNat) % 4294967296 % m
def bits (key : List UInt8) (m : Nat) : List Nat := [bit5 key m 0, bit5 key m 1, bit5 key m 2, bit5 key m 3, bit5 key m 4]
theorem bits_lt (key : List UInt8) (m : Nat) (hm : 0 < m) : ∀ k ∈ bits key m, k < m := by
  intro k hk
  simp only [bits, List.mem_cons, List.not_mem_nil, or_false] at hk
  rcases hk with rfl | rfl | rfl | rfl | rfl <;> exact Nat.mod_lt _ hm
theorem bits_get (key : List UInt8) (m i : Nat) (hi : i < 5) : (bits key m)[i]? = some (bit5 key m i) := by
  match i, hi with
  | 0, _ | 1, _ | 2, _ | 3, _ | 4, _ => rfl
/-- Is a bit 1? -/
def hasB (b : UInt8) (k : Nat) : Bool := b.toNat.testBit k
def has (f : List UInt8) (k : Nat) : Bool := match f[k / 8]? with
  | some b => hasB b (k % 8)
  | none => false
def one8 (k : Nat) : UInt8 := UInt8.ofNat (1 <<< k)
def put (f : List UInt8) (k : Nat) : List UInt8 := match f[k / 8]? with
  | some b => f.set (k / 8) (b ||| one8 (k % 8))
  | none => f
def puts (f : List UInt8) (ks : List Nat) : List UInt8 := ks.foldl put f
theorem put_length (f : List UInt8) (k : Nat) : (put f k).length = f.length := by
  unfold put; split <;> simp
theorem puts_length (ks : List Nat) : ∀ f : List UInt8, (puts f ks).length = f.length := by
  induction ks with
  | nil => intro f; rfl
  | cons k ks ih =>
    intro f
    show (puts (put f k) ks).length = _
    rw [ih, put_length]
theorem hasB_or : ∀ (b : UInt8) (j k : Nat), j < 8 → k < 8 → hasB (b ||| one8 k) j = (hasB b j || decide (j = k)) := by
  intro b j k hj hk
  unfold hasB
  rw [UInt8.toNat_or, Nat.testBit_or]
  congr 1
  unfold one8
  match k, hk, j, hj with
  | 0, _, 0, _ | 0, _, 1, _ | 0, _, 2, _ | 0, _, 3, _ | 0, _, 4, _ | 0, _, 5, _ | 0, _, 6, _ | 0, _, 7, _ => decide
  | 1, _, 0, _ | 1, _, 1, _ | 1, _, 2, _ | 1, _, 3, _ | 1, _, 4, _ | 1, _, 5, _ | 1, _, 6, _ | 1, _, 7, _ => decide
  | 2, _, 0, _ | 2, _, 1, _ | 2, _, 2, _ | 2, _, 3, _ | 2, _, 4, _ | 2, _, 5, _ | 2, _, 6, _ | 2, _, 7, _ => decide
  | 3, _, 0, _ | 3, _, 1, _ | 3, _, 2, _ | 3, _, 3, _ | 3, _, 4, _ | 3, _, 5, _ | 3, _, 6, _ | 3, _, 7, _ => decide
  | 4, _, 0, _ | 4, _, 1, _ | 4, _, 2, _ | 4, _, 3, _ | 4, _, 4, _ | 4, _, 5, _ | 4, _, 6, _ | 4, _, 7, _ => decide
  | 5, _, 0, _ | 5, _, 1, _ | 5, _, 2, _ | 5, _, 3, _ | 5, _, 4, _ | 5, _, 5, _ | 5, _, 6, _ | 5, _, 7, _ => decide
  | 6, _, 0, _ | 6, _, 1, _ | 6, _, 2, _ | 6, _, 3, _ | 6, _, 4, _ | 6, _, 5, _ | 6, _, 6, _ | 6, _, 7, _ => decide
  | 7, _, 0, _ | 7, _, 1, _ | 7, _, 2, _ | 7, _, 3, _ | 7, _, 4, _ | 7, _, 5, _ | 7, _, 6, _ | 7, _, 7, _ => decide
/-- Bytes are told by their bits. -/
theorem hasB_ext (a b : UInt8) (h : ∀ k, k < 8 → hasB a k = hasB b k) : a = b := by
  apply UInt8.toNat_inj.1
  apply Nat.eq_of_testBit_eq
  intro i
  by_cases hi : i < 8
  · exact h i hi
  · have ha := a.toNat_lt
    have hb := b.toNat_lt
    have h8 : 2 ^ 8 ≤ 2 ^ i := Nat.pow_le_pow_right (by omega) (by omega)
    rw [Nat.testBit_lt_two_pow (by omega), Nat.testBit_lt_two_pow (by omega)]
theorem has_ext (f g : List UInt8) (hl : f.length = g.length) (h : ∀ k, k < 8 * f.length → has f k = has g k) : f = g := by
  apply List.ext_getElem hl
  intro i h1 h2
  apply hasB_ext
  intro k hk
  have := h (8 * i + k) (by omega)
  have e1 : (8 * i + k) / 8 = i := by omega
  have e2 : (8 * i + k) % 8 = k := by omega
  unfold has at this
  rw [e1, e2, List.getElem?_eq_getElem h1, List.getElem?_eq_getElem h2] at this
  exact this
theorem has_put (f : List UInt8) (j k : Nat) (hk : k < 8 * f.length) (hj : j < 8 * f.length) : has (put f k) j = (has f j || decide (j = k)) := by
  have hk8 : k / 8 < f.length := by omega
  have hj8 : j / 8 < f.length := by omega
  unfold put
  rw [List.getElem?_eq_getElem hk8]
  simp only []
  unfold has
  rw [List.getElem?_set]
  by_cases e : k / 8 = j / 8
  · rw [if_pos e, if_pos hk8, List.getElem?_eq_getElem hj8]
    simp only []
    rw [hasB_or _ _ _ (Nat.mod_lt _ (by omega)) (Nat.mod_lt _ (by omega))]
    have e2 : f[k / 8] = f[j / 8] := by congr 1
    rw [e2]
    congr 1
    by_cases h : j = k
    · subst h; simp
    · rw [decide_eq_false h, decide_eq_false (by omega)]
  · rw [if_neg e]
    have h : ¬ j = k := by rintro rfl; exact e rfl
    rw [decide_eq_false h, Bool.or_false]
theorem has_puts (j : Nat) : ∀ (ks : List Nat) (f : List UInt8), (∀ k ∈ ks, k < 8 * f.length) → j < 8 * f.length → has (puts f ks) j = (has f j || decide (j ∈ ks))
  | [], f, _, _ => by simp [puts]
  | k :: ks, f, h, hj => by
    show has (puts (put f k) ks) j = _
    rw [has_puts j ks (put f k) (by intro x hx; rw [put_length]; exact h x (by simp [hx])) (by rw [put_length]; exact hj), has_put f j k (h k (by simp)) hj]
    by_cases h1 : j = k
    · simp [h1]
    · by_cases h2 : j ∈ ks <;> simp [h1, h2]
/-- As the document sets a bit. -/
theorem put_same (f : List UInt8) (k : Nat) (h : has f k = true) : put f k = f := by
  have hk : k < 8 * f.length := by
    unfold has at h
    cases e : f[k / 8]? with
    | none => rw [e] at h; cases h
    | some b => have := (List.getElem?_eq_some_iff.1 e).1; omega
  refine has_ext _ _ (put_length _ _) fun j hj => ?_
  rw [put_length] at hj
  rw [has_put f j k hk hj]
  by_cases e : j = k
  · subst e; simp [h]
  · simp [e]
theorem add_or : ∀ (b : UInt8) (k : Nat), k < 8 → hasB b k = false → b + one8 k = b ||| one8 k := by
  have key : ∀ k : Fin 8, ∀ b : Fin 256, (UInt8.ofNat b.val).toNat.testBit k.val = false → UInt8.ofNat b.val + one8 k.val = UInt8.ofNat b.val ||| one8 k.val := by decide +kernel
  intro b k hk h
  have := key ⟨k, hk⟩ ⟨b.toNat, b.toNat_lt⟩
  simp only [UInt8.ofNat_toNat] at this
  exact this h
/-- A key more. -/
def addKey (f key : List UInt8) : List UInt8 := puts f (bits key (8 * f.length))
theorem addKey_length (f key : List UInt8) : (addKey f key).length = f.length := puts_length _ _
def addKeys (f : List UInt8) (keys : List (List UInt8)) : List UInt8 := keys.foldl addKey f
theorem addKeys_length (keys : List (List UInt8)) : ∀ f : List UInt8, (addKeys f keys).length = f.length := by
  induction keys with
  | nil => intro f; rfl
  | cons k keys ih =>
    intro f
    show (addKeys (addKey f k) keys).length = _
    rw [ih, addKey_length]
theorem has_addKey (f key : List UInt8) (j : Nat) (hj : j < 8 * f.length) : has (addKey f key) j = (has f j || decide (j ∈ bits key (8 * f.length))) :=
  has_puts j _ f (bits_lt _ _ (by omega)) hj
theorem has_addKeys (j : Nat) : ∀ (keys : List (List UInt8)) (f : List UInt8), j < 8 * f.length → has (addKeys f keys) j = (has f j || keys.any fun key => decide (j ∈ bits key (8 * f.length)))
  | [], f, _ => by simp [addKeys]
  | k :: keys, f, hj => by
    show has (addKeys (addKey f k) keys) j = _
    rw [has_addKeys j keys (addKey f k) (by rw [addKey_length]; exact hj), has_addKey f k j hj, addKey_length, List.any_cons, Bool.or_assoc]
/-- The order of keys changes nothing. -/
theorem addKeys_reverse (f : List UInt8) (keys : List (List UInt8)) : addKeys f keys.reverse = addKeys f keys := by
  refine has_ext _ _ (by rw [addKeys_length, addKeys_length]) fun j hj => ?_
  rw [addKeys_length] at hj
  rw [has_addKeys j _ f hj, has_addKeys j _ f hj, List.any_reverse]
def may (f key : List UInt8) : Bool := (bits key (8 * f.length)).all (has f)
theorem may_addKey (f key : List UInt8) (h : 0 < f.length) : may (addKey f key) key = true := by
  unfold may
  rw [List.all_eq_true]
  intro k hk
  rw [addKey_length] at hk
  rw [has_addKey f key k (bits_lt _ _ (by omega) _ hk)]
  simp [hk]
theorem may_addKeys (f : List UInt8) (keys : List (List UInt8)) (key : List UInt8) (hin : key ∈ keys) (h : 0 < f.length) : may (addKeys f keys) key = true := by
  unfold may
  rw [List.all_eq_true]
  intro k hk
  rw [addKeys_length] at hk
  rw [has_addKeys k keys f (bits_lt _ _ (by omega) _ hk)]
  have : (keys.any fun key => decide (k ∈ bits key (8 * f.length))) = true := List.any_eq_true.2 ⟨key, hin, by simpa using hk⟩
  rw [this, Bool.or_true]
/-- How many bits are 1. -/
def popTo (b : UInt8) : Nat → Nat
  | 0 => 0
  | k + 1 => popTo b k + (hasB b k).toNat
def pop (b : UInt8) : Nat := popTo b 8
theorem pop_zero : pop 0 = 0 := by decide
theorem pop_step (b : UInt8) (h : b ≠ 0) : pop (b &&& (b - 1)) + 1 = pop b := by
  have key : ∀ b : Fin 256, b.val ≠ 0 → pop (UInt8.ofNat b.val &&& (UInt8.ofNat b.val - 1)) + 1 = pop (UInt8.ofNat b.val) := by decide +kernel
  have := key ⟨b.toNat, b.toNat_lt⟩
  simp only [UInt8.ofNat_toNat] at this
  exact this (fun e => h (UInt8.toNat_inj.1 e))
def count (f : List UInt8) : Nat := (f.map pop).sum
/-- The same, bit by bit. -/
def countTo (f : List UInt8) : Nat → Nat
  | 0 => 0
  | k + 1 => countTo f k + (has f k).toNat
theorem countTo_byte (f : List UInt8) (i : Nat) (b : UInt8) (hb : f[i]? = some b) : ∀ k, k ≤ 8 → countTo f (8 * i + k) = countTo f (8 * i) + popTo b k
  | 0, _ => rfl
  | k + 1, h => by
    show countTo f (8 * i + k) + (has f (8 * i + k)).toNat = _
    rw [countTo_byte f i b hb k (by omega), popTo]
    have e1 : (8 * i + k) / 8 = i := by omega
    have e2 : (8 * i + k) % 8 = k := by omega
    have e3 : has f (8 * i + k) = hasB b k := by unfold has; rw [e1, e2, hb]
    rw [e3]
    omega
theorem countTo_bytes (f : List UInt8) : ∀ i, i ≤ f.length → countTo f (8 * i) = count (f.take i)
  | 0, _ => rfl
  | i + 1, h => by
    have hb : f[i]? = some f[i] := List.getElem?_eq_getElem (by omega)
    have := countTo_byte f i _ hb 8 (Nat.le_refl _)
    rw [show 8 * (i + 1) = 8 * i + 8 from by omega, this, countTo_bytes f i (by omega), List.take_add_one, hb]
    show (((f.take i).map pop).sum) + _ = ((f.take i ++ [f[i]]).map pop).sum
    rw [List.map_append, List.sum_append]
    rfl
theorem countTo_all (f : List UInt8) : countTo f (8 * f.length) = count f := by
  rw [countTo_bytes f _ (Nat.le_refl _), List.take_length]
/-- How many bytes a filter has. -/
def size (n : Int) : Nat := if n < 0 ∨ 65536 < n then 0 else min ((n.toNat + 8) / 8 * 8) 131072
end Go.Blm
