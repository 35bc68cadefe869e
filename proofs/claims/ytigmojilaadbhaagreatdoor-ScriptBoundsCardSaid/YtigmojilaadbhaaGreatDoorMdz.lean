/-
  Texts of one claim, merged: 3 parts.
-/
import Derived.Test.YtigmojilaadbhaaGreatDoorMdw
import Derived.Test.YtigmojilaadbhaaGreatDoorMdu
import Derived.Test.YtigmojilaadbhaaGreatDoorMdi
import Derived.Test.YtigmojilaadbhaaGreatDoorMdy
set_option maxHeartbeats 16000000
/- . -/
namespace Go.Pln
open Go Go.Lib
abbrev bnH : Bytes := [115, 101, 116, 117, 112, 32, 53, 32, 49, 48, 52, 56, 53, 55, 54, 32, 52, 48, 57, 54, 32, 54, 53, 53, 51, 54, 10]
abbrev bnG : Bytes := [103, 114, 111, 117, 112, 32, 48, 32, 49, 32, 50, 10, 103, 114, 111, 117, 112, 32, 50, 32, 51, 32, 52, 10, 103, 114, 111, 117, 112, 32, 48, 10, 103, 114, 111, 117, 112, 32, 52, 10, 103, 114, 111, 117, 112, 32, 49, 32, 51, 10]
abbrev bnD : Bytes := [100, 114, 105, 118, 101, 32, 52, 10]
abbrev bnE : Bytes := [100, 114, 105, 118, 101, 32, 48, 10]
def drv (k : Nat) : Bytes := (List.replicate k bnD).flatten
theorem qh6 (k : Nat) : drv (k + 1) = drv k ++ bnD := by
 unfold drv
 rw [List.replicate_succ', List.flatten_append]
 rfl
theorem qho (k : Nat) : (drv k).length = 8 * k := by
 induction k with
 | zero => rfl
 | succ k ih => rw [qh6, List.length_append, ih]; show 8 * k + 8 = _; omega
def bnS : SetM := ⟨5, [[0, 1, 2], [2, 3, 4], [0], [4], [1, 3]], 1048576, 4096, 65536⟩
def bnA : ActM := { act0 with kind := 8, node := 4 }
def bnB : ActM := { act0 with kind := 8 }
def bnM (k : Nat) : ScrM := ⟨bnS, List.replicate k bnA⟩
theorem qeq : maySet bnS = true ∧ mayIn bnS bnA = true ∧ mayIn bnS bnB = true ∧ lineM bnA ++ [10] = bnD ∧ catN (headsM bnS) = bnH ++ bnG := by decide +kernel
theorem qfx (k : Nat) : textM (bnM k) = (bnH ++ bnG) ++ drv k := by
 unfold textM bnM drv
 show catN (headsM bnS ++ (List.replicate k bnA).map lineM) = _
 have : ∀ a b : List Bytes, catN (a ++ b) = catN a ++ catN b := fun a b => by simp [catN]
 rw [this, qeq.2.2.2.2]
 congr 1
 unfold catN
 rw [List.flatMap_def, List.map_map, List.map_replicate]
 congr 2
 exact qeq.2.2.2.1
theorem bn_acts (k : Nat) : ∀ a ∈ (bnM k).acts, mayIn bnS a = true := fun a ha => by
 rw [show a = bnA from List.eq_of_mem_replicate ha]
 exact qeq.2.1
theorem qhR {k : Nat} (hk : k ≤ 65536) : checkM (bnM k) = (0, 0) := (qc3 _).2 ⟨qeq.1, bn_acts k, by show (List.replicate k bnA).length ≤ 65536; rw [List.length_replicate]; exact hk⟩
theorem bn_len (k : Nat) : (textM (bnM k)).length = 77 + 8 * k := by
 rw [qfx, List.length_append, qho, show (bnH ++ bnG).length = 77 by decide +kernel]
theorem bn_parse {k : Nat} (hk : k ≤ 65536) : parseP ((bnH ++ bnG) ++ drv k) = (bnM k, 0, 0) := by
 have h := qhR hk
 obtain ⟨n, hn⟩ := (qb3 (textM (bnM k)) (bnM k)).2 ⟨h, rfl, by rw [bn_len]; omega⟩
 rw [← qfx, hn, qgO hn]
theorem bn_more {s : ScrM} (h1 : s.setup = bnS) (h2 : ∀ a ∈ s.acts, mayIn bnS a = true) (h3 : 65536 < s.acts.length) : checkM s = (0, 3) := by
 unfold checkM
 rw [h1, if_pos qeq.1]
 have hf : s.acts.findIdx? (fun a => !mayIn bnS a) = none := List.findIdx?_eq_none_iff.2 fun a ha => by rw [h2 a ha]; rfl
 rw [hf]
 exact if_pos h3
theorem bn_long {t : Bytes} (h : 1048576 < t.length) : parseP t = (scr0, 0, 3) := by
 unfold parseP parseW
 rw [if_pos h]
abbrev bnW0 : Bytes := [115, 101, 116, 117, 112, 32, 53, 32, 49, 48, 52, 56, 53, 55, 54, 32, 52, 48, 57, 54, 32, 54, 53, 53, 51, 54, 10, 103, 114, 111, 117, 112, 32, 48, 32, 49, 32, 50, 10, 103, 114, 111, 117, 112, 32, 50, 32, 51, 32, 52, 10, 103, 114, 111, 117, 112, 32, 48, 10, 103, 114, 111, 117, 112, 32, 52, 10, 103, 114, 111, 117, 112, 32, 49, 32, 51, 10, 103, 114, 111, 117, 112, 32, 48, 10]
theorem bnW0_read : (parseP bnW0).2 = (6, 4) ∧ (parseP bnW0).1.acts.length = 0 := by decide +kernel
abbrev bnW1 : Bytes := [115, 101, 116, 117, 112, 32, 53, 32, 49, 48, 52, 56, 53, 55, 54, 32, 52, 48, 57, 54, 32, 54, 53, 53, 51, 54, 10, 103, 114, 111, 117, 112, 32, 48, 32, 49, 32, 50, 32, 51, 10]
theorem bnW1_read : (parseP bnW1).2 = (1, 4) ∧ (parseP bnW1).1.acts.length = 0 := by decide +kernel
abbrev bnW2 : Bytes := [115, 101, 116, 117, 112, 32, 53, 32, 49, 48, 52, 56, 53, 55, 54, 32, 52, 48, 57, 54, 32, 54, 53, 53, 51, 54, 10, 103, 114, 111, 117, 112, 32, 49, 32, 48, 10]
theorem bnW2_read : (parseP bnW2).2 = (1, 4) ∧ (parseP bnW2).1.acts.length = 0 := by decide +kernel
abbrev bnW3 : Bytes := [115, 101, 116, 117, 112, 32, 53, 32, 49, 48, 52, 56, 53, 55, 54, 32, 52, 48, 57, 54, 32, 54, 53, 53, 51, 54, 10, 103, 114, 111, 117, 112, 32, 53, 10]
theorem bnW3_read : (parseP bnW3).2 = (1, 4) ∧ (parseP bnW3).1.acts.length = 0 := by decide +kernel
abbrev bnW4 : Bytes := [115, 101, 116, 117, 112, 32, 53, 32, 49, 48, 52, 56, 53, 55, 54, 32, 52, 48, 57, 54, 32, 54, 53, 53, 51, 54, 10, 103, 114, 111, 117, 112, 10]
theorem bnW4_read : (parseP bnW4).2 = (1, 4) ∧ (parseP bnW4).1.acts.length = 0 := by decide +kernel
abbrev bnW5 : Bytes := []
theorem bnW5_read : (parseP bnW5).2 = (0, 4) ∧ (parseP bnW5).1.acts.length = 0 := by decide +kernel
abbrev bnW6 : Bytes := [10]
theorem bnW6_read : (parseP bnW6).2 = (0, 4) ∧ (parseP bnW6).1.acts.length = 0 := by decide +kernel
abbrev bnW7 : Bytes := [115, 101, 116, 117, 112, 32, 53, 32, 49, 48, 52, 56, 53, 55, 54, 32, 52, 48, 57, 54, 32, 54, 53, 53, 51, 54, 10, 115, 101, 116, 117, 112, 32, 53, 32, 49, 48, 52, 56, 53, 55, 54, 32, 52, 48, 57, 54, 32, 54, 53, 53, 51, 54, 10]
theorem bnW7_read : (parseP bnW7).2 = (1, 4) ∧ (parseP bnW7).1.acts.length = 0 := by decide +kernel
abbrev bnW8 : Bytes := [115, 101, 116, 117, 112, 32, 53, 32, 49, 48, 52, 56, 53, 55, 54, 32, 52, 48, 57, 54, 32, 54, 53, 53, 51, 54, 10, 100, 114, 105, 118, 101, 32, 48, 10]
theorem bnW8_read : (parseP bnW8).2 = (1, 4) ∧ (parseP bnW8).1.acts.length = 0 := by decide +kernel
abbrev bnW9 : Bytes := [115, 101, 116, 117, 112, 32, 53, 32, 49, 48, 52, 56, 53, 55, 54, 32, 52, 48, 57, 54, 32, 54, 53, 53, 51, 54, 10, 103, 114, 111, 117, 112, 32, 48, 10, 100, 114, 105, 118, 101, 32, 48, 10]
theorem bnW9_read : (parseP bnW9).2 = (2, 4) ∧ (parseP bnW9).1.acts.length = 0 := by decide +kernel
abbrev bnW10 : Bytes := [115, 101, 116, 117, 112, 32, 53, 32, 49, 48, 52, 56, 53, 55, 54, 32, 52, 48, 57, 54, 32, 54, 53, 53, 51, 54, 10, 103, 114, 111, 117, 112, 32, 48, 32, 49, 32, 50, 10, 103, 114, 111, 117, 112, 32, 50, 32, 51, 32, 52, 10, 103, 114, 111, 117, 112, 32, 48, 10, 103, 114, 111, 117, 112, 32, 52, 10, 103, 114, 111, 117, 112, 32, 49, 32, 51, 10, 100, 114, 105, 118, 101, 32, 48, 10, 103, 114, 111, 117, 112, 32, 48, 10]
theorem bnW10_read : (parseP bnW10).2 = (7, 4) ∧ (parseP bnW10).1.acts.length = 0 := by decide +kernel
abbrev bnW11 : Bytes := [115, 101, 116, 117, 112, 32, 53, 32, 49, 48, 52, 56, 53, 55, 54, 32, 52, 48, 57, 54, 32, 54, 53, 53, 51, 54, 10, 103, 114, 111, 117, 112, 32, 48, 32, 49, 32, 50, 10, 103, 114, 111, 117, 112, 32, 50, 32, 51, 32, 52, 10, 103, 114, 111, 117, 112, 32, 48, 10, 103, 114, 111, 117, 112, 32, 52, 10, 103, 114, 111, 117, 112, 32, 49, 32, 51, 10, 100, 114, 105, 118, 101, 32, 48]
theorem bnW11_read : (parseP bnW11).2 = (6, 4) ∧ (parseP bnW11).1.acts.length = 0 := by decide +kernel
abbrev bnW12 : Bytes := [115, 101, 116, 117, 112, 32, 54, 32, 49, 48, 50, 52, 32, 54, 52, 32, 50, 53, 54, 10]
theorem bnW12_read : (parseP bnW12).2 = (0, 4) ∧ (parseP bnW12).1.acts.length = 0 := by decide +kernel
abbrev bnW13 : Bytes := [115, 101, 116, 117, 112, 32, 49, 32, 49, 48, 50, 51, 32, 54, 52, 32, 50, 53, 54, 10]
theorem bnW13_read : (parseP bnW13).2 = (0, 4) ∧ (parseP bnW13).1.acts.length = 0 := by decide +kernel
abbrev bnW14 : Bytes := [115, 101, 116, 117, 112, 32, 49, 32, 49, 48, 50, 52, 32, 54, 52, 32, 54, 53, 53, 51, 55, 10]
theorem bnW14_read : (parseP bnW14).2 = (0, 4) ∧ (parseP bnW14).1.acts.length = 0 := by decide +kernel
abbrev bnW15 : Bytes := [115, 101, 116, 117, 112, 32, 49, 32, 49, 48, 50, 52, 32, 52, 48, 57, 55, 32, 50, 53, 54, 10]
theorem bnW15_read : (parseP bnW15).2 = (0, 4) ∧ (parseP bnW15).1.acts.length = 0 := by decide +kernel
abbrev bnTil : Bytes := [112, 108, 97, 110, 32, 48, 32, 115, 112, 108, 105, 116, 32, 126, 37, 55, 70]
def bnP : ActM := { act0 with kind := 9, cmd := { cmd0 with kind := 6, key := [126, 127] } }
theorem qhP : mayAct 5 5 bnP = true ∧ lineM bnP = bnTil := by decide +kernel
abbrev bnX : Bytes := [100, 114, 105, 118, 101, 32, 48, 32]
abbrev bnY : Bytes := [97, 115, 107, 32, 49, 32, 48, 32, 49, 32, 103, 101, 116, 32, 37, 52, 49]
theorem bnX_act : unlineP bnX = none := by decide +kernel
theorem bnY_act : unlineP bnY = none := by decide +kernel
theorem bn_fullK (k : Nat) (hk : k = 65536) : (parseP (((bnH ++ bnG) ++ drv k) ++ bnE)).2 = (65542, 4) ∧ (parseP (((bnH ++ bnG) ++ drv k) ++ bnE)).1.acts.length = 0 := by
 have hc : ∀ a b : List Bytes, catN (a ++ b) = catN a ++ catN b := fun a b => by simp [catN]
 have hdrop : ((bnH ++ bnG) ++ drv k) ++ bnE = catN ((headsM bnS ++ (List.replicate k bnA).map lineM) ++ [lineM bnB]) ++ [] := by
  have h1 : catN (headsM bnS ++ (List.replicate k bnA).map lineM) = (bnH ++ bnG) ++ drv k := qfx k
  rw [hc, h1, List.append_nil, show catN [lineM bnB] = bnE by decide +kernel]
 have hno : ∀ x ∈ (headsM bnS ++ (List.replicate k bnA).map lineM) ++ [lineM bnB], noN x = true := by
  intro x hx
  rcases List.mem_append.1 hx with hx | hx
  ·
   rcases List.mem_append.1 hx with hx | hx
   ·
    unfold headsM at hx
    rcases List.mem_cons.1 hx with rfl | hx
    ·
     exact qgf _
    ·
     obtain ⟨g, _, rfl⟩ := List.mem_map.1 hx
     exact qfT g
   ·
    obtain ⟨a, ha, rfl⟩ := List.mem_map.1 hx
    rw [List.eq_of_mem_replicate ha]
    decide +kernel
  ·
   rw [List.mem_singleton.1 hx]
   decide +kernel
 have hl0 : (bnH ++ bnG).length = 77 := by decide +kernel
 have hlE : bnE.length = 8 := by decide +kernel
 have hlen : ¬ 1048576 < (((bnH ++ bnG) ++ drv k) ++ bnE).length := by
  rw [List.length_append, List.length_append, qho, hl0, hlE]
  omega
 generalize ((bnH ++ bnG) ++ drv k) ++ bnE = t at hdrop hlen
 have hsp : splitN t = (firstL bnS :: ((bnS.groups.map groupL ++ (List.replicate k bnA).map lineM) ++ [lineM bnB]), []) := by
  rw [hdrop]
  exact qeb hno rfl
 have hf : firstP (firstL bnS) = ({ bnS with groups := [] }, true) := by decide +kernel
 have hg := qcj bnS.groups 1 (u := { bnS with groups := [] }) (by decide) (by decide +kernel) (by decide)
 have ha := qcQ (List.replicate k bnA) 6 (s := ⟨bnS, []⟩) (by decide) (fun a ha => by rw [List.eq_of_mem_replicate ha]; exact qeq.2.1) (by rw [List.length_replicate]; show 0 + k ≤ 65536; omega)
 rw [List.length_replicate] at ha
 have hlast : layP ⟨bnS, [] ++ List.replicate k bnA⟩ (lineM bnB) = none := by
  have h1 : (membersP (lineM bnB)).2 = false := by decide +kernel
  have h2 : unlineP (lineM bnB) = some bnB := (qbY _ _).2 (by decide +kernel)
  unfold layP
  rw [h1, h2, if_neg Bool.false_ne_true]
  refine if_neg fun e => ?_
  have : ([] ++ List.replicate k bnA).length < 65536 := e.2
  rw [List.nil_append, List.length_replicate] at this
  omega
 have hl : layAll layP ⟨{ bnS with groups := [] }, []⟩ 1 ((bnS.groups.map groupL ++ (List.replicate k bnA).map lineM) ++ [lineM bnB]) = (none, 6 + k) := by
  rw [List.append_assoc, qbz layP _ _ _ hg]
  show layAll layP ⟨bnS, []⟩ 6 ((List.replicate k bnA).map lineM ++ [lineM bnB]) = _
  rw [qbz layP _ _ _ ha, layAll]
  show (match layP ⟨bnS, [] ++ List.replicate k bnA⟩ (lineM bnB) with | some t => layAll layP t (6 + k + 1) [] | none => (none, 6 + k)) = _
  rw [hlast]
 have hp : parseP t = (scr0, ((6 + k : Nat) : Int), 4) := by
  unfold parseP parseW
  rw [if_neg hlen, hsp]
  simp only [hf, hl, if_true]
 rw [hp]
 refine ⟨?_, rfl⟩
 show (((6 + k : Nat) : Int), (4 : Int)) = _
 rw [hk]
 rfl
end Go.Pln
/- . -/
namespace Go.Proofs.YtigmojilaadbhaaGreatDoor
open Go Go.Eng Go.Pln
open Go.Lib hiding splitN
attribute [local irreducible] AWp AL DAL AOp TAL
section
variable {ρ : Operand → Value} {h : Heap} {K : Value → Heap → Prop} {dst : Option Tmp} {ty : TypeId} {pos : String} {aft : Array Edge} {g : Option (Nat × Bool)}
theorem qbu {t t' : TypeId} {x y : Operand} {a b : Bytes} {P : Program} (c : Bytes) (hc : a ++ b = c) (hl : c.length ≤ maxLen) (hx : ρ x = .string (bstr a)) (hy : ρ y = .string (bstr b)) (kk : K (.string (bstr c)) h) : AOp P ⟨dst, .binOp .add t x y t', ty, pos, aft, g⟩ ρ h K := by
 subst hc
 exact qcr hx hy (by rw [List.length_append] at hl; exact hl) kk
end
theorem bn_grow {B Bg j : Nat} {h : Heap} {vg va : Value} {s : ScrM} {a : ActM} (hj : h.get j = some (scrB vg va s.setup)) (g2 : GO Bg h vg s.setup.groups) (g3 : AO B h va s.acts) (ha : ActO 0 h actV0 a) (hak : a.keep.length ≤ 1000)
  {u' : Value} {h' : Heap} {rows : List (List Value)} (hr : rows.length = s.acts.length) (hrw : ∀ (k : Nat) row a, rows[k]? = some row → s.acts[k]? = some a → ∃ q, row = actC q a ∧ ∃ B', ActO B' h q a)
  (o5 : ON B 33 h' 40 u' (rows ++ [actC actV0 a])) (p5 : ∀ j b, h.get j = some b → (j < B ∨ b.elem ≠ 40) → h'.get j = some b) :
  RG (h'.set j (scrB vg u' s.setup)) vg s.setup.groups ∧ RA (h'.set j (scrB vg u' s.setup)) u' (s.acts ++ [a]) := by
 have e5 := p5 _ _ hj (.inr qcn.2.2.1)
 have al := g3.len
 refine ⟨((g2.pres fun j b hj he => p5 j b hj (.inr (by rcases he with he | he <;> rw [he] <;> decide))).set e5 rfl).rg, ⟨rows ++ [actC actV0 a], ?_, by simp [hr], fun k row x e1 e2 => ?_⟩, by rw [List.length_append, List.length_cons, List.length_nil]; omega⟩
 ·
  have o6 : ON B 33 (h'.set j (scrB vg u' s.setup)) 40 u' (rows ++ [actC actV0 a]) := ⟨o5.len, o5.at_.imp id fun ⟨i, c, q1, q2, q3⟩ => ⟨i, c, q1, q2, qcC e5 qcn.2.2.1 _ _ q3 rfl⟩⟩
  exact o6.rn
 ·
  have key : ∀ (q : ActV) (y : ActM) (B' : Nat), ActO B' h q y → y.keep.length ≤ 1000 → ActR (h'.set j (scrB vg u' s.setup)) q y := fun q y B' o hl => ActO.r ((o.elem (fun j b hj he => p5 j b hj (.inr (by rw [he]; decide))) (fun j b hj he => p5 j b hj (.inr (by rw [he]; decide)))).elem (qcC e5 qcn.2.2.2.1) (qcC e5 qcn.2.2.2.2)) (by omega)
  rcases Nat.lt_or_ge k rows.length with hk | hk
  ·
   rw [List.getElem?_append_left hk] at e1
   rw [List.getElem?_append_left (by omega)] at e2
   obtain ⟨q, er, B', h4⟩ := hrw k row x e1 e2
   exact ⟨q, er, key q x B' h4 (g3.all x (List.mem_of_getElem? e2))⟩
  ·
   rw [List.getElem?_append_right hk] at e1
   rw [List.getElem?_append_right (by omega)] at e2
   have hk0 : k - rows.length = 0 := by
    have := (List.getElem?_eq_some_iff.1 e1).1
    simp at this; omega
   rw [hk0] at e1
   rw [show k - s.acts.length = 0 by omega] at e2
   simp at e1 e2
   subst e1 e2
   exact ⟨actV0, rfl, key _ _ _ ha hak⟩
theorem bn_cat0 : (bnH ++ bnG) ++ ([103, 114, 111, 117, 112, 32, 48, 10] : Bytes) = bnW0 := by decide +kernel
theorem bn_cat2 : bnH ++ ([103, 114, 111, 117, 112, 32, 48, 32, 49, 32, 50, 32, 51, 10] : Bytes) = bnW1 := by decide +kernel
theorem bn_cat3 : bnH ++ ([103, 114, 111, 117, 112, 32, 49, 32, 48, 10] : Bytes) = bnW2 := by decide +kernel
theorem bn_cat4 : bnH ++ ([103, 114, 111, 117, 112, 32, 53, 10] : Bytes) = bnW3 := by decide +kernel
theorem bn_cat5 : bnH ++ ([103, 114, 111, 117, 112, 10] : Bytes) = bnW4 := by decide +kernel
theorem bn_cat7 : bnH ++ bnH = bnW7 := by decide +kernel
theorem bn_cat8 : bnH ++ bnE = bnW8 := by decide +kernel
theorem bn_cat9 : bnH ++ ([103, 114, 111, 117, 112, 32, 48, 10, 100, 114, 105, 118, 101, 32, 48, 10] : Bytes) = bnW9 := by decide +kernel
theorem bn_cat10 : (bnH ++ bnG) ++ ([100, 114, 105, 118, 101, 32, 48, 10, 103, 114, 111, 117, 112, 32, 48, 10] : Bytes) = bnW10 := by decide +kernel
theorem bn_cat11 : (bnH ++ bnG) ++ ([100, 114, 105, 118, 101, 32, 48] : Bytes) = bnW11 := by decide +kernel
theorem qhd (h : Heap) (t : Tabs h) (h8 : 8 ≤ h.next) : ACalls Tryz.prog 11 [] h fun u h' => u = .bool true ∧ h' = h := by
 refine ACalls.wf fun wf => ACalls.reset ?_
 refine ACalls.body Tryz.func11 rfl rfl ?_
 have hF0 : (bnH ++ bnG).length = 77 := by decide +kernel
 repeat (first | refine W.w ?_ | (refine zz rfl ?_; first | refine qal rfl ?_ | refine qac rfl ?_ | refine qbl rfl ?_ | refine qaa rfl ?_ | refine qah rfl ?_ | refine qbu (a := bnH) (b := bnG) (bnH ++ bnG) rfl (by rw [hF0]; decide) rfl rfl ?_))
 refine AWp.loop (α := Nat × Heap × Value) (fun d => [(1, str bnH), (2, str (bnH ++ bnG)), (3, d.2.2), (4, .int .i64 (d.1 : Nat))]) (fun d => d.2.1) (fun d => d.1 ≤ 65536 ∧ Gr h 5 (bv (drv d.1)) d.2.1 d.2.2) (fun d => 65536 - d.1) (0, h, .slice none 0 0) ⟨Nat.zero_le _, Gr.nil wf _⟩
  (Weak.same (EW.cons rfl (EW.cons rfl (EW.cons rfl (EW.cons rfl EW.nil))))) ?_
 rintro ⟨i, H, b⟩ ⟨hi, gb⟩
 replace hi : i ≤ 65536 := hi
 replace gb : Gr h 5 (bv (drv i)) H b := gb
 show AWp _ _ _ _ [(1, str bnH), (2, str (bnH ++ bnG)), (3, b), (4, .int .i64 (i : Nat))] H
 have hdl := qho i
 obtain ⟨ba, bc, hb⟩ := RS.slice gb.os.rs
 by_cases hlt : i < 65536
 ·
  repeat (first | refine W.w ?_ | refine AWp.c8 rfl ?_ | (refine zz rfl ?_; first | refine qad rfl ?_ | refine qaj rfl rfl rfl (by omega) ?_ | refine qan (v := b) rfl ?_))
  refine zz rfl (qbj (z := .int .u8 0) (B := h.next) (e := 5) rfl gb.wf gb.nx gb.os rfl rfl (bs_src _ bnD) (qaH bnD) (qdS bnD) (by rw [qaH, hdl]; simp only [maxLen, List.length_cons, List.length_nil]; omega) (by rw [qaH, hdl]; simp only [List.length_cons, List.length_nil]; omega) ?_)
  intro b2 K2 o2 k2 w2 n2
  have g2 : Gr h 5 (bv (drv i) ++ bv bnD) K2 b2 := ⟨o2, k2.ext gb.os wf (Nat.le_refl _) gb.ext, w2, Nat.le_trans gb.nx n2⟩
  have hst : bv (drv (i + 1)) = bv (drv i) ++ bv bnD := by rw [qh6]; simp [bv]
  repeat (first | refine W.w ?_ | (refine zz rfl ?_; first | refine qad rfl ?_ | refine qac rfl ?_ | refine qaq (v := b2) rfl ?_ | refine qav rfl rfl (by omega) ?_))
  exact ⟨(i + 1, K2, b2), ⟨hlt, by rw [hst]; exact g2⟩, by show 65536 - (i + 1) < 65536 - i; omega, Weak.same (EW.cons rfl (EW.cons rfl (EW.cons rfl (EW.cons rfl EW.nil))))⟩
 ·
  have hi2 : i = 65536 := by omega
  have hp := bn_parse (k := i) (by omega)
  have hck := qhR (k := i) (by omega)
  have htx := qfx i
  have hfull := bn_fullK i hi2
  have hal : (bnM i).acts.length = 65536 := by show (List.replicate i bnA).length = _; rw [List.length_replicate, hi2]
  have hse : (bnM i).setup = bnS := rfl
  have hac := bn_acts i
  have rb : RB H b (drv i) := gb.os.rs
  have gos := gb.os
  have xH := gb.ext
  have wH := gb.wf
  have nH : 8 ≤ H.next := Nat.le_trans h8 gb.nx
  generalize hS : bnM i = S at hp hck htx hal hse hac
  generalize drv i = T at hp htx hfull rb hdl gos
  generalize hF : bnH ++ bnG = F at hp htx hfull hF0 ⊢
  clear hS
  have hlFT : (F ++ T).length = 524365 := by rw [List.length_append, hF0, hdl, hi2]
  have htV : textV S = .tuple #[str (F ++ T), .int .i64 0] := by unfold textV; rw [hck, if_pos rfl, if_neg (by rw [htx, hlFT]; decide), htx]
  have tH := t.ext xH
  obtain ⟨ba, bc, hbs⟩ := RS.slice rb
  have cP := (qif (F ++ T) H tH nH (by rw [hlFT]; decide)).wf_post
  unfold PaOk2 at cP
  rw [hp] at cP
  repeat (first | refine AL.nil ?_ | refine AWp.seq ?_ | refine AWp.r9 ?_ | refine AWp.c9 rfl ?_ | refine AWp.exit ?_ | (refine zz rfl ?_; first | refine qad rfl ?_ | refine qal rfl ?_ | refine qak rfl rfl rfl (by omega) ?_ | refine qan (v := b) rfl ?_ | refine qam rb rfl ?_ | refine qbu (a := F) (b := T) (F ++ T) rfl (by rw [hlFT]; decide) rfl rfl ?_))
  refine zz rfl (qao (evs := [str (F ++ T)]) rfl rfl (cP.mono ?_))
  rintro _ K1 ⟨⟨B1, vg, va, rfl, o1, a1, y1, hB⟩, v1, m1⟩
  replace o1 : GO B1 K1 vg S.setup.groups := o1
  replace a1 : AO B1 K1 va S.acts := a1
  have e1 := qb9 o1.one a1.one S.setup
  repeat (first | (refine zz rfl ?_; first | refine qaz rfl ?_ | refine qar rfl rfl ?_ | refine qat ?_))
  refine AL.eff rfl (qaC (vs := scrC vg va S.setup) rfl rfl rfl rfl e1 ?_)
  refine AL.heap (h := K1.alloc (scrB vg va S.setup)) rfl ?_
  have g1 := Heap.alloc_new K1 (scrB vg va S.setup)
  have z1 := v1.ext (scrB vg va S.setup)
  have w1 := v1.alloc (scrB vg va S.setup)
  have n1 : (K1.alloc (scrB vg va S.setup)).next = K1.next + 1 := rfl
  have x1 := xH.trans (y1.trans z1)
  have rb1 := rb.ext (y1.trans z1)
  generalize hj : K1.next = j at g1 n1 ⊢
  generalize K1.alloc (scrB vg va S.setup) = G at g1 z1 w1 n1 x1 rb1 ⊢
  have n8 : 8 ≤ G.next := by omega
  have og := o1.pres fun j b hj _ => z1.c j b hj
  have ag := a1.pres fun j b hj _ => z1.c j b hj
  obtain ⟨rows, d1, d2, d3⟩ := ag.ex
  have c0 := qbV 0 G
  have gl := og.len
  obtain ⟨gvs, gr1, gr2, gr3⟩ := og.ex
  have hg5 : S.setup.groups.length = 5 := by rw [hse]; decide
  have cT := qdZ S vg va G (t.ext x1) og.rg ag.ra
  rw [htV] at cT
  repeat (first | refine W.w ?_ | refine AWp.c9 rfl ?_ | (refine zz rfl ?_; first | refine qad rfl ?_ | refine qag rfl ?_ | refine qaz rfl ?_ | refine qac rfl ?_ | refine qah rfl ?_ | refine qab rfl rfl c0 ?_ | refine qak rfl rfl rfl (by omega) ?_ | refine qai (v := .bool _) rfl rfl ?_ | refine qap rfl ?_ | refine qae rfl rfl g1 rfl ?_ | refine qau d1.rn rfl ?_ | refine qaE gr1.rs rfl ?_ | refine qaf (sz := 6) rfl rfl g1 (Nat.le_refl _) ?_ | refine qab rfl rfl cT ?_ | refine qar rfl rfl ?_ | refine qay (out := actC actV0 bnB) rfl rfl ?_ | refine qbe rfl rfl rfl ?_))
  refine zz rfl (qfy (sz := 33) (row := actC actV0 bnB) (by decide) (by decide) rfl rfl ?_)
  obtain ⟨G2, hQ, gr, xr, wr, nr⟩ := aq w1 ⟨actC actV0 bnB, 40, true⟩
  rw [hQ]
  have rbn : RN 33 G2 (.slice (some ⟨G.next, 0, some 33⟩) 1 1) [actC actV0 bnB] := RN.row1 rfl gr
  have d14 := d1.ext xr
  have hB1 : B1 ≤ G2.next := by
   rcases d1.at_ with ⟨_, e⟩ | ⟨i, c, q1, _, q3⟩
   ·
    rw [e] at d2; simp only [List.length_nil] at d2; omega
   ·
    have := w1.lt q3; omega
  refine zz rfl (qdl (m := 1) (B := B1) (e := 40) (news := [actC actV0 bnB]) rfl wr hB1 d14 rfl rfl rbn.src rfl (by intro w hw; rw [List.mem_singleton.1 hw]; rfl) (by decide) (by rw [d2]; simp only [maxLen]; omega) (by rw [d2]; omega) ?_)
  intro u' G3 o5 _ k5 wf5 n5
  have p5 := qfE k5 d14
  have e5 := p5 _ _ (xr.c _ _ g1) (.inr qcn.2.2.1)
  have r5 := OS.elem (OS.elem gos fun j b hj _ => (y1.trans (z1.trans xr)).c j b hj) fun j b hj he => p5 j b hj (.inr (by rw [he]; decide))
  repeat (first | refine W.w ?_ | refine zz rfl (qap rfl ?_) | refine AL.eff rfl (qaP (b := scrB vg va S.setup) rfl rfl o5.one e5 rfl (by exact Nat.le_of_ble_eq_true rfl) ?_))
  obtain ⟨rg4, ra4⟩ := bn_grow (xr.c _ _ g1) (og.pres fun j b hj _ => xr.c j b hj) (ag.pres fun j b hj _ => xr.c j b hj) (ActO.nil 0 _ bnB rfl rfl rfl) (Nat.zero_le _) d2
   (fun k row a h1 h2 => by obtain ⟨q, er, B', h4⟩ := d3 k row a h1 h2; exact ⟨q, er, B', h4.ext xr⟩) o5 p5
  have hx4 : Ext h (G3.set j (scrB vg u' S.setup)) := by
   have hjn : h.next ≤ j := by have := gb.nx; omega
   exact wf.ext_set ((Kp2.act (i := j) k5 d14 n5).over wf (by have := gb.nx; omega) hjn (x1.trans xr)) hjn _
  have rb4 : RB (G3.set j (scrB vg u' S.setup)) b T := (OS.elem r5 (qcC e5 (show (44 : TypeId) ≠ 5 by decide))).rs
  have g4 := Heap.set_at G3 j (scrB vg u' S.setup)
  have w4 : WF (G3.set j (scrB vg u' S.setup)) := wf5.set (wf5.lt e5) _
  have n4 : 8 ≤ (G3.set j (scrB vg u' S.setup)).next := by show 8 ≤ G3.next; omega
  refine AL.heap (h := G3.set j (scrB vg u' S.setup)) rfl ?_
  generalize G3.set j (scrB vg u' S.setup) = Z at rg4 ra4 hx4 rb4 g4 w4 n4 ⊢
  have hmk := bn_more (s := ⟨S.setup, S.acts ++ [bnB]⟩) hse (fun a ha => by
   rcases List.mem_append.1 ha with ha | ha
   ·
    exact hac a ha
   ·
    rw [List.mem_singleton.1 ha]; exact qeq.2.2.1) (by show 65536 < (S.acts ++ [bnB]).length; rw [List.length_append, hal]; decide)
  have cC := check_c ⟨S.setup, S.acts ++ [bnB]⟩ vg u' Z rg4 ra4
  have cU := qdZ ⟨S.setup, S.acts ++ [bnB]⟩ vg u' Z (t.ext hx4) rg4 ra4
  rw [show textV ⟨S.setup, S.acts ++ [bnB]⟩ = .tuple #[str [], .int .i64 3] by unfold textV; rw [hmk]; rfl] at cU
  rw [hmk] at cC
  repeat (first | refine W.w ?_ | (refine zz rfl ?_; first | refine qaz rfl ?_ | refine qac rfl ?_ | refine qah rfl ?_ | refine qaf (sz := 6) rfl rfl g4 (Nat.le_refl _) ?_ | refine qab rfl rfl cC ?_ | refine qab rfl rfl cU ?_ | refine qar rfl rfl ?_))
  refine zz rfl (op_make rfl rfl (by decide) (by decide) (by decide) (by decide) rfl ?_)
  obtain ⟨n, hn⟩ : ∃ n, n = (1048577 : Int).toNat := ⟨_, rfl⟩
  rw [← hn]
  replace hn : n = 1048577 := hn
  obtain ⟨Z2, hQ, gz, xz, wz, nz⟩ := aq w4 ⟨List.replicate n (.int .u8 0), 5, true⟩
  rw [hQ]
  have rz : RB Z2 (.slice (some ⟨Z.next, 0, some 1⟩) n n) (List.replicate n 0) := by
   have : bv (List.replicate n 0) = List.replicate n (.int .u8 0) := by simp [bv]
   unfold RB
   rw [this]
   exact RS.own gz List.length_replicate
  have hz : parseP (List.replicate n 0) = (scr0, 0, 3) := bn_long (by rw [List.length_replicate, hn]; decide)
  have hzl : (List.replicate n (0 : UInt8)).length ≤ 100000000 := by rw [List.length_replicate, hn]; decide
  have hx5 := hx4.trans xz
  have cQ := (qem (List.replicate n 0) Z2 (t.ext hx5) (by omega) hzl).wf_post
  unfold PaOk at cQ
  rw [hz] at cQ
  generalize List.replicate n (0 : UInt8) = zs at rz cQ
  repeat (first | refine zz rfl (qam rz rfl ?_))
  refine zz rfl (qao (evs := [str zs]) rfl rfl (cQ.mono ?_))
  rintro _ K6 ⟨⟨B6, vg6, va6, rfl, o6, a6, y6⟩, v6, m6⟩
  have e6 := qb9 o6.one a6.one scr0.setup
  repeat (first | (refine zz rfl ?_; first | refine qaz rfl ?_ | refine qar rfl rfl ?_ | refine qat ?_))
  refine AL.eff rfl (qaC (vs := scrC vg6 va6 scr0.setup) rfl rfl rfl rfl e6 ?_)
  refine AL.heap (h := K6.alloc (scrB vg6 va6 scr0.setup)) rfl ?_
  have z6 := v6.ext (scrB vg6 va6 scr0.setup)
  have w6 := v6.alloc (scrB vg6 va6 scr0.setup)
  have n6 : (K6.alloc (scrB vg6 va6 scr0.setup)).next = K6.next + 1 := rfl
  have x6 := hx5.trans (y6.trans z6)
  have rb6 := rb4.ext (xz.trans (y6.trans z6))
  generalize K6.alloc (scrB vg6 va6 scr0.setup) = Y at z6 w6 n6 x6 rb6 ⊢
  have n8Y : 8 ≤ Y.next := by omega
  have tY := t.ext x6
  clear rg4 ra4 hx4 g4 w4 r5 o5 p5 k5 d14 d1 d2 d3 og ag o1 a1 cP cC cU cQ cT rz
  refine AL.drop (env0 := [(1, str bnH), (2, str F), (3, b), (8, str (F ++ T)), (9, .int .i64 0), (11, .int .i64 3), (13, .int .i64 3), (88, .int .i64 0), (89, .int .i64 3)]) (EW.cons rfl (EW.cons rfl (EW.cons rfl (EW.cons rfl (EW.cons rfl (EW.cons rfl (EW.cons rfl (EW.cons rfl (EW.cons rfl EW.nil))))))))) ?_
  have cW0 := qaY bnW0 6 Y tY n8Y (by decide) bnW0_read
  have cW1 := qaY bnW1 1 Y tY n8Y (by decide) bnW1_read
  have cW2 := qaY bnW2 1 Y tY n8Y (by decide) bnW2_read
  have cW3 := qaY bnW3 1 Y tY n8Y (by decide) bnW3_read
  have cW4 := qaY bnW4 1 Y tY n8Y (by decide) bnW4_read
  have cW5 := qaY bnW5 0 Y tY n8Y (by decide) bnW5_read
  have cW6 := qaY bnW6 0 Y tY n8Y (by decide) bnW6_read
  have cW7 := qaY bnW7 1 Y tY n8Y (by decide) bnW7_read
  have cW8 := qaY bnW8 1 Y tY n8Y (by decide) bnW8_read
  have cW9 := qaY bnW9 2 Y tY n8Y (by decide) bnW9_read
  have cW10 := qaY bnW10 7 Y tY n8Y (by decide) bnW10_read
  have cW11 := qaY bnW11 6 Y tY n8Y (by decide) bnW11_read
  have cW12 := qaY bnW12 0 Y tY n8Y (by decide) bnW12_read
  have cW13 := qaY bnW13 0 Y tY n8Y (by decide) bnW13_read
  have cW14 := qaY bnW14 0 Y tY n8Y (by decide) bnW14_read
  have cW15 := qaY bnW15 0 Y tY n8Y (by decide) bnW15_read
  have cWf := qaY ((F ++ T) ++ bnE) 65542 Y tY n8Y (by rw [List.length_append, hlFT]; decide) hfull
  have bn_cat0F : F ++ ([103, 114, 111, 117, 112, 32, 48, 10] : Bytes) = bnW0 := by rw [← hF]; exact bn_cat0
  have bn_cat10F : F ++ ([100, 114, 105, 118, 101, 32, 48, 10, 103, 114, 111, 117, 112, 32, 48, 10] : Bytes) = bnW10 := by rw [← hF]; exact bn_cat10
  have bn_cat11F : F ++ ([100, 114, 105, 118, 101, 32, 48] : Bytes) = bnW11 := by rw [← hF]; exact bn_cat11
  repeat (first | refine W.w ?_ | (refine zz rfl ?_; first | refine qag rfl ?_ | refine qal rfl ?_ | refine qac rfl ?_ | refine qaa rfl ?_ | refine qan (v := b) rfl ?_ | refine qam rb6 rfl ?_ | refine qbu (a := F) (b := T) (F ++ T) rfl (by rw [hlFT]; decide) rfl rfl ?_ | refine qbu (a := F ++ T) (b := bnE) ((F ++ T) ++ bnE) rfl (by rw [List.length_append, hlFT]; decide) rfl rfl ?_ | refine qbu bnW0 bn_cat0F (by decide) rfl rfl ?_ | refine qbu bnW1 bn_cat2 (by decide) rfl rfl ?_ | refine qbu bnW2 bn_cat3 (by decide) rfl rfl ?_ | refine qbu bnW3 bn_cat4 (by decide) rfl rfl ?_ | refine qbu bnW4 bn_cat5 (by decide) rfl rfl ?_ | refine qab rfl rfl cW0 ?_ | refine qab rfl rfl cWf ?_ | refine qab rfl rfl cW1 ?_ | refine qab rfl rfl cW2 ?_ | refine qab rfl rfl cW3 ?_ | refine qab rfl rfl cW4 ?_ | refine qai (v := .bool _) rfl rfl ?_))
  refine AL.drop (env0 := [(1, str bnH), (2, str F), (3, b), (8, str (F ++ T)), (9, .int .i64 0), (11, .int .i64 3), (13, .int .i64 3), (15, .int .i64 0), (16, .int .i64 3), (17, .bool true)]) (EW.cons rfl (EW.cons rfl (EW.cons rfl (EW.cons rfl (EW.cons rfl (EW.cons rfl (EW.cons rfl (EW.cons rfl (EW.cons rfl (EW.cons rfl EW.nil)))))))))) ?_
  repeat (first | refine W.w ?_ | (refine zz rfl ?_; first | refine qag rfl ?_ | refine qal rfl ?_ | refine qaa rfl ?_ | refine qbu bnW7 bn_cat7 (by decide) rfl rfl ?_ | refine qbu bnW8 bn_cat8 (by decide) rfl rfl ?_ | refine qbu bnW9 bn_cat9 (by decide) rfl rfl ?_ | refine qbu bnW10 bn_cat10F (by decide) rfl rfl ?_ | refine qbu bnW11 bn_cat11F (by decide) rfl rfl ?_ | refine qab rfl rfl cW5 ?_ | refine qab rfl rfl cW6 ?_ | refine qab rfl rfl cW7 ?_ | refine qab rfl rfl cW8 ?_ | refine qab rfl rfl cW9 ?_ | refine qab rfl rfl cW10 ?_ | refine qab rfl rfl cW11 ?_ | refine qab rfl rfl cW12 ?_ | refine qab rfl rfl cW13 ?_ | refine qab rfl rfl cW14 ?_ | refine qab rfl rfl cW15 ?_ | refine qai (v := .bool _) rfl rfl ?_))
  refine AL.drop (env0 := [(1, str bnH), (2, str F), (3, b), (8, str (F ++ T)), (9, .int .i64 0), (11, .int .i64 3), (13, .int .i64 3), (15, .int .i64 0), (16, .int .i64 3), (17, .bool true), (18, .bool true)]) (EW.cons rfl (EW.cons rfl (EW.cons rfl (EW.cons rfl (EW.cons rfl (EW.cons rfl (EW.cons rfl (EW.cons rfl (EW.cons rfl (EW.cons rfl (EW.cons rfl EW.nil))))))))))) ?_
  refine zz rfl (qa0 (bv [126, 127]) rfl rfl rfl rfl (qeh _) ?_)
  refine AL.heap (h := Y.alloc ⟨bv [126, 127], 5, true⟩) rfl ?_
  have g7 := Heap.alloc_new Y ⟨bv [126, 127], 5, true⟩
  have z7 := w6.ext ⟨bv [126, 127], 5, true⟩
  have w7 := w6.alloc ⟨bv [126, 127], 5, true⟩
  have n7 : (Y.alloc ⟨bv [126, 127], 5, true⟩).next = Y.next + 1 := rfl
  have x7 := x6.trans z7
  have rb7 := rb6.ext z7
  have o7 : OS 0 (Y.alloc ⟨bv [126, 127], 5, true⟩) 5 (.slice (some ⟨Y.next, 0, some 1⟩) 2 2) (bv [126, 127]) := OS.new (Nat.zero_le _) rfl
  generalize Y.alloc ⟨bv [126, 127], 5, true⟩ = Y7 at g7 z7 w7 n7 x7 rb7 o7 ⊢
  have cL := qeY ⟨⟨nilS, nilS, nilS, nilS⟩, { cmdV0 with k := .slice (some ⟨Y.next, 0, some 1⟩) 2 2 }, nilS⟩ bnP Y7 (t.ext x7) ⟨AskR.nil _, ⟨AskR.nil _, ⟨RB.nil _, RB.nil _⟩, RE.nil _, RB.nil _, o7.rb⟩, RK.nil _⟩
  rw [show lineV bnP = .tuple #[str bnTil, .int .i64 0] by unfold lineV; rw [if_pos qhP.1, qhP.2]] at cL
  refine zz rfl (qet rfl rfl g7 rfl ?_)
  repeat (first | refine W.w ?_ | (refine zz rfl ?_; first | refine qaz rfl ?_ | refine qac rfl ?_ | refine qah rfl ?_ | refine qay (out := cmdC { cmdV0 with k := .slice (some ⟨Y.next, 0, some 1⟩) 2 2 } bnP.cmd) rfl rfl ?_ | refine qay (out := actC ⟨⟨nilS, nilS, nilS, nilS⟩, { cmdV0 with k := .slice (some ⟨Y.next, 0, some 1⟩) 2 2 }, nilS⟩ bnP) rfl rfl ?_ | refine qab rfl rfl cL ?_ | refine qar rfl rfl ?_))
  have cu8 := (qcb bnX Y7 (t.ext x7) (by omega) (by decide)).wf_post
  rw [show unA bnX = (act0, 4) by unfold unA; rw [bnX_act]] at cu8
  refine zz rfl (qao (evs := [str bnX]) rfl rfl (cu8.mono ?_))
  rintro _ M8 ⟨⟨q8, rfl, ⟨⟨C8, p8⟩, k8⟩, y8⟩, v8, m8⟩
  have e8 := qaG (p8.r k8)
  repeat (first | (refine zz rfl ?_; first | refine qaz rfl ?_ | refine qar rfl rfl ?_ | refine qat ?_))
  refine AL.eff rfl (qaC (vs := actC q8 act0) rfl rfl rfl rfl e8 ?_)
  refine AL.heap (h := M8.alloc ⟨actC q8 act0, 40, true⟩) rfl ?_
  have z8 := v8.ext ⟨actC q8 act0, 40, true⟩
  have w8 := v8.alloc ⟨actC q8 act0, 40, true⟩
  have nx8 : 8 ≤ (M8.alloc ⟨actC q8 act0, 40, true⟩).next := by show 8 ≤ M8.next + 1; omega
  have x8 := x7.trans (y8.trans z8)
  have rb8 := rb7.ext (y8.trans z8)
  generalize M8.alloc ⟨actC q8 act0, 40, true⟩ = L8 at z8 w8 nx8 x8 rb8 ⊢
  repeat (first | refine W.w ?_ | refine zz rfl (qac rfl ?_))
  have cu9 := (qcb bnY L8 (t.ext x8) nx8 (by decide)).wf_post
  rw [show unA bnY = (act0, 4) by unfold unA; rw [bnY_act]] at cu9
  refine zz rfl (qao (evs := [str bnY]) rfl rfl (cu9.mono ?_))
  rintro _ M9 ⟨⟨q9, rfl, ⟨⟨C9, p9⟩, k9⟩, y9⟩, v9, m9⟩
  have e9 := qaG (p9.r k9)
  repeat (first | (refine zz rfl ?_; first | refine qaz rfl ?_ | refine qar rfl rfl ?_ | refine qat ?_))
  refine AL.eff rfl (qaC (vs := actC q9 act0) rfl rfl rfl rfl e9 ?_)
  refine AL.heap (h := M9.alloc ⟨actC q9 act0, 40, true⟩) rfl ?_
  have z9 := v9.ext ⟨actC q9 act0, 40, true⟩
  have w9 := v9.alloc ⟨actC q9 act0, 40, true⟩
  have nx9 : 8 ≤ (M9.alloc ⟨actC q9 act0, 40, true⟩).next := by show 8 ≤ M9.next + 1; omega
  have x9 := x8.trans (y9.trans z9)
  have rb9 := rb8.ext (y9.trans z9)
  generalize M9.alloc ⟨actC q9 act0, 40, true⟩ = L9 at z9 w9 nx9 x9 rb9 ⊢
  have d0 := qbV 0 L9
  have d3 := qbV 3 L9
  have d4 := qbV 4 L9
  have dk := qdI L9 (t.ext x9) nx9
  repeat (first | refine W.w ?_ | (refine zz rfl ?_; first | refine qad rfl ?_ | refine qag rfl ?_ | refine qal rfl ?_ | refine qac rfl ?_ | refine qaa rfl ?_ | refine qan (v := b) rfl ?_ | refine qam rb9 rfl ?_ | refine qbu (a := F) (b := T) (F ++ T) rfl (by rw [hlFT]; decide) rfl rfl ?_ | refine qaV (a := F ++ T) (b := F ++ T) rfl rfl rfl ?_ | refine qab rfl rfl d0 ?_ | refine qab rfl rfl d3 ?_ | refine qab rfl rfl d4 ?_ | refine qab rfl rfl dk ?_ | refine qaj rfl rfl rfl (by omega) ?_ | refine qaV (a := bnTil) (b := bnTil) rfl rfl rfl ?_ | refine qai (v := .bool _) rfl rfl ?_ | refine qav rfl rfl (by omega) ?_))
  exact ⟨_, ResV.tmp rfl, rfl, x9, rfl, rfl⟩
end Go.Proofs.YtigmojilaadbhaaGreatDoor
