/-
  Texts of one claim, merged: 13 parts.
-/
import Derived.Test.YtigmojilaadbhaaGreatDoorMacf
import Derived.Test.YtigmojilaadbhaaGreatDoorRows
import Derived.Test.YtigmojilaadbhaaGreatDoorMaca
import Derived.Test.YtigmojilaadbhaaGreatDoorMace
import Derived.Lib.AppendIntMem
import Derived.Lib.Fields
import Derived.Lib.Bytealg
import Derived.Test.YtigmojilaadbhaaGreatDoorMacc
import Derived.Lib.Overlaps
import Derived.Lib.Builder
import Derived.Lib.UnsafeStr
/-
 Lines: what is written of an act is read avs it, by the program's reader and by the document's.
-/
namespace Go.Pln
open Go Go.Lib

set_option maxRecDepth 2000 in
/-- The program's reader reads what is written. -/
theorem readS_line {nodes groups : Int} (hn : nodes ≤ 2147483648) (hg : groups ≤ 2147483648) {a : ActM} (h : mayAct nodes groups a = true) : readS a.kind (joinW (restW a)) = a := by
 obtain ⟨kind, node, group, client, n, ask, cmd, keep⟩ := a
 unfold mayAct at h
 simp only at h
 split at h
 ·
  rename_i hk
  obtain ⟨h1, h2, h3, h4, e⟩ := of_decide_eq_true h
  have hr : restW ⟨kind, node, group, client, n, ask, cmd, keep⟩ = [itoa node, itoa group] := by
   unfold restW
   simp only
   rw [if_neg (by omega), if_neg (by omega), if_neg (by omega), if_neg (by omega), if_neg (by omega), if_neg (by omega)]
  rw [hr]
  unfold readS
  simp only
  rw [if_neg (by omega), if_neg (by omega), if_neg (by omega), if_neg (by omega), if_neg (by omega), if_neg (by omega)]
  simp only
  rw [qaT (by omega) (by omega)]
  simp only
  rw [qaT (by omega) (by omega)]
  exact e.symm
 split at h
 ·
  rename_i hk
  obtain ⟨h1, h2, e⟩ := of_decide_eq_true h
  have hr : restW ⟨kind, node, group, client, n, ask, cmd, keep⟩ = [itoa n] := by
   unfold restW
   simp only
   rw [if_pos hk]
  rw [hr]
  unfold readS
  simp only
  rw [if_pos hk, qaT h1 h2]
  exact e.symm
 split at h
 ·
  rename_i hk
  obtain ⟨h1, h2, e⟩ := of_decide_eq_true h
  have hr : restW ⟨kind, node, group, client, n, ask, cmd, keep⟩ = [itoa node] := by
   unfold restW
   simp only
   rw [if_neg (by omega), if_pos hk]
  rw [hr]
  unfold readS
  simp only
  rw [if_neg (show ¬ (kind = 3 ∨ kind = 4 ∨ kind = 5) by omega), if_neg (show ¬ (kind = 10 ∨ kind = 11) by omega), if_neg (show ¬ kind = 9 by omega), if_neg (show ¬ kind = 12 by omega), if_pos hk]
  simp only
  rw [qaT (by omega) (by omega)]
  exact e.symm
 split at h
 ·
  rename_i hk
  obtain ⟨h1, h2, h3, e⟩ := of_decide_eq_true h
  have hr : restW ⟨kind, node, group, client, n, ask, cmd, keep⟩ = itoa node :: planW cmd := by
   unfold restW
   simp only
   rw [if_neg (by omega), if_neg (by omega), if_pos hk]
  rw [hr]
  unfold readS
  simp only
  rw [if_neg (show ¬ (kind = 3 ∨ kind = 4 ∨ kind = 5) by omega), if_neg (show ¬ (kind = 10 ∨ kind = 11) by omega), if_pos hk]
  simp only
  rw [qaT (by omega) (by omega)]
  simp only
  rw [planS_join h3]
  exact e.symm
 split at h
 ·
  rename_i hk
  obtain ⟨h1, h2, h3, h4, h5, h6, h7, e⟩ := of_decide_eq_true h
  have hr : restW ⟨kind, node, group, client, n, ask, cmd, keep⟩ = itoa client :: itoa node :: itoa group :: askW ask := by
   unfold restW
   simp only
   rw [if_neg (by omega), if_neg (by omega), if_neg (by omega), if_pos hk]
  rw [hr]
  unfold readS
  simp only
  rw [if_neg (by omega), if_pos (by omega : kind = 10 ∨ kind = 11), if_neg (by omega), if_neg (by omega), if_neg (by omega), if_pos hk]
  rw [qaT (by omega) (by omega)]
  simp only
  rw [qaT (by omega) (by omega)]
  simp only
  rw [qaT (by omega) (by omega)]
  simp only
  rw [askS_join h7]
  exact e.symm
 split at h
 ·
  rename_i hk
  obtain ⟨h1, h2, h3, h4, h5, h6, e⟩ := of_decide_eq_true h
  have hr : restW ⟨kind, node, group, client, n, ask, cmd, keep⟩ = [itoa client, itoa node, itoa group] := by
   unfold restW
   simp only
   rw [if_neg (by omega), if_neg (by omega), if_neg (by omega), if_neg (by omega), if_pos hk]
  rw [hr]
  unfold readS
  simp only
  rw [if_neg (by omega), if_pos (by omega : kind = 10 ∨ kind = 11), if_neg (by omega), if_neg (by omega), if_neg (by omega), if_neg (by omega)]
  rw [qaT (by omega) (by omega)]
  simp only
  rw [qaT (by omega) (by omega)]
  simp only
  rw [qaT (by omega) (by omega)]
  exact e.symm
 split at h
 ·
  rename_i hk
  obtain ⟨h1, h2, h3, h4, e⟩ := of_decide_eq_true h
  have hr : restW ⟨kind, node, group, client, n, ask, cmd, keep⟩ = itoa node :: keepW keep := by
   unfold restW
   simp only
   rw [if_neg (by omega), if_neg (by omega), if_neg (by omega), if_neg (by omega), if_neg (by omega), if_pos hk]
  rw [hr]
  unfold readS
  simp only
  rw [if_neg (show ¬ (kind = 3 ∨ kind = 4 ∨ kind = 5) by omega), if_neg (show ¬ (kind = 10 ∨ kind = 11) by omega), if_neg (show ¬ kind = 9 by omega), if_pos hk]
  simp only
  rw [qaT (by omega) (by omega)]
  simp only
  rw [qeP 129 keep (by omega) h4]
  exact e.symm
 ·
  cases h

def wordsS : Bytes → List Bytes
 | [] => [[]]
 | c :: s => if c = 32 then [] :: wordsS s else match wordsS s with
  | w :: ws => (c :: w) :: ws
  | [] => [[c]]
theorem qfu : ∀ {w : Bytes}, w.all okC = true → wordsS w = [w]
 | [], _ => rfl
 | c :: w, h => by
  simp only [List.all_cons, Bool.and_eq_true] at h
  rw [wordsS, if_neg (ok_nb h.1), qfu h.2]
theorem qf7 : ∀ {w : Bytes} (r : Bytes), w.all okC = true → wordsS (w ++ 32 :: r) = w :: wordsS r
 | [], r, _ => by
  show wordsS (32 :: r) = _
  rw [wordsS, if_pos rfl]
 | c :: w, r, h => by
  simp only [List.all_cons, Bool.and_eq_true] at h
  show wordsS (c :: (w ++ 32 :: r)) = _
  rw [wordsS, if_neg (ok_nb h.1), qf7 r h.2]
theorem qc3 : ∀ {ws : List Bytes}, ws ≠ [] → (∀ w ∈ ws, w.all okC = true) → wordsS (joinW ws) = ws
 | [w], _, h => qfu (h w (by simp))
 | w :: v :: ws, _, h => by
  show wordsS (w ++ 32 :: joinW (v :: ws)) = _
  rw [qf7 _ (h w (by simp)), qc3 (by simp) fun x hx => h x (List.mem_cons_of_mem _ hx)]
def numI (w : List Bytes) (i : Nat) : Int := match w[i]? with
 | some x => numR x
 | none => -1
def wordI (w : List Bytes) (i : Nat) : Option Bytes := match w[i]? with
 | some x => unwordR x
 | none => none
def keepI : Nat → List Bytes → List (Bytes × Int)
 | f + 1, x :: y :: w => (x, numR y) :: keepI f w
 | _, _ => []
def planI (w : List Bytes) : CmdM × Bool :=
 if w.length < 4 then (cmd0, false) else
  let k := wordI w 3
  let c := { cmd0 with key := k.getD [] }
  let x := (w[2]?).getD []
  (if x = wSplit then { c with kind := 6 } else if x = wUnion then { c with kind := 7 } else if x = wMove then { c with kind := 8, group := numI w 4 } else c, k.isSome)
def askI (w : List Bytes) (i : Nat) : AskM × Bool :=
 if w.length ≤ i then (ask0, false) else
  let k := wordI w (i + 1)
  let a := { ask0 with key := k.getD [] }
  let x := (w[i]?).getD []
  if x = wGet then ({ a with kind := 1 }, k.isSome)
  else if x = wDelete then ({ a with kind := 3 }, k.isSome)
  else if x = wPut ∨ x = wFresh ∨ x = wSwap then
   let v := wordI w (i + 2)
   let a2 := { a with kind := if x = wPut then 2 else 4, none := decide (x = wFresh), value := v.getD [] }
   if x = wSwap then ({ a2 with was := (wordI w (i + 3)).getD [] }, k.isSome && v.isSome && (wordI w (i + 3)).isSome) else (a2, k.isSome && v.isSome)
  else if x = wScan then
   let t := wordI w (i + 2)
   ({ a with kind := 5, «to» := t.getD [], most := numI w (i + 3) }, k.isSome && t.isSome)
  else (a, k.isSome)
def readI (k : Int) (w : List Bytes) : ActM × Bool :=
 let a := { act0 with kind := k }
 if k = 3 ∨ k = 4 ∨ k = 5 then ({ a with n := numI w 1 }, true)
 else if k = 9 then ({ a with node := numI w 1, cmd := (planI w).1 }, (planI w).2)
 else if k = 10 then ({ a with client := numI w 1, node := numI w 2, group := numI w 3, ask := (askI w 4).1 }, (askI w 4).2)
 else if k = 11 then ({ a with client := numI w 1, node := numI w 2, group := numI w 3 }, true)
 else if k = 12 then ({ a with node := numI w 1, keep := keepI 129 (w.drop 2) }, true)
 else if k = 8 ∨ k = 13 then ({ a with node := numI w 1 }, true)
 else ({ a with node := numI w 1, group := numI w 2 }, decide (0 < k))
end Go.Pln

/-
 The one act that has a line: both readers find it.
-/
namespace Go.Pln
open Go Go.Lib

theorem qcu {nodes groups : Int} {a : ActM} (h : mayAct nodes groups a = true) : 1 ≤ a.kind ∧ a.kind ≤ 13 := by
 unfold mayAct at h
 split at h
 ·
  omega
 split at h
 ·
  omega
 split at h
 ·
  omega
 split at h
 ·
  omega
 split at h
 ·
  omega
 split at h
 ·
  omega
 split at h
 ·
  omega
 ·
  cases h
theorem qfF : ∀ i : Fin 13, (kword (i.val + 1)).all okC = true ∧ kword (i.val + 1) ≠ [] ∧ ∀ j : Fin 13, kword (j.val + 1) = kword (i.val + 1) → j = i := by decide +kernel
theorem qg8 {k : Int} (h : 1 ≤ k ∧ k ≤ 13) : (kword k).all okC = true := by
 have := (qfF ⟨(k - 1).toNat, by omega⟩).1
 simp only at this
 rw [show (((k - 1).toNat : Nat) : Int) + 1 = k from by omega] at this
 exact this
theorem qfX {i j : Nat} (hi : i < 13) (hj : j < 13) (h : kword ((i : Int) + 1) = kword ((j : Int) + 1)) : i = j := by
 have := (qfF ⟨j, hj⟩).2.2 ⟨i, hi⟩ h
 exact congrArg Fin.val this
theorem askW_ok (a : AskM) : ∀ w ∈ askW a, w.all okC = true := by
 intro w hw
 unfold askW at hw
 have hw1 := fun b => (qgi b).1
 have hi := fun n => (qcy n).1
 split at hw
 ·
  simp only [List.mem_cons, List.not_mem_nil, or_false] at hw
  rcases hw with rfl | rfl
  ·
   decide
  ·
   exact hw1 _
 split at hw
 ·
  simp only [List.mem_cons, List.not_mem_nil, or_false] at hw
  rcases hw with rfl | rfl
  ·
   decide
  ·
   exact hw1 _
 split at hw
 ·
  simp only [List.mem_cons, List.not_mem_nil, or_false] at hw
  rcases hw with rfl | rfl | rfl
  ·
   decide
  ·
   exact hw1 _
  ·
   exact hw1 _
 split at hw
 ·
  simp only [List.mem_cons, List.not_mem_nil, or_false] at hw
  rcases hw with rfl | rfl | rfl | rfl
  ·
   decide
  ·
   exact hw1 _
  ·
   exact hw1 _
  ·
   exact hi _
 split at hw
 ·
  simp only [List.mem_cons, List.not_mem_nil, or_false] at hw
  rcases hw with rfl | rfl | rfl
  ·
   decide
  ·
   exact hw1 _
  ·
   exact hw1 _
 ·
  simp only [List.mem_cons, List.not_mem_nil, or_false] at hw
  rcases hw with rfl | rfl | rfl | rfl
  ·
   decide
  ·
   exact hw1 _
  ·
   exact hw1 _
  ·
   exact hw1 _
theorem planW_ok (c : CmdM) : ∀ w ∈ planW c, w.all okC = true := by
 intro w hw
 unfold planW at hw
 have hw1 := fun b => (qgi b).1
 split at hw
 ·
  simp only [List.mem_cons, List.not_mem_nil, or_false] at hw
  rcases hw with rfl | rfl
  ·
   decide
  ·
   exact hw1 _
 split at hw
 ·
  simp only [List.mem_cons, List.not_mem_nil, or_false] at hw
  rcases hw with rfl | rfl
  ·
   decide
  ·
   exact hw1 _
 ·
  simp only [List.mem_cons, List.not_mem_nil, or_false] at hw
  rcases hw with rfl | rfl | rfl
  ·
   decide
  ·
   exact hw1 _
  ·
   exact (qcy _).1
theorem qcl : ∀ {l : List (Bytes × Int)}, keepOk l = true → ∀ x ∈ l, nameOk x.1 = true ∧ 0 ≤ x.2 ∧ x.2 ≤ 2147483647
 | x :: l, h, y, hy => by
  simp only [keepOk, Bool.and_eq_true, decide_eq_true_iff] at h
  obtain ⟨⟨⟨h1, h2⟩, _⟩, h4⟩ := h
  rcases List.mem_cons.1 hy with rfl | hy
  ·
   exact ⟨h1, h2⟩
  ·
   exact qcl h4 y hy
theorem keepW_ok {l : List (Bytes × Int)} (h : keepOk l = true) : ∀ w ∈ keepW l, w.all okC = true := by
 intro w hw
 obtain ⟨x, hx, hw⟩ := List.mem_flatMap.1 hw
 simp only [List.mem_cons, List.not_mem_nil, or_false] at hw
 rcases hw with rfl | rfl
 ·
  exact (name_ok (qcl h x hx).1).1
 ·
  exact (qcy _).1
theorem qgn {nodes groups : Int} {a : ActM} (h : mayAct nodes groups a = true) (hk : a.kind = 12) : keepOk a.keep = true := by
 unfold mayAct at h
 rw [if_neg (by omega), if_neg (by omega), if_neg (by omega), if_neg (by omega), if_neg (by omega), if_neg (by omega), if_pos hk] at h
 exact (of_decide_eq_true h).2.2.2.1
theorem restW_ok {nodes groups : Int} {a : ActM} (h : mayAct nodes groups a = true) : ∀ w ∈ restW a, w.all okC = true := by
 intro w hw
 have hi := fun n => (qcy n).1
 unfold restW at hw
 split at hw
 ·
  simp only [List.mem_cons, List.not_mem_nil, or_false] at hw; subst hw; exact hi _
 split at hw
 ·
  simp only [List.mem_cons, List.not_mem_nil, or_false] at hw; subst hw; exact hi _
 split at hw
 ·
  rcases List.mem_cons.1 hw with rfl | hw
  ·
   exact hi _
  ·
   exact planW_ok _ w hw
 split at hw
 ·
  simp only [List.mem_cons] at hw
  rcases hw with rfl | rfl | rfl | hw
  ·
   exact hi _
  ·
   exact hi _
  ·
   exact hi _
  ·
   exact askW_ok _ w hw
 split at hw
 ·
  simp only [List.mem_cons, List.not_mem_nil, or_false] at hw
  rcases hw with rfl | rfl | rfl <;> exact hi _
 split at hw
 ·
  rename_i hk
  rcases List.mem_cons.1 hw with rfl | hw
  ·
   exact hi _
  ·
   exact keepW_ok (qgn h hk) w hw
 ·
  simp only [List.mem_cons, List.not_mem_nil, or_false] at hw
  rcases hw with rfl | rfl <;> exact hi _

def unlineP (s : Bytes) : Option ActM :=
 ((List.range 13).find? fun i : Nat => kword ((i : Int) + 1) == (cutS s).1).bind fun i =>
  if mayAct 5 5 (readS ((i : Int) + 1) (cutS s).2) = true ∧ lineM (readS ((i : Int) + 1) (cutS s).2) = s then some (readS ((i : Int) + 1) (cutS s).2) else none
theorem qer {k : Int} (h : 1 ≤ k ∧ k ≤ 13) : ((List.range 13).find? fun i : Nat => kword ((i : Int) + 1) == kword k) = some (k - 1).toNat := by
 have hk : (((k - 1).toNat : Nat) : Int) + 1 = k := by omega
 have hs : ((List.range 13).find? fun i : Nat => kword ((i : Int) + 1) == kword k).isSome = true := by
  rw [List.find?_isSome]
  exact ⟨(k - 1).toNat, by simp; omega, by rw [hk]; simp⟩
 obtain ⟨i, hi⟩ := Option.isSome_iff_exists.1 hs
 rw [hi]
 have h1 := List.find?_some hi
 have h2 := List.mem_of_find?_eq_some hi
 simp only [beq_iff_eq] at h1
 rw [← hk] at h1
 have := qfX (by simpa using h2) (by omega) h1
 rw [this]
theorem qcb (s : Bytes) (a : ActM) : unlineP s = some a ↔ mayAct 5 5 a = true ∧ lineM a = s := by
 constructor
 ·
  intro h
  unfold unlineP at h
  obtain ⟨i, _, h⟩ := Option.bind_eq_some_iff.1 h
  split at h
  ·
   rename_i h1
   cases h
   exact h1
  ·
   cases h
 ·
  rintro ⟨h1, rfl⟩
  have hk := qcu h1
  have hc : cutS (lineM a) = (kword a.kind, joinW (restW a)) := qbW (qg8 hk)
  unfold unlineP
  rw [hc]
  simp only
  rw [qer hk]
  simp only [Option.bind_some]
  rw [show (((a.kind - 1).toNat : Nat) : Int) + 1 = a.kind from by omega, readS_line (by decide) (by decide) h1, if_pos ⟨h1, rfl⟩]
def kindI (w : Bytes) : Int := match (List.range 13).find? fun i : Nat => kword ((i : Int) + 1) == w with
 | some i => (i : Int) + 1
 | none => 0
def unlineR (s : Bytes) : Option ActM :=
 let w := wordsS s
 let x := readI (kindI ((w[0]?).getD [])) w
 if x.2 = true ∧ mayAct 5 5 x.1 = true ∧ lineM x.1 = s then some x.1 else none
end Go.Pln

/-
 Setups, their lines, scripts' texts, and what is read of a text.
-/
namespace Go.Pln
open Go Go.Lib

structure SetM where
 nodes : Int
 groups : List (List Int)
 disk : Int
 memory : Int
 level : Int
 deriving DecidableEq
structure ScrM where
 setup : SetM
 acts : List ActM
 deriving DecidableEq
def set0 : SetM := ⟨0, [], 0, 0, 0⟩
def scr0 : ScrM := ⟨set0, []⟩
def sizesM (s : SetM) : Bool :=
 decide (1 ≤ s.nodes ∧ s.nodes ≤ 5 ∧ 1024 ≤ s.disk ∧ s.disk ≤ 1048576 ∧ 64 ≤ s.memory ∧ s.memory ≤ 4096 ∧ 256 ≤ s.level ∧ s.level ≤ 65536)
def riseM (nodes : Int) : Int → List Int → Bool
 | _, [] => true
 | p, n :: l => decide (p < n ∧ n < nodes) && riseM nodes n l
def mayGroup (nodes : Int) (l : List Int) : Bool := riseM nodes (-1) l && decide (1 ≤ l.length ∧ l.length ≤ 3)
def maySet (s : SetM) : Bool := sizesM s && decide (2 ≤ s.groups.length ∧ s.groups.length ≤ 5) && s.groups.all (mayGroup s.nodes)
def mayIn (s : SetM) (a : ActM) : Bool := maySet s && mayAct s.nodes s.groups.length a

def wGroup : Bytes := [103, 114, 111, 117, 112]
def wSetup : Bytes := [115, 101, 116, 117, 112]
def groupL (l : List Int) : Bytes := joinW (wGroup :: l.map itoa)
def firstL (s : SetM) : Bytes := joinW [wSetup, itoa s.nodes, itoa s.disk, itoa s.memory, itoa s.level]
def headsM (s : SetM) : List Bytes := firstL s :: s.groups.map groupL
def catN (l : List Bytes) : Bytes := l.flatMap fun s => s ++ [10]
def textM (s : ScrM) : Bytes := catN (headsM s.setup ++ s.acts.map lineM)
def checkM (s : ScrM) : Int × Int :=
 if maySet s.setup then
  match s.acts.findIdx? fun a => !mayIn s.setup a with
  | some i => ((i : Int), 2)
  | none => if 65536 < s.acts.length then (0, 3) else (0, 0)
 else (0, 2)

def firstV (r : Bytes) : SetM :=
 let a := numS r
 let b := numS a.2
 let c := numS b.2
 let d := numS c.2
 ⟨a.1, [], b.1, c.1, d.1⟩
def firstP (s : Bytes) : SetM × Bool :=
 let x := firstV (cutS s).2
 (x, sizesM x && decide (firstL x = s))
def firstR (s : Bytes) : SetM × Bool :=
 match wordsS s with
 | [w, a, b, c, d] => if w = wSetup then let x : SetM := ⟨numR a, [], numR b, numR c, numR d⟩; (x, sizesM x && decide (firstL x = s)) else (set0, false)
 | _ => (set0, false)
def membersV : Nat → Bytes → List Int
 | 0, _ => []
 | f + 1, s => if s = [] then [] else (numS s).1 :: membersV f (numS s).2
def membersP (s : Bytes) : List Int × Bool :=
 let l := membersV 4 (cutS s).2
 (l, decide (groupL l = s))
def ungroupR (s : Bytes) : List Int × Bool :=
 let w := wordsS s
 if w.head? = some wGroup ∧ 2 ≤ w.length ∧ w.length ≤ 4 then let l := (w.drop 1).map numR; (l, mayGroup 5 l) else ([], false)

def layP (s : ScrM) (line : Bytes) : Option ScrM :=
 if (membersP line).2 then
  if s.acts = [] ∧ s.setup.groups.length < 5 ∧ mayGroup s.setup.nodes (membersP line).1 = true then some { s with setup := { s.setup with groups := s.setup.groups ++ [(membersP line).1] } } else none
 else match unlineP line with
  | some a => if mayIn s.setup a = true ∧ s.acts.length < 65536 then some { s with acts := s.acts ++ [a] } else none
  | none => none
def layR (s : ScrM) (line : Bytes) : Option ScrM :=
 if (ungroupR line).2 = true ∧ mayGroup s.setup.nodes (ungroupR line).1 = true ∧ s.setup.groups.length < 5 ∧ s.acts = [] then some { s with setup := { s.setup with groups := s.setup.groups ++ [(ungroupR line).1] } }
 else match unlineR line with
  | some a => if mayIn s.setup a = true ∧ s.acts.length < 65536 then some { s with acts := s.acts ++ [a] } else none
  | none => none

theorem qcZ {nodes : Int} : ∀ {l : List Int} {p : Int}, -1 ≤ p → riseM nodes p l = true → ∀ n ∈ l, 0 ≤ n ∧ n < nodes
 | [], _, _, _ => fun n h => by cases h
 | m :: l, p, hp, h => by
  unfold riseM at h
  rw [Bool.and_eq_true, decide_eq_true_iff] at h
  obtain ⟨⟨h1, h2⟩, h3⟩ := h
  intro n hn
  rcases List.mem_cons.1 hn with rfl | hn
  ·
   omega
  ·
   exact qcZ (by omega) h3 n hn
theorem qf1 {a b : Int} (hab : a ≤ b) : ∀ {l : List Int} {p : Int}, riseM a p l = true → riseM b p l = true
 | [], _, _ => rfl
 | m :: l, p, h => by
  unfold riseM at h ⊢
  rw [Bool.and_eq_true, decide_eq_true_iff] at h ⊢
  exact ⟨by omega, qf1 hab h.2⟩
theorem qgr {nodes : Int} (hn : nodes ≤ 5) {l : List Int} (h : mayGroup nodes l = true) : (∀ n ∈ l, 0 ≤ n ∧ n ≤ 2147483647) ∧ 1 ≤ l.length ∧ l.length ≤ 3 ∧ mayGroup 5 l = true := by
 unfold mayGroup at h ⊢
 rw [Bool.and_eq_true, decide_eq_true_iff] at h
 refine ⟨fun n hn' => ?_, h.2.1, h.2.2, ?_⟩
 ·
  have := qcZ (by decide) h.1 n hn'
  omega
 ·
  rw [Bool.and_eq_true, decide_eq_true_iff]
  exact ⟨qf1 hn h.1, h.2⟩
theorem itoas_ok (l : List Int) : ∀ w ∈ l.map itoa, w.all okC = true := by
 intro w hw
 obtain ⟨n, _, rfl⟩ := List.mem_map.1 hw
 exact (qcy n).1
theorem qfK : wGroup.all okC = true := by decide
theorem wSetup_ok : wSetup.all okC = true := by decide
theorem qgJ (l : List Int) : wordsS (groupL l) = wGroup :: l.map itoa :=
 qc3 (by simp) fun w hw => by
  rcases List.mem_cons.1 hw with rfl | hw
  ·
   exact qfK
  ·
   exact itoas_ok l w hw
theorem firstP_iff (s : Bytes) (x : SetM) : firstP s = (x, true) ↔ sizesM x = true ∧ x.groups = [] ∧ firstL x = s := by
 constructor
 ·
  intro h
  unfold firstP at h
  simp only [Prod.mk.injEq, Bool.and_eq_true, decide_eq_true_iff] at h
  obtain ⟨rfl, h1, h2⟩ := h
  exact ⟨h1, rfl, h2⟩
 ·
  rintro ⟨h1, h2, h3⟩
  subst h3
  have h4 := of_decide_eq_true h1
  have hv : firstV (cutS (firstL x)).2 = x := by
   unfold firstL
   rw [qbW wSetup_ok]
   unfold firstV
   simp only
   rw [qaT (n := x.nodes) (by omega) (by omega), qaT (n := x.disk) (by omega) (by omega), qaT (n := x.memory) (by omega) (by omega), qaT (n := x.level) (by omega) (by omega)]
   cases x
   simp only at h2
   subst h2
   rfl
  unfold firstP
  simp only
  rw [hv, h1]
  simp
theorem qcs : ∀ (f : Nat) (l : List Int), l.length ≤ f → (∀ n ∈ l, 0 ≤ n ∧ n ≤ 2147483647) → membersV f (joinW (l.map itoa)) = l
 | 0, [], _, _ => rfl
 | f + 1, [], _, _ => by simp [membersV, joinW]
 | f + 1, n :: l, h, hl => by
  have h0 := hl n List.mem_cons_self
  rw [List.map_cons]
  unfold membersV
  rw [if_neg (join_ne (qcy n).2), qaT h0.1 h0.2]
  simp only
  rw [qcs f l (by simpa using h) fun m hm => hl m (List.mem_cons_of_mem n hm)]
theorem qea {nodes : Int} (hn : nodes ≤ 5) {l : List Int} (h : mayGroup nodes l = true) : membersP (groupL l) = (l, true) := by
 obtain ⟨h1, _, h3, _⟩ := qgr hn h
 have hv : membersV 4 (cutS (groupL l)).2 = l := by
  unfold groupL
  rw [qbW qfK]
  exact qcs 4 l (by omega) h1
 unfold membersP
 simp only
 rw [hv]
 simp
theorem qcJ {s : Bytes} (h : (membersP s).2 = true) : groupL (membersP s).1 = s := by
 unfold membersP at h ⊢
 exact of_decide_eq_true h
theorem qgM : ∀ i : Fin 13, kword ((i.val : Int) + 1) ≠ wGroup := by decide +kernel
theorem line_words {nodes groups : Int} {a : ActM} (h : mayAct nodes groups a = true) : wordsS (lineM a) = kword a.kind :: restW a :=
 qc3 (by simp) fun w hw => by
  rcases List.mem_cons.1 hw with rfl | hw
  ·
   exact qg8 (qcu h)
  ·
   exact restW_ok h w hw
theorem line_group {nodes groups : Int} {a : ActM} (h : mayAct nodes groups a = true) {l : List Int} : lineM a ≠ groupL l := by
 intro e
 have h1 := line_words h
 rw [e, qgJ] at h1
 have h2 := (List.cons.inj h1).1
 have h3 := qcu h
 have h4 := qgM ⟨(a.kind - 1).toNat, by omega⟩
 rw [show (((⟨(a.kind - 1).toNat, by omega⟩ : Fin 13).val : Nat) : Int) + 1 = a.kind by simp only; omega] at h4
 exact h4 h2.symm

def Lays (s : ScrM) (line : Bytes) (t : ScrM) : Prop :=
 (∃ g, groupL g = line ∧ mayGroup s.setup.nodes g = true ∧ s.setup.groups.length < 5 ∧ s.acts = [] ∧ t = { s with setup := { s.setup with groups := s.setup.groups ++ [g] } }) ∨
 (∃ a, mayAct 5 5 a = true ∧ lineM a = line ∧ mayIn s.setup a = true ∧ s.acts.length < 65536 ∧ t = { s with acts := s.acts ++ [a] })
theorem layP_iff {s : ScrM} (hn : s.setup.nodes ≤ 5) (line : Bytes) (t : ScrM) : layP s line = some t ↔ Lays s line t := by
 constructor
 ·
  intro h
  unfold layP at h
  split at h
  ·
   rename_i hm
   split at h
   ·
    rename_i hc
    exact .inl ⟨_, qcJ hm, hc.2.2, hc.2.1, hc.1, (Option.some.inj h).symm⟩
   ·
    cases h
  ·
   split at h
   ·
    rename_i a ha
    split at h
    ·
     rename_i hc
     have h1 := (qcb line a).1 ha
     exact .inr ⟨a, h1.1, h1.2, hc.1, hc.2, (Option.some.inj h).symm⟩
    ·
     cases h
   ·
    cases h
 ·
  rintro (⟨g, rfl, h1, h2, h3, rfl⟩ | ⟨a, h1, rfl, h2, h3, rfl⟩)
  ·
   unfold layP
   rw [qea hn h1]
   rw [if_pos rfl, if_pos ⟨h3, h2, h1⟩]
  ·
   unfold layP
   have hm : ¬ (membersP (lineM a)).2 = true := fun hm => line_group h1 (qcJ hm).symm
   rw [if_neg hm, (qcb (lineM a) a).2 ⟨h1, rfl⟩]
   simp only
   rw [if_pos ⟨h2, h3⟩]
theorem lays_nodes {s t : ScrM} {line : Bytes} (h : Lays s line t) : t.setup.nodes = s.setup.nodes := by
 rcases h with ⟨g, _, _, _, _, rfl⟩ | ⟨a, _, _, _, _, rfl⟩ <;> rfl
end Go.Pln

/-
 Texts: their lines, what is laid line by line, and what is read of a text.
-/
namespace Go.Pln
open Go Go.Lib

def cutN : Bytes → Bytes × Bytes × Bool
 | [] => ([], [], false)
 | c :: s => if c = 10 then ([], s, true) else (c :: (cutN s).1, (cutN s).2.1, (cutN s).2.2)
def splitN : Bytes → List Bytes × Bytes
 | [] => ([], [])
 | c :: s => if c = 10 then ([] :: (splitN s).1, (splitN s).2) else match (splitN s).1 with
  | [] => ([], c :: (splitN s).2)
  | x :: l => ((c :: x) :: l, (splitN s).2)
def noN (s : Bytes) : Bool := s.all fun c => c != 10
theorem qcg : ∀ (s : Bytes), splitN s = if (cutN s).2.2 then ((cutN s).1 :: (splitN (cutN s).2.1).1, (splitN (cutN s).2.1).2) else ([], s)
 | [] => rfl
 | c :: s => by
  have ih := qcg s
  rw [splitN, cutN]
  split
  ·
   rename_i hc
   simp
  ·
   simp only
   by_cases hw : (cutN s).2.2 = true
   ·
    rw [if_pos hw] at ih ⊢
    rw [ih]
   ·
    rw [if_neg hw] at ih ⊢
    rw [ih]
theorem qgs : ∀ {s : Bytes}, (cutN s).2.2 = true → (cutN s).2.1.length < s.length
 | [], h => by cases h
 | c :: s, h => by
  rw [cutN] at h ⊢
  split at h
  ·
   rename_i hc
   rw [if_pos hc]
   simp
  ·
   rename_i hc
   rw [if_neg hc]
   simp only
   have := qgs (s := s) h
   rw [List.length_cons]
   omega

def layAll (lay : ScrM → Bytes → Option ScrM) : ScrM → Nat → List Bytes → Option ScrM × Nat
 | s, n, [] => (some s, n)
 | s, n, x :: l => match lay s x with
  | some t => layAll lay t (n + 1) l
  | none => (none, n)
def parseW (first : Bytes → SetM × Bool) (lay : ScrM → Bytes → Option ScrM) (text : Bytes) : ScrM × Int × Int :=
 if 1048576 < text.length then (scr0, 0, 3)
 else match (splitN text).1 with
  | [] => (scr0, 0, 4)
  | x :: l => if (first x).2 then match layAll lay ⟨(first x).1, []⟩ 1 l with
    | (some s, n) => if (splitN text).2 ≠ [] ∨ s.setup.groups.length < 2 then (scr0, (n : Int), 4) else (s, 0, 0)
    | (none, n) => (scr0, (n : Int), 4)
   else (scr0, 0, 4)
def parseR (text : Bytes) : ScrM × Int × Int := parseW firstR layR text
def parseP (text : Bytes) : ScrM × Int × Int := parseW firstP layP text
theorem qf6 {x : Bytes} (h : (firstP x).2 = true) : (firstP x).1.nodes ≤ 5 ∧ sizesM (firstP x).1 = true ∧ (firstP x).1.groups = [] ∧ firstL (firstP x).1 = x := by
 have h1 := (firstP_iff x (firstP x).1).1 (Prod.ext rfl h)
 have h2 := of_decide_eq_true h1.1
 exact ⟨h2.2.1, h1⟩
theorem qdx : ∀ (l : List Bytes) (n : Nat) {s t : ScrM} {m : Nat}, s.setup.nodes ≤ 5 → layAll layP s n l = (some t, m) →
  ∃ gs avs, t = ⟨{ s.setup with groups := s.setup.groups ++ gs }, s.acts ++ avs⟩ ∧ l = gs.map groupL ++ avs.map lineM ∧ (s.acts ≠ [] → gs = []) ∧ (∀ g ∈ gs, mayGroup s.setup.nodes g = true) ∧
   (s.setup.groups.length ≤ 5 → t.setup.groups.length ≤ 5) ∧ (∀ a ∈ avs, mayIn t.setup a = true) ∧ (s.acts.length ≤ 65536 → t.acts.length ≤ 65536)
 | [], n, s, t, m, _, h => by
  rw [layAll] at h
  obtain ⟨rfl, _⟩ := Prod.mk.inj h |>.imp Option.some.inj id
  refine ⟨[], [], ?_, rfl, fun _ => rfl, fun g hg => (by cases hg), id, fun a ha => (by cases ha), id⟩
  cases s with
  | mk u avs => cases u; simp
 | x :: l, n, s, t, m, hs, h => by
  rw [layAll] at h
  cases hx : layP s x with
  | none =>
   rw [hx] at h
   cases h
  | some u =>
   rw [hx] at h
   simp only at h
   have hl := (layP_iff hs x u).1 hx
   obtain ⟨gs, avs, h1, h2, h3, h4, h5, h6, h7⟩ := qdx l (n + 1) (lays_nodes hl ▸ hs) h
   rcases hl with ⟨g, e, g1, g2, g3, rfl⟩ | ⟨a, a1, e, a2, a3, rfl⟩
   ·
    refine ⟨g :: gs, avs, ?_, ?_, fun hc => absurd g3 hc, ?_, ?_, h6, h7⟩
    ·
     rw [h1]
     simp
    ·
     rw [h2, ← e]
     rfl
    ·
     intro y hy
     rcases List.mem_cons.1 hy with rfl | hy
     ·
      exact g1
     ·
      exact h4 y hy
    ·
     intro _
     exact h5 (by simp only [List.length_append, List.length_cons, List.length_nil]; omega)
   ·
    have hg : gs = [] := h3 (by simp)
    subst hg
    have ht : t.setup = s.setup := by
     rw [h1]
     simp only [List.append_nil]
    refine ⟨[], a :: avs, ?_, ?_, fun _ => rfl, fun g hg => (by cases hg), ?_, ?_, ?_⟩
    ·
     rw [h1]
     simp
    ·
     rw [h2, ← e]
     rfl
    ·
     rw [ht]
     exact id
    ·
     intro y hy
     rcases List.mem_cons.1 hy with rfl | hy
     ·
      rw [ht]
      exact a2
     ·
      exact h6 y hy
    ·
     intro _
     exact h7 (by simp only [List.length_append, List.length_cons, List.length_nil]; omega)
theorem qc1 (lay : ScrM → Bytes → Option ScrM) : ∀ (l r : List Bytes) (n : Nat) {s t : ScrM} {m : Nat}, layAll lay s n l = (some t, m) → layAll lay s n (l ++ r) = layAll lay t m r
 | [], r, n, s, t, m, h => by
  rw [layAll] at h
  cases h
  rfl
 | x :: l, r, n, s, t, m, h => by
  rw [layAll] at h
  rw [List.cons_append, layAll]
  cases hx : lay s x with
  | none =>
   rw [hx] at h
   cases h
  | some u =>
   rw [hx] at h
   exact qc1 lay l r (n + 1) h
end Go.Pln

/-
 Scripts: what the library's functions say, by the shelf's contracts.
-/
namespace Go.Proofs.YtigmojilaadbhaaGreatDoor
open Go Go.Eng Go.Pln Go.Lib

abbrev powG : Nat := 3
abbrev spaceG : Nat := 0
abbrev synG : Nat := 4
abbrev rngG : Nat := 5
structure Tabs (h : Heap) : Prop where
 pow : h.get powG = some (tabB .u64 Lib.pow10Tab)
 space : h.get spaceG = some (tabB .u8 Lib.asciiSpaceTab)
 syn : h.get synG = some (errB 262)
 rng : h.get rngG = some (errB 262)
theorem Tabs.ext {h h' : Heap} (t : Tabs h) (hx : Ext h h') : Tabs h' := ⟨hx.c _ _ t.pow, hx.c _ _ t.space, hx.c _ _ t.syn, hx.c _ _ t.rng⟩
theorem pow_n : Tryz.prog.globalNamed "internal/strconv.uint64pow10" = some powG := by kernel_rfl
theorem qgv : Tryz.prog.globalNamed "strings.asciiSpace" = some spaceG := by kernel_rfl
theorem globals_n : 7 < Tryz.prog.globals.size := by decide +kernel

theorem itoa_c (n : Int) (h : Heap) (t : Tabs h) (h0 : -9223372036854775808 ≤ n) (h1 : n ≤ 9223372036854775807) : ACalls Tryz.prog 92 [.int .i64 n] h fun u h' => u = .string (bstr (Lib.itoa n)) ∧ h' = h := by
 refine ACalls.of_sim rfl rfl fun φ w s => ?_
 refine (Tryz.strconv_Itoa n h0 h1 w (s.tab pow_n (by decide +kernel) t.pow)).mono fun e w' ⟨he, k, os, hw⟩ => ⟨he, ?_⟩
 subst hw
 exact below_grow w.heap.size w (Nat.le_refl _) k os
theorem qby (s : List UInt8) : (bstr s).data.toList = s := by simp [bstr]
theorem bstr_size (s : List UInt8) : (bstr s).size = s.length := by
 show (bstr s).data.size = _
 simp [bstr]
abbrev errT : TypeId := 241
theorem atoi_c (s : List UInt8) (h : Heap) (t : Tabs h) (hl : s.length ≤ 1000000000) : ACalls Tryz.prog 129 [.string (bstr s)] h fun u h' => h' = h ∧ ∃ (z : Int) (e : Value), u = .tuple #[.int .i64 z, e] ∧
  ((e = .nilIface ∧ Lib.atoiAll s = .ok z) ∨ (e = .iface errT undef ∧ ∀ v, Lib.atoiAll s ≠ .ok v)) := by
 have hsz := bstr_size s
 have rel : ∀ (z : Int) (φ : Ren) (p : Value), VRel φ h.next (.tuple #[.int .i64 z, .iface errT undef]) (.tuple #[.int .i64 z, .iface errT p]) := fun z φ p => by
  refine .tuple _ _ rfl fun k x y hx hy => ?_
  match k, hx, hy with
  | 0, hx, hy => cases hx; cases hy; exact .int _ _
  | 1, hx, hy => cases hx; cases hy; exact .iface _ _ _ (.und p)
 have rel0 : ∀ (z : Int) (φ : Ren), VRel φ h.next (.tuple #[.int .i64 z, .nilIface]) (.tuple #[.int .i64 z, .nilIface]) := fun z φ => by
  refine .tuple _ _ rfl fun k x y hx hy => ?_
  match k, hx, hy with
  | 0, hx, hy => cases hx; cases hy; exact .int _ _
  | 1, hx, hy => cases hx; cases hy; exact .nilIface
 rcases ha : Lib.atoiAll s with v | _ | _
 ·
  refine (ACalls.of_rel (v := .tuple #[.int .i64 v, .nilIface]) fun φ w cargs s' va => ?_).mono fun u h' ⟨e1, e2⟩ => ⟨e2, v, _, e1, .inl ⟨rfl, rfl⟩⟩
  rw [va.solid_inv rfl]
  refine (Tryz.strconv_Atoi_ok (bstr s) (by omega) v (by rw [qby]; exact ha) w).mono fun e w' ⟨he, hw⟩ => ⟨_, he, rel0 v φ, ?_⟩
  rcases hw with rfl | ⟨t, rfl⟩
  ·
   exact Go.RowKit.Below.refl _ _
  ·
   exact Lib.bytesWorld_below w 5 t
 ·
  refine (ACalls.of_rel (v := .tuple #[.int .i64 0, .iface errT undef]) fun φ w cargs s' va => ?_).mono fun u h' ⟨e1, e2⟩ => ⟨e2, 0, _, e1, .inr ⟨rfl, fun v hv => by cases hv⟩⟩
  rw [va.solid_inv rfl]
  obtain ⟨c, hc, hv⟩ := s'.cell t.syn (k := 0) rfl
  obtain ⟨⟨e1, e2⟩, _⟩ := s'.glob synG (by decide +kernel)
  rw [e1, e2] at hc
  cases hv with
  | iface _ _ v' _ =>
   refine (Tryz.strconv_Atoi_syntax (bstr s) (by omega) (by rw [qby]; exact ha) _ w hc (.inr ⟨_, _, rfl⟩)).mono fun e w' ⟨N, he, _, _, hb⟩ => ⟨_, he, rel 0 φ _, hb⟩
 ·
  refine (ACalls.of_rel (v := .tuple #[.int .i64 (Lib.atoiSat s), .iface errT undef]) fun φ w cargs s' va => ?_).mono fun u h' ⟨e1, e2⟩ => ⟨e2, Lib.atoiSat s, _, e1, .inr ⟨rfl, fun v hv => by cases hv⟩⟩
  rw [va.solid_inv rfl]
  obtain ⟨c, hc, hv⟩ := s'.cell t.rng (k := 0) rfl
  obtain ⟨⟨e1, e2⟩, _⟩ := s'.glob rngG (by decide +kernel)
  rw [e1, e2] at hc
  cases hv with
  | iface _ _ v' _ =>
   refine (Tryz.strconv_Atoi_range (bstr s) (by omega) (by rw [qby]; exact ha) _ w hc (.inr ⟨_, _, rfl⟩)).mono fun e w' ⟨N, he, _, _, hb⟩ => ⟨_, he, ?_, hb⟩
   rw [qby]
   exact rel _ φ _
theorem fields_c (s : List UInt8) (h : Heap) (t : Tabs h) (hl : s.length ≤ 1000000000) (hn : (Lib.fields s).length ≤ 1000000000) (ha : ∀ (j : Nat) b, s[j]? = some b → b.toNat < 128) : ACalls Tryz.prog 96 [.string (bstr s)] h fun u h' => u = .slice (some ⟨h.next, 0, none⟩) (Lib.fields s).length (Lib.fields s).length ∧
  h' = h.alloc ⟨(Lib.fields s).map fun l => .string (bstr l), 9, true⟩ := by
 intro φ w cargs s' va
 rw [va.solid_inv rfl]
 have hsz := bstr_size s
 have hc := Tryz.strings_Fields (bstr s) w (by omega) (by rw [qby]; exact ha) (s'.tab qgv (by decide +kernel) t.space)
 rw [qby] at hc
 refine hc.mono fun e w' ⟨he, hw⟩ => ?_
 subst he
 subst hw
 obtain ⟨q1, q2⟩ := s'.alloc ((Lib.fields s).map fun l => .string (bstr l)) ((Lib.fields s).map fun l => Value.string (bstr l)).toArray 9 (0, 0) (.inl rfl) (by simp) (fun k v hk => ⟨v, by simpa using hk, by
  obtain ⟨l, _, rfl⟩ := List.mem_map.1 (List.mem_of_getElem? hk)
  exact .string _⟩)
 refine ⟨_, _, _, ⟨rfl, rfl⟩, ?_, q1, q2⟩
 have hp : (Ren.put φ h.next ⟨w.heap.size, 0, ((Lib.fields s).map fun l => Value.string (bstr l)).toArray.size⟩) h.next = ⟨w.heap.size, 0, ((Lib.fields s).map fun l => Value.string (bstr l)).toArray.size⟩ := Ren.put_at
 refine .slice _ _ _ _ _ _ _ (by show h.next < h.next + 1; omega) (Nat.le_refl _) (Nat.le_refl _) ⟨fun _ => rfl, fun e => by omega⟩ (.inl (by rw [hp])) (by unfold maxLen; omega) (fun t ht => by cases ht)
theorem join_eq : ∀ (ws : List Bytes), Lib.join ws [32] = joinW ws
 | [] => rfl
 | [w] => by simp [Lib.join, List.intercalate, joinW]
 | w :: v :: ws => by
  have ih := join_eq (v :: ws)
  unfold Lib.join List.intercalate at ih ⊢
  rw [joinW, ← ih]
  simp
theorem join_c (v : Value) (L : List Bytes) (h : Heap) (r : RS h v (L.map fun s => .string (bstr s))) (hl : (joinW L).length ≤ 100000000000) (hn : L.length ≤ 100000000000) : ACalls Tryz.prog 94 [v, .string (bstr [32])] h fun u h' => u = .string (bstr (joinW L)) ∧ h' = h := by
 refine ACalls.of_conc rfl fun φ w cargs s va => ?_
 cases va with
 | cons v1 va =>
  cases va with
  | cons v2 va =>
   cases va
   rw [v2.string_inv]
   obtain ⟨a, cap, rfl, h1, h2, h3⟩ := r.conc (List.all_eq_true.2 fun x hx => by obtain ⟨b, _, rfl⟩ := List.mem_map.1 hx; rfl) s v1
   rw [List.length_map] at h1
   rcases h3 with h3 | ⟨b, o, rfl, hb, h3⟩
   ·
    have hL : L = [] := List.map_eq_nil_iff.1 h3
    subst hL
    refine (Tryz.strings_Join_none a cap (bstr [32]) w).mono fun e w' ⟨he, hw⟩ => ⟨he, ?_⟩
    rw [hw]
    exact Go.RowKit.Below.refl _ _
   ·
    have hj := Tryz.strings_Join b o cap (L.map bstr) (bstr [32]) w (fun j x hx => by
     obtain ⟨s0, hs0, rfl⟩ : ∃ s0, L[j]? = some s0 ∧ bstr s0 = x := by
      rw [List.getElem?_map] at hx
      exact Option.map_eq_some_iff.1 hx
     exact h3 j _ (by rw [List.getElem?_map, hs0]; rfl)) hb (by rw [List.length_map]; omega) (by rw [List.length_map]; exact h1)
    have hm : (L.map bstr).map (fun x : ByteArray => x.data.toList) = L := by
     rw [List.map_map]
     exact (List.map_congr_left fun x _ => qby x).trans (List.map_id L)
    rw [hm, qby, join_eq, List.length_map] at hj
    rw [List.length_map]
    exact hj (by omega)
end Go.Proofs.YtigmojilaadbhaaGreatDoor

/-
 The engine: interface values.
-/
namespace Go.Eng
open Go

section
variable {P : Program} {h : Heap} {K : Value → Heap → Prop} {ρ : Operand → Value} {dst : Option Tmp} {ty : TypeId} {pos : String} {aft : Array Edge} {g : Option (Nat × Bool)}
theorem qeW {t : TypeId} {ms : Array (String × TypeId)} [td : TyD P t (.interface ms)] (w : World) (d : Nat) : (Op.equalIn (d + 1) t .nilIface .nilIface).run P w = .ok true w := by
 simp [Op.equalIn, td.run]
theorem qe5 {t : TypeId} {ms : Array (String × TypeId)} [td : TyD P t (.interface ms)] (u : TypeId) (v : Value) (w : World) (d : Nat) : (Op.equalIn (d + 1) t (.iface u v) .nilIface).run P w = .ok false w := by
 simp [Op.equalIn, td.run]
theorem qe3 {t t' : TypeId} {x : Operand} {ms : Array (String × TypeId)} [td : TyD P t (.interface ms)] (hx : ρ x = .nilIface) (kk : K (.bool false) h) : AOp P ⟨dst, .binOp .neq t x (.const .nilIface) t', ty, pos, aft, g⟩ ρ h K :=
 .of_pure kk fun φ ac w r => by
  have e1 := (hx ▸ r.ev x (by simp [Op.operands])).nilIface_inv
  have e2 : ac.eval (.const .nilIface) = .nilIface := rfl
  have e4 : (Op.equal t .nilIface .nilIface).run P w = .ok true w := qeW w 9999
  exact ⟨.bool false, by simp [execOp, e1, e2, eqGuard, binOp, e4], .bool _⟩
theorem qhK {t t' u : TypeId} {v : Value} {x : Operand} {ms : Array (String × TypeId)} [td : TyD P t (.interface ms)] (hx : ρ x = .iface u v) (kk : K (.bool true) h) : AOp P ⟨dst, .binOp .neq t x (.const .nilIface) t', ty, pos, aft, g⟩ ρ h K :=
 .of_pure kk fun φ ac w r => by
  obtain ⟨v', e1⟩ : ∃ v', ac.eval x = .iface u v' := by
   have := hx ▸ r.ev x (by simp [Op.operands])
   generalize ac.eval x = c at this
   cases this with
   | iface _ _ v' _ => exact ⟨v', rfl⟩
  have e2 : ac.eval (.const .nilIface) = .nilIface := rfl
  have e4 : (Op.equal t (.iface u v') .nilIface).run P w = .ok false w := qe5 u v' w 9999
  exact ⟨.bool true, by simp [execOp, e1, e2, eqGuard, binOp, e4], .bool _⟩
def notIf : TypeDesc → Bool
 | .interface _ => false
 | _ => true
theorem qa1 {t : TypeId} {x : Operand} {v : Value} {d : TypeDesc} [td : TyD P t d] (hd : notIf d = true) (hx : ρ x = v) (kk : K (.iface t v) h) : AOp P ⟨dst, .makeInterface t x, ty, pos, aft, g⟩ ρ h K :=
 .of_pure kk fun φ ac w r => by
  have e1 := hx ▸ r.ev x (by simp [Op.operands])
  refine ⟨.iface t (ac.eval x), ?_, .iface _ _ _ e1⟩
  cases d <;> first | (cases hd; done) | simp [execOp, Instr.makeInterface, run_underlying td.eq]
theorem op_taY {t xt : TypeId} {x : Operand} {v : Value} {d : TypeDesc} [td : TyD P t d] (hd : notIf d = true) (hx : ρ x = .iface t v) (kk : K (.tuple #[v, .bool true]) h) : AOp P ⟨dst, .typeAssert x xt t true, ty, pos, aft, g⟩ ρ h K :=
 .of_pure kk fun φ ac w r => by
  have e1 := hx ▸ r.ev x (by simp [Op.operands])
  generalize he : ac.eval x = c at e1
  cases e1 with
  | iface _ _ v' hv =>
   refine ⟨.tuple #[v', .bool true], ?_, .tuple _ _ rfl fun k a b ha hb => ?_⟩
   ·
    cases d <;> first | (cases hd; done) | simp [execOp, Instr.typeAssert, run_underlying td.eq, he]
   ·
    match k, ha, hb with
    | 0, ha, hb => cases ha; cases hb; exact hv
    | 1, ha, hb => cases ha; cases hb; exact .bool _
theorem op_taN {t xt u : TypeId} {sz by_ : Nat} {z : Value} {x : Operand} {v : Value} {d : TypeDesc} [td : TyD P t d] [ti : TyI P t sz by_ z] (hd : notIf d = true) (hz : plainV z = true) (hx : ρ x = .iface u v) (hne : u ≠ t) (kk : K (.tuple #[z, .bool false]) h) : AOp P ⟨dst, .typeAssert x xt t true, ty, pos, aft, g⟩ ρ h K :=
 .of_pure kk fun φ ac w r => by
  have e1 := hx ▸ r.ev x (by simp [Op.operands])
  generalize he : ac.eval x = c at e1
  cases e1 with
  | iface _ _ v' hv =>
   refine ⟨.tuple #[z, .bool false], ?_, .tuple _ _ rfl fun k a b ha hb => ?_⟩
   ·
    cases d <;> first | (cases hd; done) | simp [execOp, Instr.typeAssert, run_underlying td.eq, he, hne, ti.zero]
   ·
    match k, ha, hb with
    | 0, ha, hb => cases ha; cases hb; exact .of_plain hz
    | 1, ha, hb => cases ha; cases hb; exact .bool _
end
end Go.Eng

/-
 Cuts at a byte.
-/
namespace Go.Pln
open Go Go.Lib

def cutC (c : UInt8) : Bytes → Bytes × Bytes × Bool
 | [] => ([], [], false)
 | b :: s => if b = c then ([], s, true) else (b :: (cutC c s).1, (cutC c s).2.1, (cutC c s).2.2)
theorem cutN_eq : ∀ s : Bytes, cutN s = cutC 10 s
 | [] => rfl
 | b :: s => by rw [cutN, cutC, cutN_eq s]
theorem cutS_eq : ∀ s : Bytes, cutS s = ((cutC 32 s).1, (cutC 32 s).2.1)
 | [] => rfl
 | b :: s => by
  rw [cutS, cutC, cutS_eq s]
  split <;> rfl
theorem qhj {c : UInt8} : ∀ {s : Bytes}, (cutC c s).2.2 = true → indexByte s c = (cutC c s).1.length ∧ s = (cutC c s).1 ++ c :: (cutC c s).2.1
 | [], h => by cases h
 | b :: s, h => by
  rw [cutC] at h ⊢
  rw [indexByte]
  by_cases hb : b = c
  ·
   subst hb
   simp
  ·
   rw [if_neg hb] at h ⊢
   obtain ⟨h1, h2⟩ := qhj (s := s) h
   rw [h1, if_neg (by simpa using hb), if_neg (by simp)]
   simp only [List.length_cons, List.cons_append]
   exact ⟨by omega, congrArg (b :: ·) h2⟩
theorem cutC_no {c : UInt8} : ∀ {s : Bytes}, (cutC c s).2.2 = false → indexByte s c = -1 ∧ cutC c s = (s, [], false)
 | [], _ => ⟨rfl, rfl⟩
 | b :: s, h => by
  rw [cutC] at h ⊢
  rw [indexByte]
  by_cases hb : b = c
  ·
   rw [if_pos hb] at h
   cases h
  ·
   rw [if_neg hb] at h ⊢
   obtain ⟨h1, h2⟩ := cutC_no (s := s) h
   rw [h1, h2, if_neg (by simpa using hb), if_pos (by rfl)]
   exact ⟨rfl, rfl⟩
end Go.Pln

/-
 Scripts: cuts; a reader's words and numbers.
-/
namespace Go.Proofs.YtigmojilaadbhaaGreatDoor
open Go Go.Eng Go.Pln Go.Lib
attribute [local irreducible] AWp AL DAL AOp

instance i_TyD_int : TyD Tryz.prog 3 (.int .i64) := ⟨Tryz.underlying3⟩
instance i_TyD_uint8 : TyD Tryz.prog 5 (.int .u8) := ⟨Tryz.underlying5⟩
instance i_TyD_bool : TyD Tryz.prog 4 .bool := ⟨Tryz.underlying4⟩
instance i_TyD_string : TyD Tryz.prog 9 .string := ⟨Tryz.underlying9⟩
instance i_TyD_Sl_uint8 : TyD Tryz.prog 27 (.slice 5) := ⟨Tryz.underlying27⟩
instance i_TyD_Sl_int : TyD Tryz.prog 77 (.slice 3) := ⟨Tryz.underlying77⟩
instance i_TyD_Sl_string : TyD Tryz.prog 99 (.slice 9) := ⟨Tryz.underlying99⟩
instance i_TyI_int : TyI Tryz.prog 3 1 8 (.int .i64 0) := ⟨qaO (by kernel_rfl), rfl, rfl⟩
instance i_TyI_uint8 : TyI Tryz.prog 5 1 1 (.int .u8 0) := ⟨qaO (by kernel_rfl), rfl, rfl⟩
instance i_TyI_bool : TyI Tryz.prog 4 1 1 (.bool false) := ⟨qaO (by kernel_rfl), rfl, rfl⟩
instance i_TyI_string : TyI Tryz.prog 9 1 16 (.string ⟨#[]⟩) := ⟨qaO (by kernel_rfl), rfl, rfl⟩
instance i_TyI_Sl_uint8 : TyI Tryz.prog 27 1 24 (.slice none 0 0) := ⟨qaO (by kernel_rfl), rfl, rfl⟩
instance i_TyI_Sl_int : TyI Tryz.prog 77 1 24 (.slice none 0 0) := ⟨qaO (by kernel_rfl), rfl, rfl⟩
abbrev fd (n : String) (t o : Nat) (p : String) (b : Nat) : Field := { name := n, type := t, offset := o, embedded := false, tag := "", pkgPath := p, byteOffset := b }
instance qe8 : FAd Tryz.prog 89 0 0 := FAd.mk' (ft := 9) Tryz.underlying89 rfl rfl rfl rfl
abbrev str (s : Bytes) : Value := .string (bstr s)
abbrev ptr (i : Nat) : Value := .pointer (some ⟨i, 0, none⟩)
abbrev rdB (s : Bytes) : Blk := ⟨[str s], 89, true⟩
instance qcQ : FnC Tryz.prog 142 := ⟨Tryz.f142, Tryz.func142, by kernel_rfl, by kernel_rfl⟩
instance qc7 : FnC Tryz.prog 107 := ⟨Tryz.f107, Tryz.func107, by kernel_rfl, by kernel_rfl⟩
instance i_FnC_strings_Cut : FnC Tryz.prog 59 := ⟨Tryz.f59, Tryz.func59, by kernel_rfl, by kernel_rfl⟩
instance qcr : FnC Tryz.prog 46 := ⟨Tryz.f46, Tryz.func46, by kernel_rfl, by kernel_rfl⟩
instance qhy : FnC Tryz.prog 129 := ⟨Tryz.f129, Tryz.func129, by kernel_rfl, by kernel_rfl⟩
instance qhu : FnC Tryz.prog 92 := ⟨Tryz.f92, Tryz.func92, by kernel_rfl, by kernel_rfl⟩

theorem mixed : Tryz.prog.toTables.follows Departure.mixedOrders = true := by kernel_rfl
theorem index_c (s : Bytes) (c : UInt8) (h : Heap) : ACalls Tryz.prog 142 [str s, str [c]] h fun u h' => u = .int .i64 (Lib.indexByte s c) ∧ h' = h := by
 refine ACalls.of_sim rfl rfl fun φ w s' => ?_
 have hc := Tryz.stringslite_Index_one (bstr s) c w
 rw [qby] at hc
 refine hc.mono fun e w' ⟨he, hw⟩ => ⟨he, ?_⟩
 rw [hw]
 exact Go.RowKit.Below.refl _ _
abbrev cutV (c : UInt8) (s : Bytes) : Value := .tuple #[str (cutC c s).1, str (cutC c s).2.1, .bool (cutC c s).2.2]
set_option maxHeartbeats 1000000 in
theorem slcut_c (s : Bytes) (c : UInt8) (h : Heap) (hl : s.length ≤ 1000000000) : ACalls Tryz.prog 107 [str s, str [c]] h fun u h' => u = cutV c s ∧ h' = h := by
 refine ACalls.body Tryz.func107 rfl rfl ?_
 have ci := index_c s c h
 cases hb : (cutC c s).2.2 with
 | true =>
  obtain ⟨h1, h2⟩ := qhj hb
  rw [h1] at ci
  have hv : cutV c s = .tuple #[str (cutC c s).1, str (cutC c s).2.1, .bool true] := by simp only [cutV, hb]
  rw [hv]
  generalize (cutC c s).1 = a at h1 h2 ci ⊢
  generalize (cutC c s).2.1 = b at h2 ⊢
  have e1 : (s.take a.length).drop 0 = a := by rw [h2]; simp
  have e2 : (s.take s.length).drop (a.length + 1) = b := by rw [List.take_length, h2, show a ++ c :: b = (a ++ [c]) ++ b by simp, List.drop_left' (by simp)]
  have hc1 : (bstr [c]).size = 1 := rfl
  have hlen := congrArg List.length h2
  rw [List.length_append, List.length_cons] at hlen
  repeat (first | refine AL.nil ?_ | refine AWp.seq ?_ | refine AWp.r9 ?_ | refine AWp.c8 rfl ?_ | refine AL.set rfl rfl (qab rfl ?_) | refine AL.set rfl rfl (qam rfl ?_) | refine AL.set rfl rfl (qaf rfl ?_) | refine AL.set rfl rfl (qaa rfl ?_) | refine AL.set rfl rfl (qak rfl ?_) | refine AL.set rfl rfl (qac rfl rfl ci ?_) | refine AL.set rfl rfl (qai rfl rfl rfl (by omega) ?_))
  refine AWp.draw (σ := [(0, .R), (1, .R), (2, .R), (3, .R), (4, .R), (5, .R), (6, .R), (7, .R), (8, .R), (9, .R), (10, .R), (11, .R)]) mixed (by kernel_rfl) ?_
  repeat (first | refine DAL.r rfl rfl rfl (fun h' hx hn => qab rfl ⟨rfl, rfl⟩) ?_ | refine DAL.r rfl rfl rfl (fun h' hx hn => qam rfl ⟨rfl, rfl⟩) ?_ | refine DAL.r rfl rfl rfl (fun h' hx hn => qaa rfl ⟨rfl, rfl⟩) ?_ | refine DAL.r rfl rfl rfl (fun h' hx hn => qak rfl ⟨rfl, rfl⟩) ?_ | refine DAL.r rfl rfl rfl (fun h' hx hn => qbp (l := 0) (m := (a.length : Nat)) rfl rfl rfl (by omega) (by omega) (by omega) ⟨rfl, rfl⟩) ?_ | refine DAL.r rfl rfl rfl (fun h' hx hn => qfP rfl ⟨rfl, rfl⟩) ?_ | refine DAL.r rfl rfl rfl (fun h' hx hn => qbp (m := (s.length : Nat)) rfl rfl rfl (by omega) (by omega) (by omega) ⟨rfl, rfl⟩) ?_ | refine DAL.r rfl rfl rfl (fun h' hx hn => qax rfl rfl (by omega) ⟨rfl, rfl⟩) ?_)
  refine DAL.nil ?_
  repeat (first | refine AWp.ret ?_)
  refine ⟨_, ResV.tmp3 rfl, ?_, rfl⟩
  show Value.tuple #[str ((s.take a.length).drop 0), str ((s.take s.length).drop (a.length + 1)), .bool true] = _
  rw [e1, e2]
 | false =>
  obtain ⟨h1, h2⟩ := cutC_no hb
  rw [h1] at ci
  repeat (first | refine AL.nil ?_ | refine AWp.seq ?_ | refine AWp.r9 ?_ | refine AWp.c9 rfl ?_ | refine AWp.ret ?_ | refine AWp.k9 ?_ | refine AL.set rfl rfl (qab rfl ?_) | refine AL.set rfl rfl (qam rfl ?_) | refine AL.set rfl rfl (qaf rfl ?_) | refine AL.set rfl rfl (qaa rfl ?_) | refine AL.set rfl rfl (qak rfl ?_) | refine AL.set rfl rfl (qac rfl rfl ci ?_) | refine AL.set rfl rfl (qaj rfl rfl rfl (by omega) ?_))
  refine ⟨_, ResV.tmp3 rfl, ?_, rfl⟩
  simp only [cutV, h2]
  rfl
theorem cut_c (s : Bytes) (c : UInt8) (h : Heap) (hl : s.length ≤ 1000000000) : ACalls Tryz.prog 59 [str s, str [c]] h fun u h' => u = cutV c s ∧ h' = h := by
 refine ACalls.body Tryz.func59 rfl rfl ?_
 repeat (first | refine AL.nil ?_ | refine AWp.seq ?_ | refine AWp.r9 ?_ | refine AWp.ret ?_ | refine AL.set rfl rfl (qam rfl ?_) | refine AL.set rfl rfl (qaa rfl ?_) | refine AL.set rfl rfl (qak rfl ?_) | refine AL.set rfl rfl (qac rfl rfl (slcut_c s c h hl) ?_) | refine AL.set rfl rfl (qay rfl rfl ?_))
 exact ⟨_, ResV.tmp3 rfl, rfl, rfl⟩
theorem qhJ (i : Nat) (s : Bytes) (h : Heap) (hi : h.get i = some (rdB s)) (hl : s.length ≤ 1000000000) : ACalls Tryz.prog 46 [ptr i] h fun u h' => u = str (cutS s).1 ∧ h' = h.set i (rdB (cutS s).2) := by
 refine ACalls.body Tryz.func46 rfl rfl ?_
 rw [cutS_eq]
 repeat (first | refine AL.nil ?_ | refine AWp.seq ?_ | refine AWp.r9 ?_ | refine AWp.ret ?_ | refine AL.set rfl rfl (qat rfl ?_) | refine AL.set rfl rfl (qam rfl ?_) | refine AL.set rfl rfl (qaL rfl ?_) | refine AL.set rfl rfl (qak rfl ?_) | refine AL.set rfl rfl (qaA rfl ?_) | refine AL.set rfl rfl (qao rfl ?_) | refine AL.set rfl rfl (qad rfl rfl hi rfl ?_) | refine AL.set rfl rfl (qac rfl rfl (cut_c s 32 h hl) ?_) | refine AL.set rfl rfl (qay rfl rfl ?_) | refine AL.eff rfl (qaQ (v := str (cutC 32 s).2.1) rfl rfl rfl hi rfl (by show 0 < 1; omega) ?_))
 exact ⟨_, ResV.tmp rfl, rfl, rfl⟩
instance i_TyD_error : TyD Tryz.prog 131 (.interface #[("Error", 90)]) := ⟨Tryz.underlying131⟩
theorem Tabs.set {h : Heap} (t : Tabs h) {i : Nat} {b : Blk} (hn : 8 ≤ i) : Tabs (h.set i b) := by
 have e : ∀ g, g < 8 → (h.set i b).get g = h.get g := fun g hg => by
  simp only [Heap.set]
  rw [if_neg (by omega)]
 exact ⟨(e _ (by decide)).trans t.pow, (e _ (by decide)).trans t.space, (e _ (by decide)).trans t.syn, (e _ (by decide)).trans t.rng⟩
theorem qbn : ∀ s : Bytes, (cutS s).1.length ≤ s.length ∧ (cutS s).2.length ≤ s.length
 | [] => ⟨Nat.le_refl _, Nat.le_refl _⟩
 | c :: s => by
  rw [cutS]
  have := qbn s
  split <;> simp only [List.length_cons, List.length_nil] <;> omega
set_option maxHeartbeats 1000000 in
theorem num_c (i : Nat) (s : Bytes) (h : Heap) (hi : h.get i = some (rdB s)) (hl : s.length ≤ 1000000000) (t : Tabs h) (hn : 8 ≤ i) : ACalls Tryz.prog 97 [ptr i] h fun u h' => u = .int .i64 (numS s).1 ∧ h' = h.set i (rdB (numS s).2) := by
 refine ACalls.body Tryz.func97 rfl rfl ?_
 have hw := (qbn s).1
 unfold numS numP
 generalize hH : h.set i (rdB (cutS s).2) = H
 have tH : Tabs H := hH ▸ t.set hn
 have cn := qhJ i s h hi hl
 rw [hH] at cn
 generalize (cutS s).1 = w at hw cn ⊢
 repeat (first | refine AL.nil ?_ | refine AWp.seq ?_ | refine AWp.r9 ?_ | refine AL.set rfl rfl (qat rfl ?_) | refine AL.set rfl rfl (qaf rfl ?_))
 refine AL.set rfl rfl (qaq rfl rfl (cn.mono ?_))
 rintro _ H1 ⟨rfl, hH1⟩
 cases hH1.symm
 repeat (first | refine AL.nil ?_ | refine AWp.seq ?_ | refine AWp.r9 ?_ | refine AL.set rfl rfl (qam rfl ?_) | refine AL.set rfl rfl (qak rfl ?_))
 refine AL.set rfl rfl (qaq rfl rfl ((atoi_c w H tH (by omega)).mono ?_))
 rintro _ H1 ⟨hH1, z, e, rfl, he0⟩
 cases hH1.symm
 rcases he0 with ⟨rfl, ha⟩ | ⟨rfl, ha⟩
 ·
  have hr := qeH ha
  have ci := itoa_c z H tH hr.1 hr.2
  by_cases he : itoa z = w
  ·
   repeat (first | refine AL.nil ?_ | refine AWp.seq ?_ | refine AWp.r9 ?_ | refine AWp.c9 rfl ?_ | refine AWp.ret ?_ | refine AWp.k9 ?_ | refine AL.set rfl rfl (qab rfl ?_) | refine AL.set rfl rfl (qae rfl ?_) | refine AL.set rfl rfl (qam rfl ?_) | refine AL.set rfl rfl (qaL rfl ?_) | refine AL.set rfl rfl (qaf rfl ?_) | refine AL.set rfl rfl (qay rfl rfl ?_) | refine AL.set rfl rfl (qe3 rfl ?_) | refine AL.set rfl rfl (qac rfl rfl ci ?_) | refine AL.set rfl rfl (qb0 rfl rfl he ?_) | refine AL.set rfl rfl (qag (v := .bool _) rfl rfl ?_) | refine AL.set rfl rfl (qal (by conv => lhs; whnf) ?_) | refine AL.set rfl rfl (qar (by conv => lhs; whnf) ?_))
   refine ⟨_, ResV.tmp rfl, ?_, rfl⟩
   rw [ha]
   simp only
   rw [if_pos he]
   rfl
  ·
   repeat (first | refine AL.nil ?_ | refine AWp.seq ?_ | refine AWp.r9 ?_ | refine AWp.c8 rfl ?_ | refine AWp.ret ?_ | refine AL.set rfl rfl (qab rfl ?_) | refine AL.set rfl rfl (qae rfl ?_) | refine AL.set rfl rfl (qam rfl ?_) | refine AL.set rfl rfl (qaL rfl ?_) | refine AL.set rfl rfl (qaf rfl ?_) | refine AL.set rfl rfl (qay rfl rfl ?_) | refine AL.set rfl rfl (qe3 rfl ?_) | refine AL.set rfl rfl (qac rfl rfl ci ?_) | refine AL.set rfl rfl (qbA rfl rfl he ?_) | refine AL.set rfl rfl (qag (v := .bool _) rfl rfl ?_) | refine AL.set rfl rfl (qal (by conv => lhs; whnf) ?_) | refine AL.set rfl rfl (qar (by conv => lhs; whnf) ?_))
   refine ⟨_, ResV.tmp rfl, ?_, rfl⟩
   rw [ha]
   simp only
   rw [if_neg he]
   rfl
 ·
  repeat (first | refine AL.nil ?_ | refine AL.skip rfl rfl ?_ | refine AWp.seq ?_ | refine AWp.r9 ?_ | refine AWp.c8 rfl ?_ | refine AWp.ret ?_ | refine AL.set rfl rfl (qae rfl ?_) | refine AL.set rfl rfl (qaL rfl ?_) | refine AL.set rfl rfl (qaf rfl ?_) | refine AL.set rfl rfl (qay rfl rfl ?_) | refine AL.set rfl rfl (qhK rfl ?_) | refine AL.set rfl rfl (qag (v := .bool _) rfl rfl ?_) | refine AL.set rfl rfl (qal (by conv => lhs; whnf) ?_) | refine AL.set rfl rfl (qar (by conv => lhs; whnf) ?_))
  refine ⟨_, ResV.tmp rfl, ?_, rfl⟩
  rcases hz : Lib.atoiAll w with v | _ | _
  · exact absurd hz (ha v)
  · rfl
  · rfl
end Go.Proofs.YtigmojilaadbhaaGreatDoor

/-
 Scripts: bytes against bytes.
-/
namespace Go.Proofs.YtigmojilaadbhaaGreatDoor
open Go Go.Eng Go.Pln Go.Lib

def nums (l : Bytes) : List Int := l.map fun b => (b.toNat : Int)
theorem qhI (l : Bytes) : (nums l).length = l.length := by simp [nums]
theorem qeB (l : Bytes) : Lib.bytesOf (nums l) = l := by
 unfold Lib.bytesOf nums
 rw [List.map_map]
 exact (List.map_congr_left fun b _ => by simp).trans (List.map_id l)
theorem bytesIn {h : Heap} {φ : Go.Eng.Ren} {w : World} {v c : Value} {l : Bytes} (r : RB h v l) (s : Sim Tryz.prog φ h w) (rv : VRel φ h.next v c) : ∃ a cap, c = .slice a l.length cap ∧ Lib.BytesIn w a l.length (nums l) := by
 obtain ⟨a, cap, rfl, _, _, h3⟩ := RS.conc r (List.all_eq_true.2 fun x hx => by obtain ⟨b, _, rfl⟩ := List.mem_map.1 hx; rfl) s rv
 rw [qaH]
 refine ⟨a, cap, rfl, fun hn => ?_⟩
 rcases h3 with h3 | ⟨b, o, rfl, _, h3⟩
 ·
  have : l = [] := List.map_eq_nil_iff.1 h3
  subst this
  exact absurd hn (Nat.lt_irrefl 0)
 ·
  refine ⟨b, o, rfl, fun i hi => ?_⟩
  have hb : (bv l)[i]? = some (.int .u8 (l[i].toNat : Int)) := by
   unfold bv
   rw [List.getElem?_map, List.getElem?_eq_getElem hi]
   rfl
  rw [h3 i _ hb]
  congr 2
  unfold nums
  rw [List.getD_eq_getElem?_getD, List.getElem?_map, List.getElem?_eq_getElem hi]
  rfl
theorem qce (u v : Value) (a b : Bytes) (h : Heap) (ra : RB h u a) (rb : RB h v b) : ACalls Tryz.prog 143 [u, v] h fun x h' => x = .bool (a == b) ∧ h' = h := by
 refine ACalls.of_conc rfl fun φ w cargs s va => ?_
 cases va with
 | cons v1 va =>
  cases va with
  | cons v2 va =>
   cases va
   obtain ⟨p1, c1, rfl, i1⟩ := bytesIn ra s v1
   obtain ⟨p2, c2, rfl, i2⟩ := bytesIn rb s v2
   have hc := Tryz.bytes_Equal_all p1 p2 a.length c1 b.length c2 (nums a) (nums b) w (qhI a) (qhI b) i1 i2
   rw [qeB, qeB] at hc
   refine hc.mono fun e w' ⟨he, hw⟩ => ⟨he, ?_⟩
   rw [hw]
   exact Go.RowKit.Below.refl _ _
end Go.Proofs.YtigmojilaadbhaaGreatDoor

/-
 The engine: append(s, make([]T, k)...), where s is full.
-/
namespace Go.Eng
open Go

section
variable {P : Program} {ρ : Operand → Value} {h : Heap} {K : Value → Heap → Prop} {dst : Option Tmp} {ty : TypeId} {pos : String} {aft : Array Edge} {g : Option (Nat × Bool)}
end
end Go.Eng

/-
 The engine: slices whose cap is known. A cap of 2^64 and more stands for what is beyond 2^64.
-/
namespace Go.Eng
open Go

@[irreducible] def big : Nat := 18446744073709551616
section
variable {P : Program} {ρ : Operand → Value} {h : Heap} {K : Value → Heap → Prop} {dst : Option Tmp} {ty : TypeId} {pos : String} {aft : Array Edge} {g : Option (Nat × Bool)}
end
class XtC (P : Program) (f : FuncId) (e : outParam (Array Value → Sem Value)) : Prop where
 ex : ∃ fn, P.funcs[f]? = some fn ∧ (fn.name == "runtime.NumGoroutine") = false ∧ fn.body.isNone = true ∧ Extern.findNext fn = none ∧ Extern.find fn = some e
section
variable {P : Program} {ρ : Operand → Value} {h : Heap} {K : Value → Heap → Prop} {dst : Option Tmp} {ty : TypeId} {pos : String} {aft : Array Edge} {g : Option (Nat × Bool)}
end
end Go.Eng

/-
 The engine: what strings.Builder does: pointers «to» and from unsafe.Pointer, a row of bytes avs a string.
-/
namespace Go.Eng
open Go

theorem TyI.cells {P : Program} {t : TypeId} {s b : Nat} {z : Value} [k : TyI P t s b z] : P.cellsOf t = s := by
 obtain ⟨i, h1, h2, _⟩ := k.ex
 simp [Program.cellsOf, h1, h2]
theorem liesAt_own {P : Program} {e : TypeId} {count : Nat} (h0 : P.cellsOf e ≠ 0) (hn : 1 ≤ count) : liesAt P P.depth e count 0 e 1 = true := by
 have hd : P.depth = (2 * (P.types.size + Made.depth) + 1) + 1 := rfl
 rw [hd]
 simp only [liesAt, Bool.or_eq_true]
 left
 rw [hd]
 simp [rowAt, h0, hn, sameLayout]
section
variable {P : Program} {ρ : Operand → Value} {h : Heap} {K : Value → Heap → Prop} {dst : Option Tmp} {ty : TypeId} {pos : String} {aft : Array Edge} {g : Option (Nat × Bool)}
theorem op_toUns {s d t : TypeId} {x : Operand} {i o sz by_ : Nat} {sp : Option Nat} {z : Value} {b : Blk} [ts : TyD P s (.pointer t)] [td : TyD P d .unsafePointer] [ti : TyI P t sz by_ z] (hs : (sz == 0) = false) (hx : ρ x = .pointer (some ⟨i, o, sp⟩)) (hi : h.get i = some b) (ho : b.own = true) (hl : o < b.cells.length)
  (kk : K (.pointer (some ⟨i, o, sp⟩)) h) : AOp P ⟨dst, .convert s d x, ty, pos, aft, g⟩ ρ h K :=
 .of_pure kk fun φ ac w r => by
  have hv := hx ▸ r.ev x (by simp [Op.operands])
  obtain ⟨rfl, _, e1⟩ := hv.ptr_inv
  obtain ⟨arr, fr, a1, ⟨a2, _⟩, _, a4, _⟩ := r.sim.owned hi ho
  obtain ⟨inf, q1, q2, _⟩ := ti.ex
  have hsh : w.shape? (φ i).b = some (b.elem, arr.size) := by simp [World.shape?, a1]
  have hrun := Lib.run_to_unsafe (P := P) (w := w) (src := s) (dst := d) ⟨(φ i).b, (φ i).o + o, none⟩ ts.eq td.eq q1 (by rw [q2]; simpa using hs) hsh (by show (φ i).o + o < arr.size; omega)
  exact ⟨_, by simp [execOp, e1, hrun], e1 ▸ hv⟩
theorem op_fromUns {s d u : TypeId} {x : Operand} {i sz by_ : Nat} {sp : Option Nat} {z : Value} {b : Blk} [ts : TyD P s .unsafePointer] [td : TyD P d (.pointer u)] [ti : TyI P u sz by_ z] (hs : (sz == 0) = false) (hx : ρ x = .pointer (some ⟨i, 0, sp⟩)) (hi : h.get i = some b) (ho : b.own = true) (he : b.elem = u) (hl : sz ≤ b.cells.length)
  (kk : K (.pointer (some ⟨i, 0, sp⟩)) h) : AOp P ⟨dst, .convert s d x, ty, pos, aft, g⟩ ρ h K :=
 .of_pure kk fun φ ac w r => by
  have hv := hx ▸ r.ev x (by simp [Op.operands])
  obtain ⟨rfl, _, e1⟩ := hv.ptr_inv
  obtain ⟨arr, fr, a1, ⟨a2, _⟩, _, a4, _⟩ := r.sim.owned hi ho
  obtain ⟨inf, q1, _⟩ := ti.ex
  have hs0 : sz ≠ 0 := by simpa using hs
  have hsh : w.shape? (φ i).b = some (u, arr.size) := by simp [World.shape?, a1, he]
  have hrun := Lib.run_from_unsafe (P := P) (w := w) (src := s) (dst := d) ⟨(φ i).b, (φ i).o + 0, none⟩ ts.eq td.eq q1 hsh (by
   rw [a2]
   refine liesAt_own ?_ ?_
   ·
    rw [TyI.cells (t := u)]; exact hs0
   ·
    rw [TyI.cells (t := u)]
    exact (Nat.le_div_iff_mul_le (by omega)).2 (by omega))
  rw [Nat.add_zero] at hrun e1
  exact ⟨_, by simp [execOp, e1, hrun], e1 ▸ hv⟩
theorem qg1 {f : FuncId} {fo x : Operand} {aT : Array TypeId} {v : Value} [xt : XtC P f Extern.AbiNoEscape.same] (hf : ρ fo = .func (.func f) #[] #[]) (hx : ρ x = v) (kk : K v h) : AOp P ⟨dst, .call ⟨.value fo, #[x], aT⟩, ty, pos, aft, g⟩ ρ h K :=
 .of_pure kk fun φ ac w r => by
  obtain ⟨f1, d1, e0, s1, s2, _, _⟩ := (hf ▸ r.ev fo (by simp [Op.operands, Call.operands])).func_inv
  obtain rfl : f1 = #[] := by apply Array.eq_empty_of_size_eq_zero; rw [← s1]; rfl
  obtain rfl : d1 = #[] := by apply Array.eq_empty_of_size_eq_zero; rw [← s2]; rfl
  have e1 := hx ▸ r.ev x (by simp [Op.operands, Call.operands])
  obtain ⟨fn, q1, q2, q3, q4, q5⟩ := xt.ex
  refine ⟨ac.eval x, ?_, e1⟩
  have := run_callFunc_extern (P := P) q1 q2 q3 q4 q5 #[ac.eval x] w
  have hcmp : (Extern.AbiNoEscape.same #[ac.eval x]).run P w = .ok (ac.eval x) w := rfl
  rw [hcmp] at this
  simp [execOp, resolve, e0, Deferred.ofValue, invoke, this]
theorem qcw {t e : TypeId} {sz by_ : Nat} {z : Value} [ti : TyD P t (.pointer e)] [te : TyI P e sz by_ z] (p : Addr) (hp : p.spot = none) (w : World) (d : Nat) : (Op.equalIn (d + 1) t (.pointer (some p)) (.pointer (some p))).run P w = .ok true w := by
 obtain ⟨a, b, c⟩ := p
 subst hp
 simp [Op.equalIn, ti.run, sameAddr, te.size]
theorem qfC {t t' e : TypeId} {x y : Operand} {i o sz by_ : Nat} {z : Value} {s s' : Option Nat} [td : TyD P t (.pointer e)] [te : TyI P e sz by_ z] (hx : ρ x = .pointer (some ⟨i, o, s⟩)) (hy : ρ y = .pointer (some ⟨i, o, s'⟩)) (kk : K (.bool false) h) : AOp P ⟨dst, .binOp .neq t x y t', ty, pos, aft, g⟩ ρ h K :=
 .of_pure kk fun φ ac w r => by
  obtain ⟨_, _, e1⟩ := (hx ▸ r.ev x (by simp [Op.operands])).ptr_inv
  obtain ⟨_, _, e2⟩ := (hy ▸ r.ev y (by simp [Op.operands])).ptr_inv
  have e4 : (Op.equal t (.pointer (some ⟨(φ i).b, (φ i).o + o, none⟩)) (.pointer (some ⟨(φ i).b, (φ i).o + o, none⟩))).run P w = .ok true w := qcw _ rfl w 9999
  exact ⟨.bool false, by simp [execOp, e1, e2, eqGuard, binOp, e4], .bool _⟩
theorem op_unsData {x : Operand} {i o n c : Nat} {s : Option Nat} {aT : Array TypeId} (hx : ρ x = .slice (some ⟨i, o, s⟩) n c) (hn : 0 < n) (kk : K (.pointer (some ⟨i, o, none⟩)) h) : AOp P ⟨dst, .call ⟨.builtin .unsafeSliceData, #[x], aT⟩, ty, pos, aft, g⟩ ρ h K :=
 .of_pure kk fun φ ac w r => by
  obtain ⟨cap', a', e1, hlt, q1, q2, q3, q4, q5, q6⟩ := (hx ▸ r.ev x (by simp [Op.operands, Call.operands])).slice_inv
  obtain rfl := q4.resolve_right (by omega)
  have := Lib.run_unsafeSliceData_row (P := P) (w := w) aT ty ⟨(φ i).b, (φ i).o + o, none⟩ n cap' (by omega)
  exact ⟨.pointer (some ⟨(φ i).b, (φ i).o + o, none⟩), by simp [execOp, resolve, invoke, builtin, e1, this], .ptr _ _ hlt⟩
theorem qgI {x : Operand} {n c : Nat} {aT : Array TypeId} (hx : ρ x = .slice none n c) (kk : K (.pointer none) h) : AOp P ⟨dst, .call ⟨.builtin .unsafeSliceData, #[x], aT⟩, ty, pos, aft, g⟩ ρ h K :=
 .of_pure kk fun φ ac w r => by
  obtain ⟨_, _, e1⟩ := (hx ▸ r.ev x (by simp [Op.operands, Call.operands])).nilSlice_inv
  have := Lib.run_unsafeSliceData_nil (P := P) (w := w) aT ty 0 0
  exact ⟨.pointer none, by simp [execOp, resolve, invoke, builtin, e1, this], .nilPtr⟩
theorem op_unsStr0 {x y : Operand} {t t2 : TypeId} (hx : ρ x = .pointer none) (hy : ρ y = .int .i64 0) (kk : K (.string ByteArray.empty) h) : AOp P ⟨dst, .call ⟨.builtin .unsafeString, #[x, y], #[t, t2]⟩, ty, pos, aft, g⟩ ρ h K :=
 .of_pure kk fun φ ac w r => by
  have e1 := (hx ▸ r.ev x (by simp [Op.operands, Call.operands])).nilPtr_inv
  have e2 := (hy ▸ r.ev y (by simp [Op.operands, Call.operands])).int_inv
  have hr : (Builtin.unsafeString_ #[t, t2] ty #[.pointer none, .int .i64 0]).run P w = .ok (.string ByteArray.empty) w := rfl
  exact ⟨.string ByteArray.empty, by simp [execOp, resolve, invoke, builtin, e1, e2, hr], .string _⟩
theorem Sim.lose {φ : Ren} {w w' : World} (s : Sim P φ h w) {i : Nat} {b : Blk} (hi : h.get i = some b) (ho : b.own = true) (hos : w'.os = w.os) (htape : w'.tape = w.tape) (hout : w'.output = w.output) (hsz : w'.heap.size = w.heap.size) (hw : ∀ k, k ≠ (φ i).b → w'.heap[k]? = w.heap[k]?) :
  Sim P φ (h.kill i) w' ∧ Step φ h w φ (h.kill i) w' := by
 have hold : ∀ j bj, (h.kill i).get j = some bj → h.get j = some bj ∧ j ≠ i := by
  intro j bj hj
  simp only [Heap.kill] at hj
  split at hj
  ·
   cases hj
  ·
   exact ⟨hj, by assumption⟩
 have hne : ∀ j bj, (h.kill i).get j = some bj → (φ j).b ≠ (φ i).b := by
  intro j bj hj e
  obtain ⟨h1, h2⟩ := hold j bj hj
  exact h2 (s.apart i j b hi ho (by rw [h1]; simp) e)
 have hobj : ∀ j o, h.obj j = some o → (φ j).b ≠ (φ i).b := by
  intro j o hj e
  obtain ⟨x, h1, _, h3⟩ := (s.objs j o hj).obj
  obtain ⟨arr, fr, h4, _⟩ := s.owned hi ho
  rw [e, h4] at h1
  cases h1
  exact h3 _ _ _ rfl
 have hx : Ext (h.kill i) h := ⟨fun j bj hj => (hold j bj hj).1, fun _ _ e => e⟩
 refine ⟨⟨s.next.kill i, fun j bj hj => ?_, fun j bj hj => ?_, fun j k bj hj hoj hk e => ?_, fun g hg => s.glob g hg, fun j o hj => ?_, fun j k o hj hk e => s.apartO j k o hj hk e⟩, ⟨Nat.le_refl _, fun _ _ => rfl, hos, htape, hout, Nat.le_of_eq hsz.symm, fun k hk hno => ?_, fun k ho' => .inl (ho'.forget hx)⟩⟩
 ·
  have h1 := hold j bj hj
  exact (s.blk j bj h1.1).world (fun _ _ => rfl) (s.lt h1.1) (Nat.le_refl _) (hw _ (hne j bj hj))
 ·
  rw [hsz]
  exact s.low j bj (hold j bj hj).1
 ·
  have h1 := hold j bj hj
  refine s.apart j k bj h1.1 hoj ?_ e
  intro hn
  apply hk
  simp only [Heap.kill]
  split
  ·
   rfl
  ·
   exact hn
 ·
  exact (s.objs j o hj).world (fun _ _ => rfl) (s.ltO hj) (Nat.le_refl _) (hw _ (hobj j o hj))
 ·
  refine hw k fun e => hno (.inl ⟨i, b, hi, ho, e.symm⟩)
theorem qf9 {x y : Operand} {t t2 e : TypeId} {i by_ : Nat} {s : Option Nat} {z : Value} {l : List UInt8} [tp : TyD P t (.pointer e)] [ti : TyI P e 1 by_ z] (hx : ρ x = .pointer (some ⟨i, 0, s⟩)) (hy : ρ y = .int .i64 (l.length : Nat)) (h0 : l ≠ []) (hl : l.length ≤ 9223372036854775807) (hi : h.get i = some ⟨bv l, e, true⟩)
  (kk : K (.string (bstr l)) (h.kill i)) : AOp P ⟨dst, .call ⟨.builtin .unsafeString, #[x, y], #[t, t2]⟩, ty, pos, aft, g⟩ ρ h K :=
 .of_run fun φ ac w r => by
  obtain ⟨_, hlt, e1⟩ := (hx ▸ r.ev x (by simp [Op.operands, Call.operands])).ptr_inv
  have e2 := (hy ▸ r.ev y (by simp [Op.operands, Call.operands])).int_inv
  obtain ⟨arr, fr, a1, ⟨a2, _⟩, _, a4, a5⟩ := r.sim.owned hi rfl
  have hlen : l.length ≤ arr.size := by rw [← qaH l]; exact a4
  have hsh : w.shape? (φ i).b = some (e, arr.size) := by simp [World.shape?, a1]
  rw [a2] at e1
  have hrun := Lib.run_unsafeString_row (P := P) w t t2 ty e tp.eq TyI.cells (φ i).b arr.size hsh l h0 hlen hl (fun j x hj => by
   obtain ⟨c, hc, hv⟩ := a5 j _ (qfN l j x hj)
   rw [hv.int_inv] at hc
   by_cases h0 : j = 0
   ·
    subst h0
    simp [World.cell?, Addr.add, a1, hc]
   ·
    simp [World.cell?, Addr.add, h0, a1, hc])
  have hfz : ∀ k, k ≠ (φ i).b → (w.freeze ⟨(φ i).b, 0, none⟩ l.length).heap[k]? = w.heap[k]? := by
   intro k hk
   have hl0 : l.length ≠ 0 := by simpa using h0
   simp only [World.freeze, if_neg hl0, Array.getElem?_modify]
   rw [if_neg fun e => hk e.symm]
  have hl0 : l.length ≠ 0 := by simpa using h0
  obtain ⟨s1, s2⟩ := r.sim.lose hi rfl (w' := w.freeze ⟨(φ i).b, 0, none⟩ l.length) (by simp [World.freeze, hl0]) (by simp [World.freeze, hl0]) (by simp [World.freeze, hl0]) (by simp [World.freeze, hl0]) hfz
  refine ⟨.string (bstr l), _, φ, h.kill i, .string (bstr l), ?_, kk, .string _, s1, s2⟩
  simp only [execOp, resolve, invoke, builtin, Sem.run_bind, Sem.run_pure, Result.andThen_ok, List.map_toArray, List.map_cons, List.map_nil, e1, e2]
  rw [Nat.add_zero, hrun]
  rfl
end
end Go.Eng

/-
 The engine: two structs of plain cells, held one against the other.
-/
namespace Go.Eng
open Go

def eqV : Value → Value → Bool
 | .string a, .string b => a == b
 | .int _ a, .int _ b => a == b
 | .bool a, .bool b => a == b
 | _, _ => false
def eqOk : TypeDesc → Value → Value → Bool
 | .string, .string _, .string _ => true
 | .int _, .int k _, .int k' _ => decide (k = k')
 | .bool, .bool _, .bool _ => true
 | _, _, _ => false
class EqD (P : Program) (t : TypeId) (ds : outParam (List (Nat × TypeDesc))) : Prop where
 ex : ∃ fs : List Field, P.underlying t = some (.struct fs.toArray) ∧ P.stoodInHeld t = false ∧ P.eqGuardType P.depth t = false ∧ fs.map (fun f => (f.name != "_", f.offset, P.underlying f.type)) = ds.map fun d => (true, d.1, some d.2)
section
variable {P : Program} {ρ : Operand → Value} {h : Heap} {K : Value → Heap → Prop} {dst : Option Tmp} {ty : TypeId} {pos : String} {aft : Array Edge} {g : Option (Nat × Bool)}
theorem qfx {t : TypeId} {d : TypeDesc} (ht : P.underlying t = some d) (ha : aggB d = false) (w : World) {cs : Array Value} {o : Nat} {v : Value} (hv : cs[o]? = some v) : (part t cs o).run P w = .ok v w := by
 haveI : TyD P t d := ⟨ht⟩
 simp [part, TyD.isAgg (t := t) (d := d), ha, hv]
theorem run_eqCell {t : TypeId} {d : TypeDesc} (ht : P.underlying t = some d) (w : World) (n : Nat) {x y : Value} (hok : eqOk d x y = true) : (Op.equalIn (n + 1) t x y).run P w = .ok (eqV x y) w := by
 haveI : TyD P t d := ⟨ht⟩
 unfold eqOk at hok
 split at hok
 ·
  simp [Op.equalIn, TyD.run (t := t), eqV]
 ·
  have := of_decide_eq_true hok
  simp [Op.equalIn, TyD.run (t := t), eqV, this]
 ·
  simp [Op.equalIn, TyD.run (t := t), eqV]
 ·
  cases hok
theorem eqOk_agg {d : TypeDesc} {x y : Value} (hok : eqOk d x y = true) : aggB d = false := by
 unfold eqOk at hok
 split at hok <;> first | rfl | (cases hok)
theorem qdc (w : World) (n : Nat) (xs ys : Array Value) : ∀ (fs : List Field) (ds : List (Nat × TypeDesc)), fs.map (fun f => (f.name != "_", f.offset, P.underlying f.type)) = (ds.map fun d => (true, d.1, some d.2)) →
  (∀ d ∈ ds, ∃ x y, xs[d.1]? = some x ∧ ys[d.1]? = some y ∧ eqOk d.2 x y = true) →
  ((forIn fs ((none, ()) : Option Bool × Unit) fun f _ => (do
    if f.name ≠ "_" then
     if !(← Op.equalIn (n + 1) f.type (← part f.type xs f.offset) (← part f.type ys f.offset)) then pure (ForInStep.done (some false, ()))
     else pure (ForInStep.yield (none, ()))
    else pure (ForInStep.yield (none, ())) : Sem (ForInStep (Option Bool × Unit)))) : Sem _).run P w = .ok ((if (ds.all fun d => eqV (xs.getD d.1 undef) (ys.getD d.1 undef)) = true then none else some false), ()) w
 | [], [], _, _ => by simp
 | [], _ :: _, h, _ => by simp at h
 | _ :: _, [], h, _ => by simp at h
 | f :: fs, d :: ds, h, hd => by
  simp only [List.map_cons, List.cons.injEq, Prod.mk.injEq] at h
  obtain ⟨⟨h1, h2, h3⟩, h4⟩ := h
  obtain ⟨x, y, q1, q2, q3⟩ := hd d (by simp)
  have ih := qdc w n xs ys fs ds h4 fun d hd' => hd d (List.mem_cons_of_mem _ hd')
  have hag := eqOk_agg q3
  have p1 := qfx (P := P) h3 hag w (cs := xs) (o := f.offset) (by rw [h2]; exact q1)
  have p2 := qfx (P := P) h3 hag w (cs := ys) (o := f.offset) (by rw [h2]; exact q2)
  have p3 := run_eqCell (P := P) h3 w n q3
  have hn : f.name ≠ "_" := by simpa using h1
  have e1 : xs.getD d.1 undef = x := by rw [Array.getD_eq_getD_getElem?, q1]; rfl
  have e2 : ys.getD d.1 undef = y := by rw [Array.getD_eq_getD_getElem?, q2]; rfl
  rw [List.forIn_cons]
  simp only [hn, ne_eq, not_false_eq_true, if_true, Sem.run_bind, p1, p2, p3, Result.andThen_ok, List.all_cons, e1, e2]
  cases hb : eqV x y with
  | true =>
   simp only [Bool.not_true, Bool.false_eq_true, if_false, Sem.run_pure, Result.andThen_ok, Bool.true_and]
   exact ih
  | false => simp
theorem qf5 {t : TypeId} {ds : List (Nat × TypeDesc)} [q : EqD P t ds] (w : World) (n : Nat) (xs ys : Array Value) (hd : ∀ d ∈ ds, ∃ x y, xs[d.1]? = some x ∧ ys[d.1]? = some y ∧ eqOk d.2 x y = true) :
  (Op.equalIn (n + 2) t (.agg xs) (.agg ys)).run P w = .ok (ds.all fun d => eqV (xs.getD d.1 undef) (ys.getD d.1 undef)) w := by
 obtain ⟨fs, h1, h2, _, h4⟩ := q.ex
 haveI : TyD P t (.struct fs.toArray) := ⟨h1⟩
 have key := qdc (P := P) w n xs ys fs ds h4 hd
 unfold Op.equalIn
 simp only [Sem.run_bind, TyD.run (t := t), Result.andThen_ok, run_program, h2, Bool.false_eq_true, if_false, List.forIn_toArray]
 generalize (ds.all fun d => eqV (xs.getD d.1 undef) (ys.getD d.1 undef)) = b at key ⊢
 simp only [ne_eq, ite_not] at key ⊢
 rw [key]
 cases b <;> simp
theorem VRel.eqInv {φ : Ren} {n : Nat} {d : TypeDesc} {x y c e : Value} (hok : eqOk d x y = true) (h1 : VRel φ n x c) (h2 : VRel φ n y e) : c = x ∧ e = y := by
 unfold eqOk at hok
 split at hok
 ·
  exact ⟨h1.string_inv, h2.string_inv⟩
 ·
  exact ⟨h1.int_inv, h2.int_inv⟩
 ·
  exact ⟨h1.bool_inv, h2.bool_inv⟩
 ·
  cases hok
def eqRows (ds : List (Nat × TypeDesc)) (xs ys : List Value) : Bool := ds.all fun d => eqV (xs.getD d.1 undef) (ys.getD d.1 undef)
def okRows (ds : List (Nat × TypeDesc)) (xs ys : List Value) : Bool := ds.all fun d => Nat.blt d.1 xs.length && Nat.blt d.1 ys.length && eqOk d.2 (xs.getD d.1 undef) (ys.getD d.1 undef)
theorem eqSt_run {t : TypeId} {ds : List (Nat × TypeDesc)} [q : EqD P t ds] {φ : Ren} {n : Nat} {xs ys : List Value} {c e : Value} (hok : okRows ds xs ys = true) (h1 : VRel φ n (.agg xs.toArray) c) (h2 : VRel φ n (.agg ys.toArray) e) (w : World) (x y : Operand) :
  ∃ cs es, c = .agg cs ∧ e = .agg es ∧ (∀ op, (eqGuard op t x y c e).run P w = .ok () w) ∧ (Op.equal t c e).run P w = .ok (eqRows ds xs ys) w := by
 obtain ⟨cs, rfl, s1, r1⟩ := h1.agg_inv
 obtain ⟨es, rfl, s2, r2⟩ := h2.agg_inv
 obtain ⟨fs, q1, q2, q3, q4⟩ := q.ex
 have key : ∀ d ∈ ds, cs[d.1]? = some (xs.getD d.1 undef) ∧ es[d.1]? = some (ys.getD d.1 undef) ∧ eqOk d.2 (xs.getD d.1 undef) (ys.getD d.1 undef) = true := by
  intro d hd
  have h3 := List.all_eq_true.1 hok d hd
  simp only [Bool.and_eq_true, Nat.blt_eq] at h3
  obtain ⟨⟨l1, l2⟩, h4⟩ := h3
  simp only [List.size_toArray] at s1 s2
  have u1 : xs.toArray[d.1]? = some (xs.getD d.1 undef) := by simp [l1]
  have u2 : ys.toArray[d.1]? = some (ys.getD d.1 undef) := by simp [l2]
  have v1 := r1 d.1 _ _ u1 (Array.getElem?_eq_getElem (by omega))
  have v2 := r2 d.1 _ _ u2 (Array.getElem?_eq_getElem (by omega))
  obtain ⟨e1, e2⟩ := VRel.eqInv h4 v1 v2
  exact ⟨by rw [Array.getElem?_eq_getElem (by omega), e1], by rw [Array.getElem?_eq_getElem (by omega), e2], h4⟩
 refine ⟨cs, es, rfl, rfl, fun op => ?_, ?_⟩
 ·
  simp [eqGuard, q3]
 ·
  have h5 := qf5 (P := P) (t := t) w 9998 cs es fun d hd => ⟨_, _, (key d hd).1, (key d hd).2.1, (key d hd).2.2⟩
  have h6 : (ds.all fun d => eqV (cs.getD d.1 undef) (es.getD d.1 undef)) = eqRows ds xs ys := by
   unfold eqRows
   rw [Bool.eq_iff_iff, List.all_eq_true, List.all_eq_true]
   constructor
   ·
    intro h7 d hd
    have := h7 d hd
    rw [Array.getD_eq_getD_getElem?, Array.getD_eq_getD_getElem?, (key d hd).1, (key d hd).2.1] at this
    exact this
   ·
    intro h7 d hd
    rw [Array.getD_eq_getD_getElem?, Array.getD_eq_getD_getElem?, (key d hd).1, (key d hd).2.1]
    exact h7 d hd
  rw [h6] at h5
  exact h5
theorem op_neSt {t t' : TypeId} {x y : Operand} {ds : List (Nat × TypeDesc)} {xs ys : List Value} [q : EqD P t ds] (hx : ρ x = .agg xs.toArray) (hy : ρ y = .agg ys.toArray) (hok : okRows ds xs ys = true) (kk : K (.bool (!eqRows ds xs ys)) h) : AOp P ⟨dst, .binOp .neq t x y t', ty, pos, aft, g⟩ ρ h K :=
 .of_pure kk fun φ ac w r => by
  obtain ⟨cs, es, e1, e2, e3, e4⟩ := eqSt_run (P := P) (t := t) hok (hx ▸ r.ev x (by simp [Op.operands])) (hy ▸ r.ev y (by simp [Op.operands])) w x y
  have e3 := e3 .neq
  rw [e1, e2] at e3 e4
  exact ⟨_, by simp [execOp, e1, e2, e3, binOp, e4], .bool _⟩
theorem qdq {t t' : TypeId} {x y : Operand} {ds : List (Nat × TypeDesc)} {xs ys : List Value} {b : Bool} [q : EqD P t ds] (hx : ρ x = .agg xs.toArray) (hy : ρ y = .agg ys.toArray) (hok : okRows ds xs ys = true) (hb : eqRows ds xs ys = b) (kk : K (.bool (!b)) h) : AOp P ⟨dst, .binOp .neq t x y t', ty, pos, aft, g⟩ ρ h K :=
 op_neSt hx hy hok (by rw [hb]; exact kk)
theorem eqV_str (a b : List UInt8) : eqV (.string (bstr a)) (.string (bstr b)) = (a == b) := by
 simp only [eqV]
 rw [beq_toListBytes, qbo, qbo]
end
end Go.Eng
